/- The kit's spool: each number is from 0 to 65535. Conditions: fewer than 2^62 numbers, limits below 2^40. -/
import Derived.Test.YtekkhnjepcebkaaDoorFlF
import Derived.BigQuiet
set_option linter.unusedVariables false
set_option linter.unusedSimpArgs false
namespace Go.Proofs.YtekkhnjepcebkaaDoor
namespace Fl
open Go.RowKit Go.Shelf
set_option maxRecDepth 100000

theorem bits_mask (x : Int) : ∃ r : Nat, bits .and .i64 x 65535 = (r : Int) ∧ r ≤ 65535 := by
  have h : (BitVec.ofInt 64 x &&& BitVec.ofInt 64 65535).toNat ≤ 65535 := by
    rw [BitVec.toNat_and]
    exact Nat.le_trans Nat.and_le_right (by decide)
  refine ⟨(BitVec.ofInt 64 x &&& BitVec.ofInt 64 65535).toNat, ?_, h⟩
  show IntKind.i64.wrap (((BitVec.ofInt 64 x &&& BitVec.ofInt 64 65535).toNat : Nat) : Int) = _
  exact IntWalk.i64_in _ (by omega)
def byteE : Enc Int := ⟨fun x => [.int .u8 x], 1, fun _ => rfl, fun _ u h => by simp at h; subst h; rfl, by decide⟩
theorem Only.setCell {g : Nat} {w w' : World} (h : Only g w w') {p : Addr} (hg : g ≤ p.block) (hp : w.heap.size ≤ p.block) (v : Value) : Only g w (w'.setCell p v) :=
  ⟨h.below.setCell hg v, fun b hb hne => (Below.heap_setCell w' p v b (by omega)).trans (h.other b hb hne)⟩
theorem Only.nextB {g B : Nat} {w w1 w2 : World} (h : Only g w w1) (hb : Below B w1 w2) (hg : g ≤ B) (hB : w.heap.size ≤ B) : Only g w w2 :=
  ⟨h.below.trans (hb.mono hg), fun b hl hne => (hb.block b (by omega)).trans (h.other b hl hne)⟩
end Fl
end Go.Proofs.YtekkhnjepcebkaaDoor
