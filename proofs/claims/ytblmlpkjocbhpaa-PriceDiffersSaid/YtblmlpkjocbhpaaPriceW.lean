/- The kit's spool: each number is from 0 to 65535. -/
import Derived.Test.YtblmlpkjocbhpaaPriceV
set_option linter.unusedVariables false
set_option linter.unusedSimpArgs false
namespace Go.Proofs.Ytblmlpkjocbhpaa
open Go.RowKit Go.Shelf
set_option maxRecDepth 100000

theorem bits_mask (x : Int) : ∃ r : Nat, bits .and .i64 x 65535 = (r : Int) ∧ r ≤ 65535 := by
  have h : (BitVec.ofInt 64 x &&& BitVec.ofInt 64 65535).toNat ≤ 65535 := by
    rw [BitVec.toNat_and]
    exact Nat.le_trans Nat.and_le_right (by decide)
  refine ⟨(BitVec.ofInt 64 x &&& BitVec.ofInt 64 65535).toNat, ?_, h⟩
  show IntKind.i64.wrap (((BitVec.ofInt 64 x &&& BitVec.ofInt 64 65535).toNat : Nat) : Int) = _
  exact IntWalk.i64_in _ (by omega)
/-- Block g alone has turned. -/
structure Only (g : Nat) (w w' : World) : Prop where
  below : Below g w w'
  other : ∀ b, b < w.heap.size → b ≠ g → w'.heap[b]? = w.heap[b]?
theorem Only.refl (g : Nat) (w : World) : Only g w w := ⟨Below.refl _ _, fun _ _ _ => rfl⟩
theorem Only.trans {g : Nat} {a b c : World} (h : Only g a b) (k : Only g b c) : Only g a c := ⟨h.below.trans k.below, fun i hi hg => (k.other i (Nat.lt_of_lt_of_le hi h.below.size) hg).trans (h.other i hi hg)⟩
theorem Only.set_ (g o : Nat) (w : World) (v : Value) : Only g w (w.setCell ⟨g, o, none⟩ v) := ⟨(Below.refl g w).setCell (p := ⟨g, o, none⟩) (Nat.le_refl _) v, fun b _ hb => Below.heap_setCell w ⟨g, o, none⟩ v b hb⟩
theorem Only.drew {g : Nat} {w w' : World} (h : Only g w w') : Only g w w'.drew := ⟨h.below.drew, h.other⟩
theorem turn_nil (w : World) (g : Nat) (A : Option Addr) (c k : Nat) (st : Int) (h : Blk w g 133 #[.slice A 0 c, iv k, .int .u64 st]) (hk : k < 4611686018427387904) :
    Calls Try.prog 80 #[.pointer (some ⟨g, 0, none⟩)] w fun e w' => ∃ (r : Nat) (st' : Int), e = .returned (iv r) ∧ r ≤ 65535 ∧ Blk w' g 133 #[.slice A 0 c, iv (k + 1 : Nat), .int .u64 st'] ∧ Only g w w' := by
  have h0 := h.cell 0
  have h1 := h.cell 1
  have h2 := h.cell 2
  have f1 := h.frozen
  have hk1 : IntKind.i64.wrap ((k : Int) + 1) = ((k + 1 : Nat) : Int) := IntWalk.i64_in _ (by omega)
  have hk3 : (0 : Int) < (k : Int) + 1 := by omega
  have HH := Lib.hid h
  clear h
  go_enter Try.func80, Try.ntmps80
  go_wp2
  go_region
  go_wp2
  go_region
  go_wp2
  obtain ⟨r, hr, hr2⟩ := bits_mask (wrap64 (bits .xor .u64 (IntKind.u64.wrap (IntKind.u64.wrap (st * 1103515245) + 12345) / 8) (IntKind.u64.wrap (IntKind.u64.wrap (st * 1103515245) + 12345) / 524288)))
  rw [hr]
  go_ret
  refine ⟨r, _, rfl, hr2, (HH.out.set_ 1 (.int .i64 ((k : Int) + 1))).set_ 2 (.int .u64 (IntKind.u64.wrap (IntKind.u64.wrap (st * 1103515245) + 12345))), ((Only.set_ g 1 w _).trans (Only.set_ g 2 _ _)).drew.drew⟩
def byteE : Enc Int := ⟨fun x => [.int .u8 x], 1, fun _ => rfl, fun _ u h => by simp at h; subst h; rfl, by decide⟩
theorem turn_cons (w : World) (g : Nat) (b off n c k : Nat) (y st : Int) (h : Blk w g 133 #[.slice (some ⟨b, off, none⟩) n c, iv k, .int .u64 st]) (hk : k < 4611686018427387904) (hn : 0 < n) (hy : w.cell? ⟨b, off + k % n, none⟩ = some (.int .u8 y)) (hbg : b ≠ g) :
    Calls Try.prog 80 #[.pointer (some ⟨g, 0, none⟩)] w fun e w' => ∃ (r : Nat) (st' : Int), e = .returned (iv r) ∧ r ≤ 65535 ∧ Blk w' g 133 #[.slice (some ⟨b, off, none⟩) n c, iv (k + 1 : Nat), .int .u64 st'] ∧ Only g w w' := by
  have h0 := h.cell 0
  have h1 := h.cell 1
  have h2 := h.cell 2
  have f1 := h.frozen
  have hk1 : IntKind.i64.wrap ((k : Int) + 1) = ((k + 1 : Nat) : Int) := IntWalk.i64_in _ (by omega)
  have hn' : (0 : Int) < (n : Int) := by omega
  have hn0 : ¬ (n : Int) = 0 := by omega
  have hm : (k : Int).tmod (n : Int) = ((k % n : Nat) : Int) := by rw [Int.tmod_eq_emod_of_nonneg (by omega)]; rfl
  have hlt : k % n < n := Nat.mod_lt _ hn
  have hgb : ¬ g = b := fun e => hbg e.symm
  have HH := Lib.hid h
  clear h
  by_cases hkn : (n : Int) < (k : Int) + 1
  · go_enter Try.func80, Try.ntmps80
    go_wp2
    go_region
    go_wp2
    go_region
    go_wp2
    go_region
    go_wp2
    go_ret
    refine ⟨(bits_mask _).choose, IntKind.u64.wrap (IntKind.u64.wrap (IntKind.u64.wrap (st + IntKind.u64.wrap (IntKind.u64.wrap y * 977)) * 1103515245) + 12345), ret_eq (congrArg (Value.int .i64) (bits_mask _).choose_spec.1), (bits_mask _).choose_spec.2, ?b, ?o⟩
    case b => exact ((HH.out.set_ 2 (.int .u64 (IntKind.u64.wrap (st + IntKind.u64.wrap (IntKind.u64.wrap y * 977))))).set_ 1 (.int .i64 ((k : Int) + 1))).set_ 2 (.int .u64 (IntKind.u64.wrap (IntKind.u64.wrap (IntKind.u64.wrap (st + IntKind.u64.wrap (IntKind.u64.wrap y * 977)) * 1103515245) + 12345)))
    case o => exact (((Only.set_ g 2 w _).trans (Only.set_ g 1 _ _)).trans (Only.set_ g 2 _ _)).drew.drew.drew
  · have hkm : ¬ (n : Int) < ((k + 1 : Nat) : Int) := by omega
    go_enter Try.func80, Try.ntmps80
    go_wp2
    go_region
    go_wp2
    go_region
    go_wp2
    go_region
    go_wp2
    go_ret
    refine ⟨(bits_mask _).choose, IntKind.u64.wrap (st + IntKind.u64.wrap (IntKind.u64.wrap y * 977)), ret_eq (congrArg (Value.int .i64) (bits_mask _).choose_spec.1), (bits_mask _).choose_spec.2, ?b, ?o⟩
    case b => exact (HH.out.set_ 2 (.int .u64 (IntKind.u64.wrap (st + IntKind.u64.wrap (IntKind.u64.wrap y * 977))))).set_ 1 (.int .i64 ((k : Int) + 1))
    case o => exact ((Only.set_ g 2 w _).trans (Only.set_ g 1 _ _)).drew.drew.drew
/-- Block g is a spool that has given k numbers; it and its bytes lie below B. -/
def IsSpool (B : Nat) (w : World) (g k : Nat) : Prop := g < B ∧ B ≤ w.heap.size ∧ ∃ A n c st, Blk w g 133 #[.slice A n c, iv k, .int .u64 st] ∧ (0 < n → ∃ b off, A = some ⟨b, off, none⟩ ∧ b ≠ g ∧ b < B ∧ ∀ i, i < n → ∃ y, w.cell? ⟨b, off + i, none⟩ = some (.int .u8 y))
theorem IsSpool.keep {B : Nat} {w w' : World} {g k : Nat} (h : IsSpool B w g k) (hz : w.heap.size ≤ w'.heap.size) (hk : ∀ b, b < B → w'.heap[b]? = w.heap[b]?) : IsSpool B w' g k := by
  obtain ⟨hg, hB, A, n, c, st, hb, hs⟩ := h
  refine ⟨hg, Nat.le_trans hB hz, A, n, c, st, (hk g hg).trans hb, fun hn => ?_⟩
  obtain ⟨b, off, hA, hbg, hbl, hc⟩ := hs hn
  refine ⟨b, off, hA, hbg, hbl, fun i hi => ?_⟩
  obtain ⟨y, hy⟩ := hc i hi
  exact ⟨y, by rw [World.cell?_of_block (w := w) (hk b hbl)]; exact hy⟩
theorem IsSpool.below {B B' : Nat} {w w' : World} {g k : Nat} (h : IsSpool B w g k) (hb : Below B' w w') (hB : B ≤ B') : IsSpool B w' g k := h.keep hb.size fun b hl => hb.block b (by omega)
theorem Only.setCell {g : Nat} {w w' : World} (h : Only g w w') {p : Addr} (hg : g ≤ p.block) (hp : w.heap.size ≤ p.block) (v : Value) : Only g w (w'.setCell p v) :=
  ⟨h.below.setCell hg v, fun b hb hne => (Below.heap_setCell w' p v b (by omega)).trans (h.other b hb hne)⟩
theorem Only.next {g B : Nat} {w w1 w2 : World} (h : Only g w w1) (hb : Below B w1 w2) (hg : g ≤ B) (hB : w.heap.size ≤ B) : Only g w w2 :=
  ⟨h.below.trans (hb.mono hg), fun b hl hne => (hb.block b (by omega)).trans (h.other b hl hne)⟩
theorem turn_spec (B : Nat) (w : World) (g k : Nat) (h : IsSpool B w g k) (hk : k < 4611686018427387904) :
    Calls Try.prog 80 #[.pointer (some ⟨g, 0, none⟩)] w fun e w' => ∃ r : Nat, e = .returned (iv r) ∧ r ≤ 65535 ∧ IsSpool B w' g (k + 1) ∧ Only g w w' := by
  obtain ⟨hg, hB, A, n, c, st, hb, hs⟩ := h
  by_cases hn : n = 0
  · subst hn
    refine (turn_nil w g A c k st hb hk).mono ?_
    rintro e w' ⟨r, st', rfl, hr, hb', ho⟩
    exact ⟨r, rfl, hr, ⟨hg, Nat.le_trans hB ho.below.size, A, 0, c, st', hb', fun h => absurd h (by omega)⟩, ho⟩
  · have hn0 : 0 < n := Nat.pos_of_ne_zero hn
    obtain ⟨b, off, rfl, hbg, hbl, hc⟩ := hs hn0
    obtain ⟨y, hy⟩ := hc (k % n) (Nat.mod_lt _ hn0)
    refine (turn_cons w g b off n c k y st hb hk hn0 hy hbg).mono ?_
    rintro e w' ⟨r, st', rfl, hr, hb', ho⟩
    refine ⟨r, rfl, hr, ⟨hg, Nat.le_trans hB ho.below.size, _, n, c, st', hb', fun _ => ⟨b, off, rfl, hbg, hbl, fun i hi => ?_⟩⟩, ho⟩
    obtain ⟨y', hy'⟩ := hc i hi
    exact ⟨y', by rw [World.cell?_of_block (w := w) (ho.other b (by omega) hbg)]; exact hy'⟩
end Go.Proofs.Ytblmlpkjocbhpaa
