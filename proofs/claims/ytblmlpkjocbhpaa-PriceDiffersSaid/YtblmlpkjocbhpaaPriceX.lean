/- The kit's spool: Upto, From, Once. Conditions: fewer than 2^62 numbers, limits below 2^40. -/
import Derived.Test.YtblmlpkjocbhpaaPriceW
set_option linter.unusedVariables false
set_option linter.unusedSimpArgs false
namespace Go.Proofs.Ytblmlpkjocbhpaa
open Go.RowKit Go.Shelf
set_option maxRecDepth 100000

theorem upto_spec (B : Nat) (w : World) (g k : Nat) (n : Nat) (h : IsSpool B w g k) (hk : k < 4611686018427387904) (hn : n ≤ 1000000) :
    Calls Try.prog 16 #[.pointer (some ⟨g, 0, none⟩), iv n] w fun e w' => ∃ r : Nat, e = .returned (iv r) ∧ r ≤ n ∧ IsSpool B w' g (k + 1) ∧ Only g w w' := by
  have hn1 : IntKind.i64.wrap ((n : Int) + 1) = ((n + 1 : Nat) : Int) := IntWalk.i64_in _ (by omega)
  have hmx : max (1 : Int) ((n : Int) + 1) = ((n + 1 : Nat) : Int) := by omega
  have HT := Lib.hid (turn_spec B w g k h hk)
  go_enter Try.func16, Try.ntmps16
  go_wp2_with (go_at_call 80; refine HT.out.mono ?_; rintro e w1 ⟨r, rfl, hr, hsp, ho⟩; have hne : ¬ (n : Int) + 1 = 0 := by omega)
  go_ret
  have hm : (r : Int) % ((n : Int) + 1) = ((r % (n + 1) : Nat) : Int) := by push_cast; rfl
  exact ⟨r % (n + 1), ret_eq (congrArg (Value.int .i64) hm), by have := Nat.mod_lt r (show 0 < n + 1 by omega); omega, hsp, ho⟩
theorem from_spec (B : Nat) (w : World) (g k lo hi : Nat) (h : IsSpool B w g k) (hk : k < 4611686018427387904) (hl : lo ≤ hi) (hn : hi ≤ 1000000) :
    Calls Try.prog 51 #[.pointer (some ⟨g, 0, none⟩), iv lo, iv hi] w fun e w' => ∃ r : Nat, e = .returned (iv r) ∧ lo ≤ r ∧ r ≤ hi ∧ IsSpool B w' g (k + 1) ∧ Only g w w' := by
  have HU := Lib.hid (upto_spec B w g k (hi - lo) h hk (by omega))
  have hs : (hi : Int) - (lo : Int) = ((hi - lo : Nat) : Int) := by omega
  have hs1 : IntKind.i64.wrap ((hi : Int) - (lo : Int)) = ((hi - lo : Nat) : Int) := by rw [hs]; exact IntWalk.i64_in _ (by omega)
  go_enter Try.func51, Try.ntmps51
  go_wp2_with (go_at_call 16; (try rw [hs]); refine HU.out.mono ?_; rintro e w1 ⟨r, rfl, hr, hsp, ho⟩; have hs2 : IntKind.i64.wrap ((lo : Int) + (r : Int)) = ((lo + r : Nat) : Int) := IntWalk.i64_in _ (by omega))
  go_ret
  exact ⟨lo + r, by first | rfl | (push_cast; rfl), by omega, by omega, hsp, ho⟩
theorem once_spec (B : Nat) (w : World) (g k n : Nat) (h : IsSpool B w g k) (hk : k < 4611686018427387904) (hl : 1 ≤ n) (hn : n ≤ 1000000) :
    Calls Try.prog 75 #[.pointer (some ⟨g, 0, none⟩), iv n] w fun e w' => ∃ b : Bool, e = .returned (.bool b) ∧ IsSpool B w' g (k + 1) ∧ Only g w w' := by
  have HU := Lib.hid (upto_spec B w g k (n - 1) h hk (by omega))
  have hs : (n : Int) - 1 = ((n - 1 : Nat) : Int) := by omega
  go_enter Try.func75, Try.ntmps75
  go_wp2_with (go_at_call 16; (try rw [hs]); refine HU.out.mono ?_; rintro e w1 ⟨r, rfl, hr, hsp, ho⟩)
  go_ret
  exact ⟨_, rfl, hsp, ho⟩
theorem wound_spec (A : Option Addr) (bs : List Int) (c : Nat) (w : World) (hs : Sl byteE w A bs) :
    Calls Try.prog 15 #[.slice A bs.length c] w fun e w' => ∃ g, e = .returned (.pointer (some ⟨g, 0, none⟩)) ∧ g = w.heap.size ∧ IsSpool (g + 1) w' g 0 ∧ Below w.heap.size w w' := by
  go_enter Try.func15, Try.ntmps15
  go_wp2
  go_ret
  refine ⟨w.heap.size, rfl, rfl, ⟨by omega, by simp, A, bs.length, c, IntKind.u64.wrap bs.length, Blk.new _ _ _, fun hn => ?_⟩, (Below.refl _ _).alloc (Nat.le_refl _) _⟩
  have hne : bs ≠ [] := fun e => by rw [e] at hn; simp at hn
  obtain ⟨b, off, rfl, hb, hc⟩ := hs hne
  refine ⟨b, off, rfl, by omega, by omega, fun i hi => ⟨bs[i], ?_⟩⟩
  have := hc i bs[i] (List.getElem?_eq_getElem hi) 0 (.int .u8 bs[i]) rfl
  rw [World.cell?_of_block (w := w) (Below.heap_alloc w _ b hb)]
  simpa [byteE] using this
end Go.Proofs.Ytblmlpkjocbhpaa
