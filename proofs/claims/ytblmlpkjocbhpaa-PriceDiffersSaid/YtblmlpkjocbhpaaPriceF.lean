/- slices.Clone and petershamkit.Dup; the error of a sale. Condition: lengths are below a great bound. -/
import Derived.Test.YtblmlpkjocbhpaaPriceE
import Derived.Test.YtblmlpkjocbhpaaMem2
import Derived.Lib.SliceRun
set_option linter.unusedVariables false
set_option linter.unusedSimpArgs false
namespace Go.Proofs.Ytblmlpkjocbhpaa
open Go.RowKit
set_option maxRecDepth 100000

theorem tyRules : SlTy Try.prog 28 27 4 := slTy_of (z := .agg #[iv 0, iv 0, iv 0, iv 0]) (bytes := 32) Try.underlying28 (by kernel_rfl) rfl (by decide)
theorem tyPieces : SlTy Try.prog 32 42 3 := slTy_of (z := .agg #[iv 0, iv 0, iv 0]) (bytes := 24) Try.underlying32 (by kernel_rfl) rfl (by decide)

theorem cloneI (A : Option Addr) (l : List Int) (c : Nat) (w : World) (hm : l.length ≤ big) (hs : Sl intE w A l) :
    Calls Try.prog 19 #[.slice A l.length c] w fun e w' => ∃ v, e = .returned v ∧ Own intE 3 w.heap.size w' v l ∧ Below w.heap.size w w' := by
  cases A with
  | none =>
    have hl : l = [] := by
      by_cases h : l = []
      · exact h
      · obtain ⟨_, _, h, _⟩ := hs h; cases h
    subst hl
    have hnil := fun w => Lib.run_eql_slice_nil (P := Try.prog) w 29 3 none 0 c 0 0 Try.underlying29
    go_enter Try.func19, Try.ntmps19
    go_wp2
    go_ret
    exact ⟨_, rfl, Own.nil, Below.refl _ _⟩
  | some ad =>
    have hnil := fun w => Lib.run_eql_slice_nil (P := Try.prog) w 29 3 (some ad) l.length c 0 0 Try.underlying29
    go_enter Try.func19, Try.ntmps19
    go_wp2_with (at_builtin; refine wpAppS intE tyInts rfl _ _ rfl (Own.empty (Nat.le_refl _)) (hs.alloc _) rfl rfl (by simp) (by simpa using hm) ?_; intro v1 w1 hown1 hb1 _)
    go_ret
    exact ⟨_, rfl, by simpa using hown1, ((Below.refl _ _).alloc (Nat.le_refl _) _).trans hb1⟩
theorem cloneR (A : Option Addr) (l : List Rule) (c : Nat) (w : World) (hm : l.length ≤ big) (hs : Sl ruleE w A l) :
    Calls Try.prog 63 #[.slice A l.length c] w fun e w' => ∃ v, e = .returned v ∧ Own ruleE 27 w.heap.size w' v l ∧ Below w.heap.size w w' := by
  cases A with
  | none =>
    have hl : l = [] := by
      by_cases h : l = []
      · exact h
      · obtain ⟨_, _, h, _⟩ := hs h; cases h
    subst hl
    have hnil := fun w => Lib.run_eql_slice_nil (P := Try.prog) w 28 27 none 0 c 0 0 Try.underlying28
    go_enter Try.func63, Try.ntmps63
    go_wp2
    go_ret
    exact ⟨_, rfl, Own.nil, Below.refl _ _⟩
  | some ad =>
    have hnil := fun w => Lib.run_eql_slice_nil (P := Try.prog) w 28 27 (some ad) l.length c 0 0 Try.underlying28
    go_enter Try.func63, Try.ntmps63
    go_wp2_with (at_builtin; refine wpAppS ruleE tyRules rfl _ _ rfl (Own.empty (Nat.le_refl _)) (hs.alloc _) rfl rfl (by simp) (by simpa using hm) ?_; intro v1 w1 hown1 hb1 _)
    go_ret
    exact ⟨_, rfl, by simpa using hown1, ((Below.refl _ _).alloc (Nat.le_refl _) _).trans hb1⟩
theorem cloneP (A : Option Addr) (l : List Piece) (c : Nat) (w : World) (hm : l.length ≤ big) (hs : Sl pieceE w A l) :
    Calls Try.prog 21 #[.slice A l.length c] w fun e w' => ∃ v, e = .returned v ∧ Own pieceE 42 w.heap.size w' v l ∧ Below w.heap.size w w' := by
  cases A with
  | none =>
    have hl : l = [] := by
      by_cases h : l = []
      · exact h
      · obtain ⟨_, _, h, _⟩ := hs h; cases h
    subst hl
    have hnil := fun w => Lib.run_eql_slice_nil (P := Try.prog) w 32 42 none 0 c 0 0 Try.underlying32
    go_enter Try.func21, Try.ntmps21
    go_wp2
    go_ret
    exact ⟨_, rfl, Own.nil, Below.refl _ _⟩
  | some ad =>
    have hnil := fun w => Lib.run_eql_slice_nil (P := Try.prog) w 32 42 (some ad) l.length c 0 0 Try.underlying32
    go_enter Try.func21, Try.ntmps21
    go_wp2_with (at_builtin; refine wpAppS pieceE tyPieces rfl _ _ rfl (Own.empty (Nat.le_refl _)) (hs.alloc _) rfl rfl (by simp) (by simpa using hm) ?_; intro v1 w1 hown1 hb1 _)
    go_ret
    exact ⟨_, rfl, by simpa using hown1, ((Below.refl _ _).alloc (Nat.le_refl _) _).trans hb1⟩
theorem dupI (A : Option Addr) (l : List Int) (c : Nat) (w : World) (hm : l.length ≤ big) (hs : Sl intE w A l) :
    Calls Try.prog 33 #[.slice A l.length c] w fun e w' => ∃ v, e = .returned v ∧ Own intE 3 w.heap.size w' v l ∧ Below w.heap.size w w' := by
  go_enter Try.func33, Try.ntmps33
  go_wp2_with (first
    | (at_make; refine wpMake0 intE tyInts rfl _ _ rfl l.length rfl rfl hm ?_; intro w1 hown1 hb1)
    | (at_builtin; refine wpAppS intE tyInts rfl _ _ rfl hown1 (hs.below hb1) rfl rfl hb1.size (by simpa using hm) ?_; intro v2 w2 hown2 hb2 _))
  go_ret
  exact ⟨_, rfl, by simpa using hown2, hb1.trans hb2⟩
theorem dupR (A : Option Addr) (l : List Rule) (c : Nat) (w : World) (hm : l.length ≤ big) (hs : Sl ruleE w A l) :
    Calls Try.prog 22 #[.slice A l.length c] w fun e w' => ∃ v, e = .returned v ∧ Own ruleE 27 w.heap.size w' v l ∧ Below w.heap.size w w' := by
  go_enter Try.func22, Try.ntmps22
  go_wp2_with (first
    | (at_make; refine wpMake0 ruleE tyRules rfl _ _ rfl l.length rfl rfl hm ?_; intro w1 hown1 hb1)
    | (at_builtin; refine wpAppS ruleE tyRules rfl _ _ rfl hown1 (hs.below hb1) rfl rfl hb1.size (by simpa using hm) ?_; intro v2 w2 hown2 hb2 _))
  go_ret
  exact ⟨_, rfl, by simpa using hown2, hb1.trans hb2⟩
theorem dupP (A : Option Addr) (l : List Piece) (c : Nat) (w : World) (hm : l.length ≤ big) (hs : Sl pieceE w A l) :
    Calls Try.prog 34 #[.slice A l.length c] w fun e w' => ∃ v, e = .returned v ∧ Own pieceE 42 w.heap.size w' v l ∧ Below w.heap.size w w' := by
  go_enter Try.func34, Try.ntmps34
  go_wp2_with (first
    | (at_make; refine wpMake0 pieceE tyPieces rfl _ _ rfl l.length rfl rfl hm ?_; intro w1 hown1 hb1)
    | (at_builtin; refine wpAppS pieceE tyPieces rfl _ _ rfl hown1 (hs.below hb1) rfl rfl hb1.size (by simpa using hm) ?_; intro v2 w2 hown2 hb2 _))
  go_ret
  exact ⟨_, rfl, by simpa using hown2, hb1.trans hb2⟩

abbrev saleV (fall : Int) (A : Option Addr) (n c : Nat) : Value := .agg #[iv fall, .slice A n c]
theorem nines_spec (n : Int) (w : World) : Calls Try.prog 100 #[iv n] w fun e w' => e = .returned (.bool (Price.inB n 0 9)) ∧ w = w' := by
  go_enter Try.func100, Try.ntmps100
  go_wp2_with (go_at_call 98; refine (in_spec _ _ _ _).mono ?_; rintro e w' ⟨rfl, rfl⟩)
  go_ret
  exact ⟨rfl, rfl⟩
theorem ninesPred (w : World) (l : List Int) : IsPred Try.prog w 100 #[] iv l (Price.inB · 0 9) :=
  ⟨callFunc_run (by kernel_rfl), fun x _ w' _ => (nines_spec x w').mono fun _ _ h => ⟨h.1, by rw [← h.2]; exact Below.refl _ _⟩⟩
theorem checkSale_spec (fall : Int) (A : Option Addr) (l : List Int) (c : Nat) (w : World) (hm : l.length ≤ big) (hs : Sl intE w A l) :
    Calls Try.prog 45 #[saleV fall A l.length c] w fun e w' => e = .returned (iv (Price.checkSale fall l)) ∧ Below w.heap.size w w' := by
  cases h1 : Price.inB l.length 1 8
  · go_enter Try.func45, Try.ntmps45
    go_wp2_with (go_at_call 98; refine (in_spec _ _ _ _).mono ?_; rintro e w' ⟨rfl, rfl⟩; rw [h1])
    go_ret
    exact ⟨ret_eq (by simp [Price.checkSale, h1]), (Below.refl _ _).alloc (Nat.le_refl _) _⟩
  · cases h2 : Price.inB fall 0 30
    · go_enter Try.func45, Try.ntmps45
      go_wp2_with (go_at_call 98; refine (in_spec _ _ _ _).mono ?_; rintro e w' ⟨rfl, rfl⟩; first | rw [h1] | rw [h2])
      go_ret
      exact ⟨ret_eq (by simp [Price.checkSale, h1, h2]), (Below.refl _ _).alloc (Nat.le_refl _) _⟩
    · cases h3 : l.all (Price.inB · 0 9)
      all_goals
        go_enter Try.func45, Try.ntmps45
        go_wp2_with (first
          | (go_at_call 98; refine (in_spec _ _ _ _).mono ?_; rintro e w' ⟨rfl, rfl⟩; first | rw [h1] | rw [h2])
          | (go_at_call 99; refine (everyI A l c _ #[] _ _ hm (hs.alloc _) (ninesPred _ l)).mono ?_; rintro e w1 ⟨rfl, hb1⟩; rw [h3]))
        go_ret
        exact ⟨ret_eq (by simp [Price.checkSale, h1, h2, h3]), hb1.of_alloc⟩
end Go.Proofs.Ytblmlpkjocbhpaa
