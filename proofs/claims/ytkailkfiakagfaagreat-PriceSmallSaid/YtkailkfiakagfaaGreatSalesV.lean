/- PriceSales returns true, whatever the lengths. -/
import Derived.Test.YtkailkfiakagfaaGreatSalesW
set_option linter.unusedVariables false
set_option linter.unusedSimpArgs false
namespace Go.Proofs.YtkailkfiakagfaaGreat
open Go.RowKit Go.Shelf
set_option maxRecDepth 100000
theorem sales_all (A : Option Addr) (l : List Rule) (c : Nat) (fall : Int) (Ab : Option Addr) (bought : List Int) (cb : Nat) (As : Option Addr) (stock : List Piece) (cs : Nat) (Ap : Option Addr) (plan : List Int) (cp : Nat) (w : World) (hs : Sl ruleE w A l) (hsb : Sl intE w Ab bought) (hss : Sl pieceE w As stock) (hsp : Sl intE w Ap plan)
    (hm1 : l.length ≤ maxLen) (hm2 : bought.length ≤ maxLen) (hm3 : stock.length ≤ maxLen) (hm4 : plan.length ≤ maxLen) :
    Calls Tryz.prog 11 #[.slice A l.length c, saleV fall Ab bought.length cb, .slice As stock.length cs, .slice Ap plan.length cp] w fun e w' => e = .returned (.bool true) ∧ Below w.heap.size w w' := by
  by_cases h1 : l.length ≤ 12
  · by_cases h2 : bought.length ≤ 12
    · by_cases h3 : stock.length ≤ 14
      · by_cases h4 : plan.length ≤ 14
        · exact sales_walk A l c fall Ab bought cb As stock cs Ap plan cp w hs hsb hss hsp h1 h2 h3 h4
        · have t1 : ¬ (12 : Int) < (l.length : Int) := by omega
          have t2 : ¬ (12 : Int) < (bought.length : Int) := by omega
          have t3 : ¬ (14 : Int) < (stock.length : Int) := by omega
          have t4 : (14 : Int) < (plan.length : Int) := by omega
          unfold maxLen at hm1 hm2 hm3 hm4
          have HA : Hid (∀ a : World, Calls Tryz.prog 14 #[] a fun e w' => e = .returned (.bool true) ∧ Below a.heap.size a w') := fun a => awake_spec a
          go_enter Tryz.func11, Tryz.ntmps11
          go_wp2_with (go_at_call 14; refine (HA.out _).mono ?_; rintro e x1 ⟨rfl, hx1⟩)
          go_ret
          exact ⟨rfl, hx1.of_alloc⟩
      · have t1 : ¬ (12 : Int) < (l.length : Int) := by omega
        have t2 : ¬ (12 : Int) < (bought.length : Int) := by omega
        have t3 : (14 : Int) < (stock.length : Int) := by omega
        unfold maxLen at hm1 hm2 hm3 hm4
        have HA : Hid (∀ a : World, Calls Tryz.prog 14 #[] a fun e w' => e = .returned (.bool true) ∧ Below a.heap.size a w') := fun a => awake_spec a
        go_enter Tryz.func11, Tryz.ntmps11
        go_wp2_with (go_at_call 14; refine (HA.out _).mono ?_; rintro e x1 ⟨rfl, hx1⟩)
        go_ret
        exact ⟨rfl, hx1.of_alloc⟩
    · have t1 : ¬ (12 : Int) < (l.length : Int) := by omega
      have t2 : (12 : Int) < (bought.length : Int) := by omega
      unfold maxLen at hm1 hm2 hm3 hm4
      have HA : Hid (∀ a : World, Calls Tryz.prog 14 #[] a fun e w' => e = .returned (.bool true) ∧ Below a.heap.size a w') := fun a => awake_spec a
      go_enter Tryz.func11, Tryz.ntmps11
      go_wp2_with (go_at_call 14; refine (HA.out _).mono ?_; rintro e x1 ⟨rfl, hx1⟩)
      go_ret
      exact ⟨rfl, hx1.of_alloc⟩
  · have t1 : (12 : Int) < (l.length : Int) := by omega
    unfold maxLen at hm1 hm2 hm3 hm4
    have HA : Hid (∀ a : World, Calls Tryz.prog 14 #[] a fun e w' => e = .returned (.bool true) ∧ Below a.heap.size a w') := fun a => awake_spec a
    go_enter Tryz.func11, Tryz.ntmps11
    go_wp2_with (go_at_call 14; refine (HA.out _).mono ?_; rintro e x1 ⟨rfl, hx1⟩)
    go_ret
    exact ⟨rfl, hx1.of_alloc⟩
end Go.Proofs.YtkailkfiakagfaaGreat
