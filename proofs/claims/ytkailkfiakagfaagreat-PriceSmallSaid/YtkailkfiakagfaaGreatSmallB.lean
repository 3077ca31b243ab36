/- What asks the statements that compare returns true. Conditions: lengths. -/
import Derived.Test.YtkailkfiakagfaaGreatSmallA
import Derived.Test.YtkailkfiakagfaaGreatRulesW
import Derived.Test.YtkailkfiakagfaaGreatPiecesW
import Derived.Test.YtkailkfiakagfaaGreatListsW
import Derived.Test.YtkailkfiakagfaaGreatSalesV
set_option linter.unusedVariables false
set_option linter.unusedSimpArgs false
namespace Go.Proofs.YtkailkfiakagfaaGreat
open Go.RowKit Go.Shelf
set_option maxRecDepth 100000
theorem asked_spec (A : Option Addr) (l : List Rule) (c : Nat) (A' : Option Addr) (l' : List Rule) (c' : Nat) (rule : Int) (q : Piece) (r : Rule) (fall : Int) (Ab : Option Addr) (bought : List Int) (cb : Nat) (As : Option Addr) (stock : List Piece) (cs : Nat) (Ap : Option Addr) (plan : List Int) (cp : Nat) (w : World)
    (hm : l.length ≤ maxLen) (hc : l.length ≤ c) (hs : Sl ruleE w A l) (hm' : l'.length ≤ maxLen) (hc' : l'.length ≤ c') (hs' : Sl ruleE w A' l') (hr : I64 rule) (hsb : Sl intE w Ab bought) (hss : Sl pieceE w As stock) (hsp : Sl intE w Ap plan) (hm2 : bought.length ≤ maxLen) (hm3 : stock.length ≤ maxLen) (hm4 : plan.length ≤ maxLen) :
    Calls Tryz.prog 6 #[.slice A l.length c, .slice A' l'.length c', iv rule, q.v, r.v, saleV fall Ab bought.length cb, .slice As stock.length cs, .slice Ap plan.length cp] w fun e w' => e = .returned (.bool true) ∧ Below w.heap.size w w' := by
  obtain ⟨qa, qb, qc⟩ := q
  obtain ⟨ra, rb, rc, rd⟩ := r
  have hb0 : Below w.heap.size w (((w.alloc (.cells #[iv qa, iv qb, iv qc] 26)).alloc (.cells #[iv ra, iv rb, iv rc, iv rd] 28)).alloc (.cells #[iv fall, .slice Ab bought.length cb] 30)) := (((Below.refl _ _).alloc (Nat.le_refl _) _).alloc (by simp) _).alloc (by simp; omega) _
  have hB1 : Blk (((w.alloc (.cells #[iv qa, iv qb, iv qc] 26)).alloc (.cells #[iv ra, iv rb, iv rc, iv rd] 28)).alloc (.cells #[iv fall, .slice Ab bought.length cb] 30)) w.heap.size 26 #[iv qa, iv qb, iv qc] := ((Blk.new _ _ _).alloc _).alloc _
  have hB2 : Blk (((w.alloc (.cells #[iv qa, iv qb, iv qc] 26)).alloc (.cells #[iv ra, iv rb, iv rc, iv rd] 28)).alloc (.cells #[iv fall, .slice Ab bought.length cb] 30)) (w.heap.size + 1) 28 #[iv ra, iv rb, iv rc, iv rd] := (Blk.new_ _ _ _ (by simp)).alloc _
  have hB3 : Blk (((w.alloc (.cells #[iv qa, iv qb, iv qc] 26)).alloc (.cells #[iv ra, iv rb, iv rc, iv rd] 28)).alloc (.cells #[iv fall, .slice Ab bought.length cb] 30)) (w.heap.size + 1 + 1) 30 #[iv fall, .slice Ab bought.length cb] := Blk.new_ _ _ _ (by simp)
  go_enter Tryz.func6, Tryz.ntmps6
  go_wp2_with fail
  generalize ((w.alloc (.cells #[iv qa, iv qb, iv qc] 26)).alloc (.cells #[iv ra, iv rb, iv rc, iv rd] 28)).alloc (.cells #[iv fall, .slice Ab bought.length cb] 30) = w0 at *
  have h1 := Lib.hid (rules_walk A l c rule ⟨qa, qb, qc⟩ ⟨ra, rb, rc, rd⟩ w0 hm hc (hs.below hb0))
  refine h1.out.mono ?_
  rintro e w1 ⟨rfl, hb1⟩
  have hb01 := hb0.next hb1 (Nat.le_refl _)
  have c1 := (hB1.under hb1).cell
  have d1 := (hB1.under hb1).lt
  have h2 := Lib.hid (pieces_walk A l c ⟨qa, qb, qc⟩ w1 hm hc (hs.below hb01))
  clear h1
  go_wp2_with fail
  refine h2.out.mono ?_
  rintro e w2 ⟨rfl, hb2⟩
  have hb02 := hb01.next hb2 (Nat.le_refl _)
  have h3 := Lib.hid (lists_walk A l c A' l' c' rule w2 hm hc (hs.below hb02) hm' hc' (hs'.below hb02) hr)
  clear h2 c1 d1
  go_wp2_with fail
  refine h3.out.mono ?_
  rintro e w3 ⟨rfl, hb3⟩
  have hb03 := hb02.next hb3 (Nat.le_refl _)
  have hb13 := (hb1.next hb2 (Nat.le_refl _)).next hb3 (Nat.le_refl _)
  have c3 := (hB3.under hb13).cell
  have d3 := (hB3.under hb13).lt
  have h4 := Lib.hid (sales_all A l c fall Ab bought cb As stock cs Ap plan cp w3 (hs.below hb03) (hsb.below hb03) (hss.below hb03) (hsp.below hb03) hm hm2 hm3 hm4)
  clear h3
  go_wp2_with (go_at_call 11; refine h4.out.mono ?_; rintro e w4 ⟨rfl, hb4⟩)
  go_ret
  exact ⟨rfl, hb03.next hb4 (Nat.le_refl _)⟩
end Go.Proofs.YtkailkfiakagfaaGreat
