/- Package file: Diff. Condition: lengths are below a great bound, and slices lie within their capacities. -/
import Derived.Test.YtekkhnjepcebkaaGreatDoorFlN
set_option linter.unusedVariables false
set_option linter.unusedSimpArgs false
namespace Go.Proofs.YtekkhnjepcebkaaGreatDoor
namespace Fl
open Go.RowKit Go.ChangeShapes
set_option maxRecDepth 100000
theorem Diff_spec (A : Option Addr) (a : List ByteArray) (c : Nat) (A' : Option Addr) (b : List ByteArray) (c' : Nat) (w : World) (ha : a.length ≤ big) (hb : b.length ≤ big) (hca : a.length ≤ c) (hcb : b.length ≤ c') (hsa : Sl strE w A a) (hsb : Sl strE w A' b) :
    Calls Tryz.prog 30 #[.slice A a.length c, .slice A' b.length c'] w fun e w' => ∃ v rs, e = .returned (.tuple #[v, iv (errOf a b)]) ∧ Own rawE 53 w.heap.size w' v rs ∧ EdsR w.heap.size w' rs (if errOf a b = 0 then File.diff a b else []) ∧ Below w.heap.size w w' := by
  have HB := Lib.hid (both_spec A a c A' b c' w ha hb hsa hsb)
  by_cases h : errOf a b = 0
  · have h1 := err_good h
    have g1 := good_of_check h1.1
    have g2 := good_of_check h1.2
    have HB2 := Lib.hid (err_zero h HB.out)
    rw [h, if_pos rfl]
    clear HB h
    go_enter Tryz.func30, Tryz.ntmps30
    go_wp2_with fail
    refine HB2.out.mono ?_
    rintro e w1 ⟨rfl, hb1⟩
    go_wp2_with fail
    refine (diff_spec A a c A' b c' w1 g1 g2 hca hcb (hsa.below hb1) (hsb.below hb1)).mono ?_
    rintro e w2 ⟨v, rs, rfl, hv, hr, hb2⟩
    go_wp2_with fail
    go_ret2
    exact ⟨_, rs, rfl, hv.base hb1.size, hr.base hb1.size, hb1.next hb2 (Nat.le_refl _)⟩
  · rw [if_neg h]
    have HB2 : Hid (Calls Tryz.prog 81 #[.slice A a.length c, .slice A' b.length c'] w fun e w' => e = .returned (iv (errOf a b)) ∧ Below w.heap.size w w') := Lib.hid HB.out
    clear HB
    obtain ⟨r, hr⟩ : ∃ r, r = errOf a b := ⟨_, rfl⟩
    rw [← hr] at HB2 h
    rw [← hr]
    have hne : (r != 0) = true := by simpa using h
    clear hr h
    go_enter Tryz.func30, Tryz.ntmps30
    go_wp2_with fail
    refine HB2.out.mono ?_
    rintro e w1 ⟨rfl, hb1⟩
    go_wp2_with fail
    go_ret2
    exact ⟨_, [], rfl, Own.nil, trivial, hb1⟩
end Fl
end Go.Proofs.YtekkhnjepcebkaaGreatDoor
