/- Package file: Join, whole. Condition: lengths are below a great bound, and slices lie within their capacities. -/
import Derived.Test.YtekkhnjepcebkaaGreatDoorFlU
set_option linter.unusedVariables false
set_option linter.unusedSimpArgs false
namespace Go.Proofs.YtekkhnjepcebkaaGreatDoor
namespace Fl
open Go.RowKit Go.ChangeShapes
set_option maxRecDepth 100000
set_option maxHeartbeats 1000000 in
theorem Join_spec (Ab : Option Addr) (base : List ByteArray) (cb : Nat) (A : Option Addr) (a : List ByteArray) (c : Nat) (A' : Option Addr) (b : List ByteArray) (c' : Nat) (w : World) (hmB : base.length ≤ big) (ha : a.length ≤ big) (hb : b.length ≤ big)
    (hcB : base.length ≤ cb) (hca : a.length ≤ c) (hcb : b.length ≤ c') (hsB : Sl strE w Ab base) (hsa : Sl strE w A a) (hsb : Sl strE w A' b) :
    Calls Tryz.prog 16 #[.slice Ab base.length cb, .slice A a.length c, .slice A' b.length c'] w fun e w' => ∃ v0 v1, e = .returned (.tuple #[v0, v1, iv (File.joinAns base a b).1]) ∧ Own strE 9 w.heap.size w' v0 (File.joinAns base a b).2.1 ∧ Own pairE 40 w.heap.size w' v1 (File.joinAns base a b).2.2 ∧ Below w.heap.size w w' := by
  by_cases hB0 : File.check base = 0
  · by_cases hE0 : errOf a b = 0
    · have h1 := err_good hE0
      exact joined_spec Ab base cb A a c A' b c' w (good_of_check hB0) (good_of_check h1.1) (good_of_check h1.2) hB0 hE0 hcB hca hcb hsB hsa hsb
    · have HC : Hid (Calls Tryz.prog 48 #[.slice Ab base.length cb] w fun e w' => e = .returned (iv 0) ∧ Below w.heap.size w w') := Lib.hid (by
        have := check_spec Ab base cb w hmB hsB
        rwa [hB0] at this)
      have HBo : ∀ W, Below w.heap.size w W → Hid (Calls Tryz.prog 81 #[.slice A a.length c, .slice A' b.length c'] W fun e w' => e = .returned (iv (errOf a b)) ∧ Below W.heap.size W w') := fun W hW => Lib.hid (both_spec A a c A' b c' W ha hb (hsa.below hW) (hsb.below hW))
      have HANS : Hid (File.joinAns base a b = (errOf a b, [], [])) := Lib.hid (by unfold File.joinAns; rw [if_neg (by simp [hB0]), if_pos hE0])
      generalize File.joinAns base a b = ans at *
      obtain ⟨r, hr⟩ : ∃ r, r = errOf a b := ⟨_, rfl⟩
      rw [← hr] at HANS HBo hE0
      have hne : (r != 0) = true := by simpa using hE0
      clear hB0 hE0 hr
      go_enter Tryz.func16, Tryz.ntmps16
      go_wp2_with fail
      refine HC.out.mono ?_
      rintro e w1 ⟨rfl, hb1⟩
      go_wp2_with fail
      refine (HBo w1 hb1).out.mono ?_
      rintro e w2 ⟨rfl, hb2⟩
      go_wp2_with fail
      go_ret3
      exact ⟨_, _, by rw [HANS.out]; rfl, by rw [HANS.out]; exact Own.nil, by rw [HANS.out]; exact Own.nil, hb1.next hb2 (Nat.le_refl _)⟩
  · have HC := Lib.hid (check_spec Ab base cb w hmB hsB)
    have HANS : Hid (File.joinAns base a b = (File.check base, [], [])) := Lib.hid (by unfold File.joinAns; rw [if_pos (by simpa using hB0)])
    generalize File.joinAns base a b = ans at *
    obtain ⟨r, hr⟩ : ∃ r, r = File.check base := ⟨_, rfl⟩
    rw [← hr] at HANS HC hB0
    have hne : (r != 0) = true := by simpa using hB0
    clear hB0 hr
    go_enter Tryz.func16, Tryz.ntmps16
    go_wp2_with fail
    refine HC.out.mono ?_
    rintro e w1 ⟨rfl, hb1⟩
    go_wp2_with fail
    go_ret3
    exact ⟨_, _, by rw [HANS.out]; rfl, by rw [HANS.out]; exact Own.nil, by rw [HANS.out]; exact Own.nil, hb1⟩
end Fl
end Go.Proofs.YtekkhnjepcebkaaGreatDoor
