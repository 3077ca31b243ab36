/- FileTexts: the walk. Condition: the library's table of powers of ten lies as the program's text lays it. -/
import Derived.Test.YtkhmkpcihphkcaaDoorRefFb
import Derived.Test.YtkhmkpcihphkcaaDoorFlY
set_option linter.unusedVariables false
set_option linter.unusedSimpArgs false
namespace Go.Proofs.YtkhmkpcihphkcaaDoor
namespace Fl
open Go.RowKit Go.Shelf
set_option maxRecDepth 100000
theorem great1row (A : Option Addr) (f : List ByteArray) (c : Nat) (w : World) (hfc : f.length ≤ c) (hs : Sl strE w A f) :
    Calls Tryd.prog 23 #[.slice (some ⟨w.heap.size, 0, none⟩) 1 1] (w.alloc (.cells #[.slice A f.length c] 23)) fun e w' => e = .returned (.bool (G.greatF f)) ∧ Below w.heap.size w w' := by
  have hb : Below w.heap.size w (w.alloc (.cells #[.slice A f.length c] 23)) := (Below.refl _ _).alloc (Nat.le_refl _) _
  have h1 := Sl.fresh (rwE ByteArray) w 23 #[.slice A f.length c] [⟨A, c, f⟩] rfl (by simp [maxLen])
  have := great_spec (some ⟨w.heap.size, 0, none⟩) [⟨A, c, f⟩] 1 (w.alloc (.cells #[.slice A f.length c] 23)) (by simp [big]) h1 (fun r hr => by
    rw [List.mem_singleton.1 hr]
    exact ⟨hs.below hb, hfc⟩)
  refine this.mono ?_
  rintro e w' ⟨rfl, hb'⟩
  exact ⟨by simp, hb.next hb' (Nat.le_refl _)⟩
theorem great_false {f : List ByteArray} (h : G.greatF f = false) : f.length ≤ 30 ∧ ∀ s ∈ f, s.size ≤ 60 := by
  unfold G.greatF at h
  rw [Bool.or_eq_false_iff] at h
  obtain ⟨h1, h2⟩ := h
  rw [decide_eq_false_iff_not] at h1
  rw [List.any_eq_false] at h2
  refine ⟨by omega, fun s hs => ?_⟩
  have := h2 s hs
  simp only [G.longS, decide_eq_true_eq] at this
  omega
set_option maxHeartbeats 4000000 in
theorem texts_law (A : Option Addr) (f : List ByteArray) (c : Nat) (w : World) (hfc : f.length ≤ c) (hs : Sl strE w A f) (ht : Tab w) :
    Calls Tryd.prog 6 #[.slice A f.length c] w fun e w' => e = .returned (.bool true) ∧ Below w.heap.size w w' := by
  have HT := Lib.hid ht
  have HGR := Lib.hid (great1row A f c w hfc hs)
  clear ht
  cases hg : G.greatF f
  · obtain ⟨hfl, _⟩ := great_false hg
    rw [hg] at HGR
    clear hg
    have HSL : Hid (∀ W, Below w.heap.size w W → Sl strE W A f) := Lib.hid fun W h => hs.below h
    have hbig : f.length ≤ big := by unfold big; omega
    go_enter Tryd.func6, Tryd.ntmps6
    go_wp2_with fail
    refine HGR.out.mono ?_
    rintro e w1 ⟨rfl, hb1⟩
    go_wp2_with fail
    refine (dupS A f c w1 hbig (HSL.out w1 hb1)).mono ?_
    rintro e w2 ⟨v, rfl, ho2, hb2⟩
    obtain ⟨Ao, co, rfl, hco, _⟩ := ho2.form
    have hb02 := hb1.next hb2 (Nat.le_refl _)
    have HOW : Hid (∀ W, Below w2.heap.size w2 W → Sl strE W Ao f) := Lib.hid fun W h => ho2.sl.below h
    clear ho2 hb1 hb2 HGR hs
    have HEQ : Hid (∀ W, Below w2.heap.size w2 W → Calls Tryd.prog 15 #[.slice Ao f.length co, .slice A f.length c] W fun e w' => e = .returned (.bool true) ∧ Below W.heap.size W w') := Lib.hid fun W h => by
      have := equalS Ao f co A f c W hbig (HOW.out W h) hbig (HSL.out W (hb02.next h (Nat.le_refl _)))
      rw [decide_eq_true rfl] at this
      exact this
    have HAW : Hid (∀ W, Below w2.heap.size w2 W → Calls Tryd.prog 12 #[] W fun e w' => e = .returned (.bool true) ∧ Below W.heap.size W w') := Lib.hid fun W h => awake_spec W (HT.out.below (hb02.next h (Nat.le_refl _)))
    have HRC : Hid (∀ W, Below w2.heap.size w2 W → Calls Tryd.prog 25 #[.slice A f.length c] W fun e w' => e = .returned (iv (File.check f)) ∧ Below W.heap.size W w') := Lib.hid fun W h => rcheck_spec A f c W hbig (HSL.out W (hb02.next h (Nat.le_refl _)))
    have HSU : Hid (∀ W, Below w2.heap.size w2 W → Calls Tryd.prog 26 #[.slice Ao f.length co] W fun e w' => e = .returned (.tuple #[iv (if File.check f = 0 then File.sum f else 0), iv (File.check f)]) ∧ Below W.heap.size W w') := Lib.hid fun W h => Sum_spec Ao f co W hbig (HOW.out W h)
    have HPR : Hid (∀ W, Below w2.heap.size w2 W → Calls Tryd.prog 18 #[.slice Ao f.length co] W fun e w' => e = .returned (.tuple #[.string (if File.check f = 0 then File.ba (File.text f) else ⟨#[]⟩), iv (File.check f)]) ∧ Below W.heap.size W w') := Lib.hid fun W h => print_spec Ao f co W hbig (HOW.out W h) (HT.out.below (hb02.next h (Nat.le_refl _)))
    have HCK : Hid (∀ W, Below w2.heap.size w2 W → Calls Tryd.prog 29 #[.slice Ao f.length co] W fun e w' => e = .returned (iv (File.check f)) ∧ Below W.heap.size W w') := Lib.hid fun W h => check_spec Ao f co W hbig (HOW.out W h)
    by_cases hck : File.check f = 0
    · have hgd := good_of_check hck
      have hm24 := hgd.many
      have HRS : Hid (∀ W, Below w2.heap.size w2 W → Calls Tryd.prog 27 #[.slice A f.length c] W fun e w' => e = .returned (iv (File.sum f)) ∧ Below W.heap.size W w') := Lib.hid fun W h => rsum_spec A f c W hm24 hgd.wide (HSL.out W (hb02.next h (Nat.le_refl _)))
      have HRP : Hid (∀ W, Below w2.heap.size w2 W → Calls Tryd.prog 28 #[.slice A f.length c] W fun e w' => e = .returned (.string (File.ba (File.text f))) ∧ Below W.heap.size W w') := Lib.hid fun W h => rprint_spec A f c W hgd (HSL.out W (hb02.next h (Nat.le_refl _)))
      rw [if_pos hck] at HSU HPR
      rw [hck] at HRC HSU HPR HCK
      generalize File.sum f = sm at *
      generalize File.ba (File.text f) = tx at *
      clear hck hgd
      go_wp2_with fail
      refine (HRC.out w2 (Below.refl _ _)).mono ?_
      rintro e w3 ⟨rfl, hb3⟩
      go_wp2_with fail
      refine (HSU.out w3 hb3).mono ?_
      rintro e w4 ⟨rfl, hb4⟩
      have k4 := hb3.next hb4 (Nat.le_refl _)
      go_wp2_with fail
      refine (HPR.out w4 k4).mono ?_
      rintro e w5 ⟨rfl, hb5⟩
      have k5 := k4.next hb5 (Nat.le_refl _)
      go_wp2_with fail
      refine (HRS.out w5 k5).mono ?_
      rintro e w6 ⟨rfl, hb6⟩
      have k6 := k5.next hb6 (Nat.le_refl _)
      go_wp2_with fail
      refine (HRP.out w6 k6).mono ?_
      rintro e w7 ⟨rfl, hb7⟩
      have k7 := k6.next hb7 (Nat.le_refl _)
      clear hb3 hb4 hb5 hb6 hb7 k4 k5 k6
      go_wp2_with fail
      refine (HCK.out w7 k7).mono ?_
      rintro e w8 ⟨rfl, hb8⟩
      have k8 := k7.next hb8 (Nat.le_refl _)
      go_wp2_with fail
      refine (HEQ.out w8 k8).mono ?_
      rintro e w9 ⟨rfl, hb9⟩
      have k9 := k8.next hb9 (Nat.le_refl _)
      go_wp2_with fail
      refine (HAW.out w9 k9).mono ?_
      rintro e w10 ⟨rfl, hb10⟩
      go_wp2_with fail
      go_ret
      exact ⟨rfl, hb02.next (k9.next hb10 (Nat.le_refl _)) (Nat.le_refl _)⟩
    · rw [if_neg hck] at HSU HPR
      generalize File.check f = e0 at *
      have he0 : (e0 == 0) = false := by simpa using hck
      clear hck
      go_wp2_with fail
      refine (HRC.out w2 (Below.refl _ _)).mono ?_
      rintro e w3 ⟨rfl, hb3⟩
      go_wp2_with fail
      refine (HSU.out w3 hb3).mono ?_
      rintro e w4 ⟨rfl, hb4⟩
      have k4 := hb3.next hb4 (Nat.le_refl _)
      go_wp2_with fail
      refine (HPR.out w4 k4).mono ?_
      rintro e w5 ⟨rfl, hb5⟩
      have k7 := k4.next hb5 (Nat.le_refl _)
      go_wp2_with fail
      refine (HCK.out w5 k7).mono ?_
      rintro e w8 ⟨rfl, hb8⟩
      have k8 := k7.next hb8 (Nat.le_refl _)
      go_wp2_with fail
      refine (HEQ.out w8 k8).mono ?_
      rintro e w9 ⟨rfl, hb9⟩
      have k9 := k8.next hb9 (Nat.le_refl _)
      go_wp2_with fail
      refine (HAW.out w9 k9).mono ?_
      rintro e w10 ⟨rfl, hb10⟩
      go_wp2_with fail
      go_ret
      exact ⟨rfl, hb02.next (k9.next hb10 (Nat.le_refl _)) (Nat.le_refl _)⟩
  · rw [hg] at HGR
    clear hg
    go_enter Tryd.func6, Tryd.ntmps6
    go_wp2_with fail
    refine HGR.out.mono ?_
    rintro e w1 ⟨rfl, hb1⟩
    go_wp2_with fail
    refine (awake_spec w1 (HT.out.below hb1)).mono ?_
    rintro e w2 ⟨rfl, hb2⟩
    go_wp2_with fail
    go_ret
    exact ⟨rfl, hb1.next hb2 (Nat.le_refl _)⟩
end Fl
end Go.Proofs.YtkhmkpcihphkcaaDoor
