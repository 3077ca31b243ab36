/- FileParses: the walk. Condition: the library's table of powers of ten lies as the program's text lays it. -/
import Derived.Test.YtkhmkpcihphkcaaDoorRefFd
import Derived.Test.YtkhmkpcihphkcaaDoorFlY
set_option linter.unusedVariables false
set_option linter.unusedSimpArgs false
namespace Go.Proofs.YtkhmkpcihphkcaaDoor
namespace Fl
open Go.RowKit Go.Shelf
set_option maxRecDepth 100000
theorem parses_len (s : List UInt8) : (File.parse s).1.length ≤ 24 := by
  by_cases h : (File.parse s).2.2 = 0
  · exact (good_of_check (File.parse_good (t := s) (g := (File.parse s).1) (n := (File.parse s).2.1) (by rw [← h]))).many
  · rw [(File.parse_err s h).1]; simp
set_option maxHeartbeats 4000000 in
theorem parses_law (s : ByteArray) (w : World) (ht : Tab w) :
    Calls Tryd.prog 3 #[.string s] w fun e w' => e = .returned (.bool true) ∧ Below w.heap.size w w' := by
  have HT := Lib.hid ht
  clear ht
  by_cases hl : 1500 < s.size
  · have hi : (1500 : Int) < (s.size : Int) := by omega
    go_enter Tryd.func3, Tryd.ntmps3
    go_wp2_with fail
    refine (awake_spec w HT.out).mono ?_
    rintro e w2 ⟨rfl, hb2⟩
    go_wp2_with fail
    go_ret
    exact ⟨rfl, hb2⟩
  · have hi : ¬ (1500 : Int) < (s.size : Int) := by omega
    have hsz : (File.bts s).length ≤ 1500 := by simp; omega
    have hsb : File.ba (File.bts s) = s := by apply ByteArray.ext; simp [File.ba]
    have HR := Lib.hid (rparse_spec (File.bts s) w hsz)
    have HF := Lib.hid (fun W (h : Below w.heap.size w W) => parse_spec (File.bts s) W (by omega) (HT.out.below h))
    rw [hsb] at HR
    simp only [hsb] at HF
    have hgl := parses_len (File.bts s)
    have h0 : (File.parse (File.bts s)).2.2 = 0 ∨ ((File.parse (File.bts s)).2.2 == 0) = false := by
      by_cases h : (File.parse (File.bts s)).2.2 = 0
      · exact .inl h
      · exact .inr (by simpa using h)
    generalize File.parse (File.bts s) = r at *
    obtain ⟨g, n, z⟩ := r
    simp only at hgl h0
    have hbig : g.length ≤ big := by unfold big; omega
    clear hsb hsz hl
    go_enter Tryd.func3, Tryd.ntmps3
    go_wp2_with fail
    refine HR.out.mono ?_
    rintro _ w1 ⟨⟨v1, rfl, ho1, hn1⟩, hb1⟩
    simp only at ho1 hn1
    obtain ⟨A1, c1, rfl, _, _⟩ := ho1.form
    go_wp2_with fail
    refine (HF.out w1 hb1).mono ?_
    rintro _ w2 ⟨⟨v2, rfl, ho2, hn2⟩, hb2⟩
    simp only at ho2 hn2
    have HEQ : Hid (∀ (A2 : Option Addr) (c2 : Nat), Sl strE w2 A2 g → Calls Tryd.prog 15 #[.slice A2 g.length c2, .slice A1 g.length c1] w2 fun e w' => e = .returned (.bool true) ∧ Below w2.heap.size w2 w') := Lib.hid fun A2 c2 h => by
      have := equalS A2 g c2 A1 g c1 w2 hbig h hbig (ho1.below hb2).sl
      rw [decide_eq_true rfl] at this
      exact this
    have hb02 := hb1.next hb2 (Nat.le_refl _)
    clear HR HF hn1 ho1
    rcases h0 with rfl | hz
    · obtain ⟨A2, c2, rfl, _, _⟩ := ho2.form
      go_wp2_with fail
      refine (HEQ.out A2 c2 ho2.sl).mono ?_
      rintro e w3 ⟨rfl, hb3⟩
      have hb03 := hb02.next hb3 (Nat.le_refl _)
      go_wp2_with fail
      refine (awake_spec w3 (HT.out.below hb03)).mono ?_
      rintro e w4 ⟨rfl, hb4⟩
      go_wp2_with fail
      go_ret
      exact ⟨rfl, hb03.next hb4 (Nat.le_refl _)⟩
    · obtain rfl := hn2 (by simpa using hz)
      have hgn : g.length = 0 := by
        obtain ⟨A2, c2, e2, _, _⟩ := ho2.form
        injection e2 with _ e2 _
        exact e2.symm
      have HE0 : Hid (Calls Tryd.prog 15 #[.slice none 0 0, .slice A1 g.length c1] w2 fun e w' => e = .returned (.bool true) ∧ Below w2.heap.size w2 w') := Lib.hid (by
        have := HEQ.out none 0 (by rw [List.eq_nil_of_length_eq_zero hgn]; exact fun h => absurd rfl h)
        rwa [hgn] at this ⊢)
      clear hgn
      have hnil : ∀ W : World, (binOp .eql 23 (.slice none 0 0) (.slice none 0 0)).run Tryd.prog W = .ok (.bool true) W := fun W => by kernel_rfl
      go_wp2_with fail
      refine HE0.out.mono ?_
      rintro e w3 ⟨rfl, hb3⟩
      have hb03 := hb02.next hb3 (Nat.le_refl _)
      go_wp2_with fail
      refine (awake_spec w3 (HT.out.below hb03)).mono ?_
      rintro e w4 ⟨rfl, hb4⟩
      go_wp2_with fail
      go_ret
      exact ⟨rfl, hb03.next hb4 (Nat.le_refl _)⟩
end Fl
end Go.Proofs.YtkhmkpcihphkcaaDoor
