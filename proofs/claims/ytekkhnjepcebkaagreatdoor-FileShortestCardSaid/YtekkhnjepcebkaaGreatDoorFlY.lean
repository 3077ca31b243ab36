/- Package petershamlaw11: awake. Condition: the library's table of powers of ten lies as the program's text lays it. -/
import Derived.Test.YtekkhnjepcebkaaGreatDoorFlX
set_option linter.unusedVariables false
set_option linter.unusedSimpArgs false
namespace Go.Proofs.YtekkhnjepcebkaaGreatDoor
namespace Fl
open Go.RowKit Go.ChangeShapes
set_option maxRecDepth 100000
theorem rows_made (w : World) : ∃ rs : List (Rw Int), Sl (rwE Int) ((((w.alloc (.cells #[iv 0, iv 0, iv 0] 3)).alloc (.cells #[iv 1, iv 0, iv 0] 3)).alloc (.cells #[iv 0, iv 2, iv 2] 3)).alloc (.cells #[.slice (some ⟨w.heap.size, 0, none⟩) 3 3, .slice (some ⟨w.heap.size + 1, 0, none⟩) 3 3, .slice (some ⟨w.heap.size + 1 + 1, 0, none⟩) 3 3] 33)) (some ⟨w.heap.size + 1 + 1 + 1, 0, none⟩) rs ∧
    RowsR intE ((((w.alloc (.cells #[iv 0, iv 0, iv 0] 3)).alloc (.cells #[iv 1, iv 0, iv 0] 3)).alloc (.cells #[iv 0, iv 2, iv 2] 3)).alloc (.cells #[.slice (some ⟨w.heap.size, 0, none⟩) 3 3, .slice (some ⟨w.heap.size + 1, 0, none⟩) 3 3, .slice (some ⟨w.heap.size + 1 + 1, 0, none⟩) 3 3] 33)) rs ∧
    rs.map Rw.xs = rows0 ∧ Below w.heap.size w ((((w.alloc (.cells #[iv 0, iv 0, iv 0] 3)).alloc (.cells #[iv 1, iv 0, iv 0] 3)).alloc (.cells #[iv 0, iv 2, iv 2] 3)).alloc (.cells #[.slice (some ⟨w.heap.size, 0, none⟩) 3 3, .slice (some ⟨w.heap.size + 1, 0, none⟩) 3 3, .slice (some ⟨w.heap.size + 1 + 1, 0, none⟩) 3 3] 33)) := by
  have z1 : (w.alloc (.cells #[iv 0, iv 0, iv 0] 3)).heap.size = w.heap.size + 1 := by simp
  have z2 : ((w.alloc (.cells #[iv 0, iv 0, iv 0] 3)).alloc (.cells #[iv 1, iv 0, iv 0] 3)).heap.size = w.heap.size + 1 + 1 := by simp
  have z3 : (((w.alloc (.cells #[iv 0, iv 0, iv 0] 3)).alloc (.cells #[iv 1, iv 0, iv 0] 3)).alloc (.cells #[iv 0, iv 2, iv 2] 3)).heap.size = w.heap.size + 1 + 1 + 1 := by simp
  have s1 := Sl.fresh intE w 3 #[iv 0, iv 0, iv 0] [0, 0, 0] rfl (by decide)
  have s2 := Sl.fresh intE (w.alloc (.cells #[iv 0, iv 0, iv 0] 3)) 3 #[iv 1, iv 0, iv 0] [1, 0, 0] rfl (by decide)
  have s3 := Sl.fresh intE ((w.alloc (.cells #[iv 0, iv 0, iv 0] 3)).alloc (.cells #[iv 1, iv 0, iv 0] 3)) 3 #[iv 0, iv 2, iv 2] [0, 2, 2] rfl (by decide)
  rw [z1] at s2
  rw [z2] at s3
  refine ⟨[⟨some ⟨w.heap.size, 0, none⟩, 3, [0, 0, 0]⟩, ⟨some ⟨w.heap.size + 1, 0, none⟩, 3, [1, 0, 0]⟩, ⟨some ⟨w.heap.size + 1 + 1, 0, none⟩, 3, [0, 2, 2]⟩], ?_, ?_, rfl, ?_⟩
  · have := Sl.fresh (rwE Int) (((w.alloc (.cells #[iv 0, iv 0, iv 0] 3)).alloc (.cells #[iv 1, iv 0, iv 0] 3)).alloc (.cells #[iv 0, iv 2, iv 2] 3)) 33 #[.slice (some ⟨w.heap.size, 0, none⟩) 3 3, .slice (some ⟨w.heap.size + 1, 0, none⟩) 3 3, .slice (some ⟨w.heap.size + 1 + 1, 0, none⟩) 3 3] [⟨some ⟨w.heap.size, 0, none⟩, 3, [0, 0, 0]⟩, ⟨some ⟨w.heap.size + 1, 0, none⟩, 3, [1, 0, 0]⟩, ⟨some ⟨w.heap.size + 1 + 1, 0, none⟩, 3, [0, 2, 2]⟩] rfl (by simp [maxLen])
    rw [z3] at this
    exact this
  · intro r hr
    simp only [List.mem_cons, List.not_mem_nil, or_false] at hr
    rcases hr with rfl | rfl | rfl
    · exact ⟨((s1.alloc _).alloc _).alloc _, Nat.le_refl _⟩
    · exact ⟨(s2.alloc _).alloc _, Nat.le_refl _⟩
    · exact ⟨s3.alloc _, Nat.le_refl _⟩
  · exact ((((Below.refl _ w).alloc (Nat.le_refl _) _).alloc (by omega) _).alloc (by omega) _).alloc (by omega) _
theorem eds_made (w : World) : ∃ vs : List EdV, vs.length = 2 ∧ Sl edE (((w.alloc (.cells #[.string ⟨#[114, 101, 100, 32, 51]⟩] 9)).alloc (.cells #[.string ⟨#[103, 111, 108, 100]⟩] 9)).alloc (.cells #[iv 0, .slice (some ⟨w.heap.size, 0, none⟩) 1 1, .slice none 0 0, iv 3, .slice none 0 0, .slice (some ⟨w.heap.size + 1, 0, none⟩) 1 1] 53)) (some ⟨w.heap.size + 1 + 1, 0, none⟩) vs ∧
    (∀ r ∈ vs, EdOk (((w.alloc (.cells #[.string ⟨#[114, 101, 100, 32, 51]⟩] 9)).alloc (.cells #[.string ⟨#[103, 111, 108, 100]⟩] 9)).alloc (.cells #[iv 0, .slice (some ⟨w.heap.size, 0, none⟩) 1 1, .slice none 0 0, iv 3, .slice none 0 0, .slice (some ⟨w.heap.size + 1, 0, none⟩) 1 1] 53)) r ∧ r.old.length ≤ big ∧ r.new.length ≤ big) ∧
    vs.map EdV.ed = [⟨0, [⟨#[114, 101, 100, 32, 51]⟩], []⟩, ⟨3, [], [⟨#[103, 111, 108, 100]⟩]⟩] ∧ Below w.heap.size w (((w.alloc (.cells #[.string ⟨#[114, 101, 100, 32, 51]⟩] 9)).alloc (.cells #[.string ⟨#[103, 111, 108, 100]⟩] 9)).alloc (.cells #[iv 0, .slice (some ⟨w.heap.size, 0, none⟩) 1 1, .slice none 0 0, iv 3, .slice none 0 0, .slice (some ⟨w.heap.size + 1, 0, none⟩) 1 1] 53)) := by
  have z1 : (w.alloc (.cells #[.string ⟨#[114, 101, 100, 32, 51]⟩] 9)).heap.size = w.heap.size + 1 := by simp
  have z2 : ((w.alloc (.cells #[.string ⟨#[114, 101, 100, 32, 51]⟩] 9)).alloc (.cells #[.string ⟨#[103, 111, 108, 100]⟩] 9)).heap.size = w.heap.size + 1 + 1 := by simp
  have s1 := Sl.fresh strE w 9 #[.string ⟨#[114, 101, 100, 32, 51]⟩] [⟨#[114, 101, 100, 32, 51]⟩] rfl (by decide)
  have s2 := Sl.fresh strE (w.alloc (.cells #[.string ⟨#[114, 101, 100, 32, 51]⟩] 9)) 9 #[.string ⟨#[103, 111, 108, 100]⟩] [⟨#[103, 111, 108, 100]⟩] rfl (by decide)
  rw [z1] at s2
  refine ⟨[⟨0, some ⟨w.heap.size, 0, none⟩, 1, [⟨#[114, 101, 100, 32, 51]⟩], none, 0, []⟩, ⟨3, none, 0, [], some ⟨w.heap.size + 1, 0, none⟩, 1, [⟨#[103, 111, 108, 100]⟩]⟩], rfl, ?_, ?_, rfl, ?_⟩
  · have := Sl.fresh edE ((w.alloc (.cells #[.string ⟨#[114, 101, 100, 32, 51]⟩] 9)).alloc (.cells #[.string ⟨#[103, 111, 108, 100]⟩] 9)) 53 #[iv 0, .slice (some ⟨w.heap.size, 0, none⟩) 1 1, .slice none 0 0, iv 3, .slice none 0 0, .slice (some ⟨w.heap.size + 1, 0, none⟩) 1 1] [⟨0, some ⟨w.heap.size, 0, none⟩, 1, [⟨#[114, 101, 100, 32, 51]⟩], none, 0, []⟩, ⟨3, none, 0, [], some ⟨w.heap.size + 1, 0, none⟩, 1, [⟨#[103, 111, 108, 100]⟩]⟩] rfl (by simp [maxLen])
    rw [z2] at this
    exact this
  · intro r hr
    simp only [List.mem_cons, List.not_mem_nil, or_false] at hr
    rcases hr with rfl | rfl
    · exact ⟨⟨(s1.alloc _).alloc _, Sl.nil, Nat.le_refl _, Nat.le_refl _⟩, by simp [big], by simp [big]⟩
    · exact ⟨⟨Sl.nil, s2.alloc _, Nat.le_refl _, Nat.le_refl _⟩, by simp [big], by simp [big]⟩
  · exact (((Below.refl _ w).alloc (Nat.le_refl _) _).alloc (by omega) _).alloc (by omega) _
theorem eqRatio (w : World) : (Op.equalIn 10000 117 (.agg #[iv 2, iv 3]) (.agg #[iv 2, iv 3])).run Tryz.prog w = .ok true w := by kernel_rfl
set_option maxHeartbeats 4000000 in
theorem awake_spec (w : World) (ht : Tab w) : Calls Tryz.prog 10 #[] w fun e w' => e = .returned (.bool true) ∧ Below w.heap.size w w' := by
  have HT := Lib.hid ht
  clear ht
  go_enter Tryz.func10, Tryz.ntmps10
  go_wp2_with fail
  refine (three_spec _).mono ?_
  rintro e w1 ⟨A1, rfl, hA1, hb1⟩
  go_wp2_with fail
  refine (print3 A1 w1 hA1 (HT.out.below hb1)).mono ?_
  rintro e w2 ⟨rfl, hb2⟩
  have hB2 := hb1.next hb2 (Nat.le_refl _)
  clear hA1 hb1 hb2
  go_wp2_with fail
  refine (parse28 w2 (HT.out.below hB2)).mono ?_
  rintro e w3 ⟨v3, rfl, hb3⟩
  have hB3 := hB2.next hb3 (Nat.le_refl _)
  clear hB2 hb3
  go_wp2_with fail
  refine (three_spec _).mono ?_
  rintro e w4 ⟨A4, rfl, hA4, hb4⟩
  go_wp2_with fail
  refine (gold_spec _).mono ?_
  rintro e w5 ⟨A5, rfl, hA5, hb5⟩
  have hB5 := (hB3.next hb4 (Nat.le_refl _)).next hb5 (Nat.le_refl _)
  have hA4' := hA4.below hb5
  clear hA4 hb4 hb5 hB3
  go_wp2_with fail
  refine (diffTG A4 A5 w5 hA4' hA5).mono ?_
  rintro e w6 ⟨C6, d6, vs, rfl, hC6, hok6, hvs, hb6⟩
  have HVS := Lib.hid hvs
  have hB6 := Lib.hid (hB5.next hb6 (Nat.le_refl _))
  clear hB5 hb6 hvs
  go_wp2_with fail
  refine (three_spec _).mono ?_
  rintro e w7 ⟨A7, rfl, hA7, hb7⟩
  go_wp2_with fail
  refine (gold_spec _).mono ?_
  rintro e w8 ⟨A8, rfl, hA8, hb8⟩
  have hB68 := hb7.next hb8 (Nat.le_refl _)
  have hA78 := hA7.below hb8
  clear hA7 hb7 hb8
  obtain ⟨rs, hsr, hrr, hrx, hx8⟩ := rows_made w8
  go_wp2_with fail
  generalize (((w8.alloc (.cells #[iv 0, iv 0, iv 0] 3)).alloc (.cells #[iv 1, iv 0, iv 0] 3)).alloc (.cells #[iv 0, iv 2, iv 2] 3)).alloc (.cells #[.slice (some ⟨w8.heap.size, 0, none⟩) 3 3, .slice (some ⟨w8.heap.size + 1, 0, none⟩) 3 3, .slice (some ⟨w8.heap.size + 1 + 1, 0, none⟩) 3 3] 33) = wx at *
  refine (boundTG A7 A8 _ rs wx (hA78.below hx8) (hA8.below hx8) hsr hrr hrx).mono ?_
  rintro e w9 ⟨rfl, hb9⟩
  have hB69 := (hB68.next hx8 (Nat.le_refl _)).next hb9 (Nat.le_refl _)
  clear hA78 hA8 hsr hrr hrx hx8 hb9 hB68
  go_wp2_with fail
  refine (three_spec _).mono ?_
  rintro e wa ⟨Aa, rfl, hAa, hba⟩
  go_wp2_with fail
  refine (gold_spec _).mono ?_
  rintro e wb ⟨Ab, rfl, hAb, hbb⟩
  have hAa' := hAa.below hbb
  have hB6b := (hB69.next hba (Nat.le_refl _)).next hbb (Nat.le_refl _)
  clear hAa hba hbb hB69
  go_wp2_with fail
  refine (alikeTG Aa Ab wb hAa' hAb).mono ?_
  rintro e wc ⟨rfl, hbc⟩
  have hB6c := hB6b.next hbc (Nat.le_refl _)
  clear hAa' hAb hbc hB6b
  have hRd : Blk (wc.alloc (.cells #[iv 2, iv 3] 117)) wc.heap.size 117 #[iv 2, iv 3] := Blk.new _ _ _
  have hRb : Below wc.heap.size wc (wc.alloc (.cells #[iv 2, iv 3] 117)) := (Below.refl _ _).alloc (Nat.le_refl _) _
  go_upto_region 6 with fail
  generalize wc.alloc (.cells #[iv 2, iv 3] 117) = wd at *
  have hB6d := hB6c.next hRb (Nat.le_refl _)
  clear hRb hB6c
  go_wp2_with fail
  refine (three_spec _).mono ?_
  rintro e we ⟨Ae, rfl, hAe, hbe⟩
  have hRe := hRd.under hbe
  have hB6e := hB6d.next hbe (Nat.le_refl _)
  clear hRd hbe hB6d
  have hm1 := Sl.fresh strE we 9 #[.string ⟨#[114, 101, 100, 32, 52]⟩, .string ⟨#[98, 108, 117, 101, 32, 50]⟩, .string ⟨#[103, 111, 108, 100]⟩] mineJ rfl (by decide)
  have hm2 := Sl.fresh strE (we.alloc (.cells #[.string ⟨#[114, 101, 100, 32, 52]⟩, .string ⟨#[98, 108, 117, 101, 32, 50]⟩, .string ⟨#[103, 111, 108, 100]⟩] 9)) 9 #[.string ⟨#[114, 101, 100, 32, 51]⟩, .string ⟨#[103, 114, 101, 121]⟩, .string ⟨#[98, 108, 117, 101, 32, 50]⟩, .string ⟨#[103, 111, 108, 100]⟩] yourJ rfl (by decide)
  have hbm : Below we.heap.size we ((we.alloc (.cells #[.string ⟨#[114, 101, 100, 32, 52]⟩, .string ⟨#[98, 108, 117, 101, 32, 50]⟩, .string ⟨#[103, 111, 108, 100]⟩] 9)).alloc (.cells #[.string ⟨#[114, 101, 100, 32, 51]⟩, .string ⟨#[103, 114, 101, 121]⟩, .string ⟨#[98, 108, 117, 101, 32, 50]⟩, .string ⟨#[103, 111, 108, 100]⟩] 9)) := ((Below.refl _ _).alloc (Nat.le_refl _) _).alloc (by simp) _
  have hm1' := hm1.alloc (.cells #[.string ⟨#[114, 101, 100, 32, 51]⟩, .string ⟨#[103, 114, 101, 121]⟩, .string ⟨#[98, 108, 117, 101, 32, 50]⟩, .string ⟨#[103, 111, 108, 100]⟩] 9)
  rw [show (we.alloc (.cells #[.string ⟨#[114, 101, 100, 32, 52]⟩, .string ⟨#[98, 108, 117, 101, 32, 50]⟩, .string ⟨#[103, 111, 108, 100]⟩] 9)).heap.size = we.heap.size + 1 by simp] at hm2
  clear hm1
  go_wp2_with fail
  generalize (we.alloc (.cells #[.string ⟨#[114, 101, 100, 32, 52]⟩, .string ⟨#[98, 108, 117, 101, 32, 50]⟩, .string ⟨#[103, 111, 108, 100]⟩] 9)).alloc (.cells #[.string ⟨#[114, 101, 100, 32, 51]⟩, .string ⟨#[103, 114, 101, 121]⟩, .string ⟨#[98, 108, 117, 101, 32, 50]⟩, .string ⟨#[103, 111, 108, 100]⟩] 9) = wf at *
  refine (joinTG Ae _ _ wf (hAe.below hbm) hm1' hm2).mono ?_
  rintro e wg ⟨Cg, dg, Cg', dg', rfl, hCg, hCg', hbg⟩
  have hRg := (hRe.under hbm).under hbg
  have hB6g := (hB6e.next hbm (Nat.le_refl _)).next hbg (Nat.le_refl _)
  clear hAe hm1' hm2 hbm hRe hbg hB6e
  have hRc0 := hRg.cell 0
  have hRc1 := hRg.cell 1
  have hRl := hRg.lt
  go_wp2_with fail
  obtain ⟨vy, hvl, hvy, hoky, hvye, hby⟩ := eds_made wg
  have hokg : ∀ r ∈ vs, EdOk wg r ∧ r.old.length ≤ big ∧ r.new.length ≤ big := fun r hr => ⟨(hok6 r hr).1.below hB6g, (hok6 r hr).2⟩
  have hC6g := hC6.below hB6g
  have hvsl : vs.length ≤ big := by have := congrArg List.length HVS.out; rw [List.length_map] at this; rw [this]; decide
  generalize ((wg.alloc (.cells #[.string ⟨#[114, 101, 100, 32, 51]⟩] 9)).alloc (.cells #[.string ⟨#[103, 111, 108, 100]⟩] 9)).alloc (.cells #[iv 0, .slice (some ⟨wg.heap.size, 0, none⟩) 1 1, .slice none 0 0, iv 3, .slice none 0 0, .slice (some ⟨wg.heap.size + 1, 0, none⟩) 1 1] 53) = wh at *
  have hsm := same_spec C6 vs d6 (some ⟨wg.heap.size + 1 + 1, 0, none⟩) vy 2 wh hvsl (hC6g.below hby) (by rw [hvl]; decide) hvy (fun r hr => ⟨(hokg r hr).1.below hby, (hokg r hr).2⟩) hoky
  rw [decide_eq_true (HVS.out.trans hvye.symm), hvl] at hsm
  refine hsm.mono ?_
  rintro e wi ⟨rfl, hbi⟩
  have hgi := hby.next hbi (Nat.le_refl _)
  have hRi := hRg.under hgi
  have hCi := hCg.below hgi
  have hCi' := hCg'.below hgi
  have hB6i := hB6g.next hgi (Nat.le_refl _)
  clear hsm hvy hoky hvye hby hokg hC6g hvsl hbi hgi hRg hCg hCg' hB6g hRc0 hRc1 hRl hok6 hC6
  have hRc0 := hRi.cell 0
  have hRc1 := hRi.cell 1
  have hRl := hRi.lt
  have heqr := eqRatio
  go_wp2_with fail
  refine (three_spec _).mono ?_
  rintro e wj ⟨Aj, rfl, hAj, hbj⟩
  have hCj := hCi.below hbj
  have hCj' := hCi'.below hbj
  have hB6j := hB6i.next hbj (Nat.le_refl _)
  clear hCi hCi' hRi hbj hB6i hRc0 hRc1 hRl
  have heqs := equalS Cg three dg Aj three 3 wj (by decide) hCj (by decide) hAj
  rw [decide_eq_true rfl] at heqs
  go_wp2_with fail
  refine heqs.mono ?_
  rintro e wk ⟨rfl, hbk⟩
  have hCk' := hCj'.below hbk
  have hB6k := hB6j.next hbk (Nat.le_refl _)
  clear hCj hCj' hAj hbk heqs hB6j
  have hsp := Sl.fresh pairE wk 40 #[iv 0, iv 1] [(0, 1)] rfl (by decide)
  have hbl : Below wk.heap.size wk (wk.alloc (.cells #[iv 0, iv 1] 40)) := (Below.refl _ _).alloc (Nat.le_refl _) _
  go_wp2_with fail
  generalize wk.alloc (.cells #[iv 0, iv 1] 40) = wl at *
  have heqp := eqSp Cg' [(0, 1)] dg' (some ⟨wk.heap.size, 0, none⟩) [(0, 1)] 1 wl (by decide) (hCk'.below hbl) (by decide) hsp
  rw [decide_eq_true rfl] at heqp
  refine heqp.mono ?_
  rintro e wm ⟨rfl, hbm⟩
  go_wp2_with fail
  go_ret
  exact ⟨rfl, hB6.out.next ((hB6k.next hbl (Nat.le_refl _)).next hbm (Nat.le_refl _)) (Nat.le_refl _)⟩
end Fl
end Go.Proofs.YtekkhnjepcebkaaGreatDoor
