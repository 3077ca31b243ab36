/- FileMade: the walk. Condition: the library's table of powers of ten lies as the program's text lays it. -/
import Derived.Test.YtkhmkpcihphkcaaDoorChangeF
import Derived.Test.YtkhmkpcihphkcaaDoorFlY
import Derived.Test.YtkhmkpcihphkcaaDoorFileChg
set_option linter.unusedVariables false
set_option linter.unusedSimpArgs false
namespace Go.Proofs.YtkhmkpcihphkcaaDoor
namespace Fl
open Go.RowKit Go.Shelf
set_option maxRecDepth 100000
theorem goodLn {xs : List ByteArray} (hl : xs.length ≤ 24) (h : ∀ s ∈ xs, LnOk s) : Good xs := ⟨hl, fun s hs => (h s hs).2, fun s hs => (h s hs).1⟩
theorem mk12m (g : Nat) (w : World) (h : IsSpool (g + 1) w g 0) : Calls Tryd.prog 16 #[.pointer (some ⟨g, 0, none⟩), .int .i64 12] w fun e w' => ∃ (v : Value) (xs : List ByteArray), e = .returned v ∧ Own strE 9 w.heap.size w' v xs ∧ xs.length ≤ 12 ∧ (∀ s ∈ xs, LnOk s) ∧ Only g w w' := by
  have := mk_spec (g + 1) w g 0 12 h (Nat.zero_lt_succ _) (by decide)
  refine this.mono ?_
  rintro e w' ⟨v, xs, k', rfl, h1, h2, h3, _, _, h4⟩
  exact ⟨v, xs, rfl, h1, h2, h3, h4⟩
theorem changed5 (g : Nat) (w : World) (A : Option Addr) (f : List ByteArray) (c : Nat) (h : IsSpool (g + 1) w g 0) (hs : Sl strE w A f) (hf : f.length ≤ 21) (hok : ∀ s ∈ f, LnOk s) :
    Calls Tryd.prog 45 #[.pointer (some ⟨g, 0, none⟩), .slice A f.length c, .int .i64 5] w fun e w' => ∃ (v : Value) (xs : List ByteArray), e = .returned v ∧ Own strE 9 w.heap.size w' v xs ∧ xs.length ≤ 21 ∧ (∀ s ∈ xs, LnOk s) ∧ Only g w w' := by
  have := changed_spec (g + 1) w g 0 5 A f c h (by omega) (by omega) hs hf hok
  refine this.mono ?_
  rintro e w' ⟨v, xs, k', rfl, h1, h2, h3, _, _, h4⟩
  exact ⟨v, xs, rfl, h1, h2, h3, h4⟩
theorem changed3 (g : Nat) (w : World) (A : Option Addr) (f : List ByteArray) (c : Nat) (h : IsSpool (g + 1) w g 0) (hs : Sl strE w A f) (hf : f.length ≤ 21) (hok : ∀ s ∈ f, LnOk s) :
    Calls Tryd.prog 45 #[.pointer (some ⟨g, 0, none⟩), .slice A f.length c, .int .i64 3] w fun e w' => ∃ (v : Value) (xs : List ByteArray), e = .returned v ∧ Own strE 9 w.heap.size w' v xs ∧ xs.length ≤ 21 ∧ (∀ s ∈ xs, LnOk s) ∧ Only g w w' := by
  have := changed_spec (g + 1) w g 0 3 A f c h (by omega) (by omega) hs hf hok
  refine this.mono ?_
  rintro e w' ⟨v, xs, k', rfl, h1, h2, h3, _, _, h4⟩
  exact ⟨v, xs, rfl, h1, h2, h3, h4⟩
set_option maxHeartbeats 8000000 in
theorem made_law (A : Option Addr) (bs : List Int) (c : Nat) (A' : Option Addr) (bs' : List Int) (c' : Nat) (A'' : Option Addr) (bs'' : List Int) (c'' : Nat) (w : World) (hs : Sl byteE w A bs) (hs' : Sl byteE w A' bs') (hs'' : Sl byteE w A'' bs'') (ht : Tab w) :
    Calls Tryd.prog 11 #[.slice A bs.length c, .slice A' bs'.length c', .slice A'' bs''.length c''] w fun e w' => e = .returned (.bool true) ∧ Below w.heap.size w w' := by
  have HT := Lib.hid ht
  have HAW : Hid (∀ W, Below w.heap.size w W → Calls Tryd.prog 12 #[] W fun e w' => e = .returned (.bool true) ∧ Below W.heap.size W w') := Lib.hid fun W h => awake_spec W (HT.out.below h)
  clear ht
  go_enter Tryd.func11, Tryd.ntmps11
  go_wp2_with fail
  refine (wound_spec A bs c w hs).mono ?_
  rintro e w1 ⟨_, rfl, rfl, hsp1, hb1⟩
  go_wp2_with fail
  refine (mk12m w.heap.size w1 hsp1).mono ?_
  rintro e w2 ⟨v, a, rfl, hoB, hBl, hBg, hon2⟩
  obtain ⟨Ab, cb, rfl, hcb, _⟩ := hoB.form
  have hb02 : Below w.heap.size w w2 := hb1.trans (hon2.below.mono (Nat.le_refl _))
  go_wp2_with fail
  refine (wound_spec A' bs' c' w2 (hs'.below hb02)).mono ?_
  rintro e w3 ⟨_, rfl, rfl, hsp3, hb3⟩
  have hb03 := hb02.next hb3 (Nat.le_refl _)
  have hoB3 := hoB.below hb3
  go_wp2_with fail
  refine (changed5 w2.heap.size w3 Ab a cb hsp3 hoB3.sl (by omega) hBg).mono ?_
  rintro e w4 ⟨v, b, rfl, hoA, hAl, hAg, hon4⟩
  obtain ⟨Aa, ca, rfl, hca, _⟩ := hoA.form
  have hb04 : Below w.heap.size w w4 := hb03.trans (hon4.below.mono hb02.size)
  have hoB4 := hoB3.keep hon4.below.size fun b hb => hon4.other b (hoB3.lt b hb).2 (by have := (hoB.lt b hb).2; omega)
  go_wp2_with fail
  refine (wound_spec A'' bs'' c'' w4 (hs''.below hb04)).mono ?_
  rintro e w5 ⟨_, rfl, rfl, hsp5, hb5⟩
  have hb05 := hb04.next hb5 (Nat.le_refl _)
  have hoB5 := hoB4.below hb5
  have hoA5 := hoA.below hb5
  go_wp2_with fail
  refine (changed3 w4.heap.size w5 Ab a cb hsp5 hoB5.sl (by omega) hBg).mono ?_
  rintro e w6 ⟨v, o, rfl, hoC, hCl, hCg, hon6⟩
  obtain ⟨Ac, c2, rfl, hcc2, _⟩ := hoC.form
  have hb06 : Below w.heap.size w w6 := hb05.trans (hon6.below.mono hb04.size)
  have hoB6 := hoB5.keep hon6.below.size fun b hb => hon6.other b (hoB5.lt b hb).2 (by have := (hoB4.lt b hb).2; omega)
  have hoA6 := hoA5.keep hon6.below.size fun b hb => hon6.other b (hoA5.lt b hb).2 (by have := (hoA.lt b hb).2; omega)
  have gA := goodLn (by omega) hBg
  have gB := goodLn (by omega) hAg
  have gO := goodLn (by omega) hCg
  have herr : errOf a b = 0 := by unfold errOf; rw [if_pos (check_of_good gA)]; exact check_of_good gB
  have hckO := check_of_good gO
  obtain ⟨f1, f2, f3, f4⟩ := File.back_facts gA gB
  have hbB : a.length ≤ big := by unfold big; omega
  have hbA : b.length ≤ big := by unfold big; omega
  have hbO : o.length ≤ big := by unfold big; omega
  have hDF := Diff_spec Ab a cb Aa b ca w6 hbB hbA hcb hca hoB6.sl hoA6.sl
  rw [herr, if_pos rfl] at hDF
  have HSO := Lib.hid hoC.sl
  have HCH := Lib.hid (File.chain_diff a b)
  have hCK := f1
  have hCO := File.cost_back (File.diff a b)
  obtain ⟨D, hD⟩ : ∃ D, D = File.diff a b := ⟨_, rfl⟩
  rw [← hD] at hDF f1 f2 f3 f4 HCH hCK hCO
  have hDl : D.length ≤ 25 := by have := File.diff_len a b; rw [hD]; omega
  obtain ⟨E, hE⟩ : ∃ E, E = File.back D := ⟨_, rfl⟩
  rw [← hE] at f2 f3 f4 hCO
  have chD := File.ch_of f1
  have chE := File.ch_of f2
  have hEl : E.length = D.length := by
    have : ∀ (c : List (File.Edit ByteArray)) (n : Int), (File.backGo n c).length = c.length := by
      intro c
      induction c with
      | nil => intro n; rfl
      | cons x r ih => intro n; simp [File.backGo, ih]
    rw [hE]; exact this D 0
  clear hs hs' hs'' hsp1 hsp3 hsp5 hon2 hon4 hon6 hb1 hb3 hb5 hb02 hb03 hb04 hb05 hoB hoB3 hoB4 hoB5 hoB6 hoA hoA5 hoA6 hoC hBg hAg hCg hD hE gA gB herr
  go_wp2_with fail
  refine hDF.mono ?_
  rintro e w7 ⟨v, rs, rfl, hv, hr, hb7⟩
  obtain ⟨vs, q1, k1, fc1, ln1⟩ := eds_of hr
  have ho1 := own_eds hv fc1 ln1
  obtain ⟨C1, d1, rfl, _, _⟩ := ho1.form
  have hb07 := hb06.next hb7 (Nat.le_refl _)
  have hvl : vs.length ≤ 25 := by have := congrArg List.length q1; rw [List.length_map] at this; omega
  have sm1 : ∀ r ∈ vs, 0 ≤ r.at_ ∧ r.at_ ≤ 24 ∧ r.old.length ≤ 24 ∧ r.new.length ≤ 24 := fun r hr => by
    have hm : r.ed ∈ D := by rw [← q1]; exact List.mem_map_of_mem hr
    exact ⟨(chD.at_ _ hm).1, (chD.at_ _ hm).2, chD.old _ hm, chD.new _ hm⟩
  have bg1 : ∀ r ∈ vs, r.old.length ≤ big ∧ r.new.length ≤ big := fun r hr => by have := sm1 r hr; unfold big; omega
  have HK1 := Lib.hid fun W (h : Below w7.heap.size w7 W) => fun r hr => (k1 r hr).below h
  have HS1 := Lib.hid fun W (h : Below w7.heap.size w7 W) => ho1.sl.below h
  have hBK := Back_spec C1 vs d1 w7 (by omega) ho1.sl k1 bg1
  rw [q1, f3] at hBK
  clear hDF hv hr fc1 ln1 ho1
  go_wp2_with fail
  refine hBK.mono ?_
  rintro e w8 ⟨v, rs2, rfl, hv, hr, hb8⟩
  try simp only at hv hr
  obtain ⟨vs2, q2, k2, fc2, ln2⟩ := eds_of hr
  have ho2 := own_eds hv fc2 ln2
  obtain ⟨C2, d2, rfl, _, _⟩ := ho2.form
  have hvl2 : vs2.length ≤ 25 := by have := congrArg List.length q2; rw [List.length_map] at this; omega
  have bg2 : ∀ r ∈ vs2, r.old.length ≤ big ∧ r.new.length ≤ big := fun r hr => by
    have hm : r.ed ∈ E := by rw [← q2]; exact List.mem_map_of_mem hr
    have h1 := chE.old _ hm
    have h2 := chE.new _ hm
    unfold EdV.ed at h1 h2
    unfold big
    exact ⟨by simp only at h1; omega, by simp only at h2; omega⟩
  have hBK2 := Back_spec C2 vs2 d2 w8 (by omega) ho2.sl k2 bg2
  rw [q2, f4] at hBK2
  clear hBK hv hr fc2 ln2
  go_wp2_with fail
  refine hBK2.mono ?_
  rintro e w9 ⟨v, rs3, rfl, hv, hr, hb9⟩
  try simp only at hv hr
  obtain ⟨vs3, q3, k3, fc3, ln3⟩ := eds_of hr
  have ho3 := own_eds hv fc3 ln3
  obtain ⟨C3, d3, rfl, _, _⟩ := ho3.form
  have hb79 := hb8.next hb9 (Nat.le_refl _)
  have hvl3 : vs3.length ≤ 25 := by have := congrArg List.length q3; rw [List.length_map] at this; omega
  have bg3 : ∀ r ∈ vs3, r.old.length ≤ big ∧ r.new.length ≤ big := fun r hr => by
    have hm : r.ed ∈ D := by rw [← q3]; exact List.mem_map_of_mem hr
    have h1 := chD.old _ hm
    have h2 := chD.new _ hm
    unfold EdV.ed at h1 h2
    unfold big
    exact ⟨by simp only at h1; omega, by simp only at h2; omega⟩
  have hC1 := Cost_spec C1 vs d1 w9 (by omega) (HS1.out w9 hb79) (HK1.out w9 hb79) bg1
  rw [q1, if_pos f1, f1] at hC1
  clear hBK2 hv hr fc3 ln3
  go_wp2_with fail
  refine hC1.mono ?_
  rintro e w10 ⟨rfl, hb10⟩
  have hC2 := Cost_spec C2 vs2 d2 w10 (by omega) (ho2.sl.below (hb9.next hb10 (Nat.le_refl _))) (fun r hr => (k2 r hr).below (hb9.next hb10 (Nat.le_refl _))) bg2
  rw [q2, if_pos f2, f2, hCO] at hC2
  generalize File.cost D = cst at *
  go_wp2_with fail
  refine hC2.mono ?_
  rintro e w11 ⟨rfl, hb11⟩
  have hb711 := (hb79.next hb10 (Nat.le_refl _)).next hb11 (Nat.le_refl _)
  have hb911 := hb10.next hb11 (Nat.le_refl _)
  have hSM := same_spec C3 vs3 d3 C1 vs d1 w11 (by unfold big; omega) (ho3.sl.below hb911) (by unfold big; omega) (HS1.out w11 hb711) (fun r hr => ⟨(k3 r hr).below hb911, bg3 r hr⟩) (fun r hr => ⟨HK1.out w11 hb711 r hr, bg1 r hr⟩)
  rw [q3, q1, decide_eq_true rfl] at hSM
  clear hC1 hC2 ho2 ho3 k2 k3
  go_wp2_with fail
  refine hSM.mono ?_
  rintro e w12 ⟨rfl, hb12⟩
  have hb712 := hb711.next hb12 (Nat.le_refl _)
  have hCC := cc_spec C1 vs d1 w12 (by omega) (HS1.out w12 hb712) (HK1.out w12 hb712) bg1
  rw [q1, f1] at hCC
  clear hSM
  go_wp2_with fail
  refine hCC.mono ?_
  rintro e w13 ⟨rfl, hb13⟩
  have hb713 := hb712.next hb13 (Nat.le_refl _)
  have hb013 := hb07.next hb713 (Nat.le_refl _)
  clear hCC hb8 hb9 hb79 hb10 hb11 hb711 hb911 hb12 hb712 hb13
  have HSM1 := Lib.hid sm1
  have HO13 : Hid (∀ W, Below w13.heap.size w13 W → Sl strE W Ac o) := Lib.hid fun W h => HSO.out.below ((hb7.next hb713 (Nat.le_refl _)).next h (Nat.le_refl _))
  have HS13 := Lib.hid fun W (h : Below w13.heap.size w13 W) => HS1.out W (hb713.next h (Nat.le_refl _))
  have HK13 := Lib.hid fun W (h : Below w13.heap.size w13 W) => HK1.out W (hb713.next h (Nat.le_refl _))
  have HMK := Lib.hid fun W (h : Below w13.heap.size w13 W) => make_spec Ac o c2 C1 vs d1 W hbO hcc2 (HO13.out W h) (by omega) (HS13.out W h) (HK13.out W h) bg1
  have hans : File.makeAns o D = if D.all (File.fitAt o) then (if 24 < (File.make o D).length then ([], 2) else (File.make o D, 0)) else ([], 7) := by
    unfold File.makeAns
    rw [if_pos hckO, if_pos f1]
  have HMR : Hid (D.all (File.fitAt o) = true → ((File.make o D).length : Int) = (o.length : Int) + File.more D) := Lib.hid fun h => File.make_more HCH.out fun x hx => File.fit_hi (chD.at_ x hx).1 (List.all_eq_true.1 h x hx)
  rw [q1, hans] at HMK
  obtain ⟨all, hall⟩ : ∃ all, all = D.all (File.fitAt o) := ⟨_, rfl⟩
  rw [← hall] at HMK HMR
  rw [← q1] at hall
  have HALL := Lib.hid hall
  have HQ1 := Lib.hid q1
  clear hall hans q1 q2 q3 chD chE f1 f2 f3 f4 sm1 bg1 bg2 bg3 k1 hb7 hb713 HK1 HS1 HSO hCO hCK hckO hEl HCH
  go_wp2_with fail
  go_loopw [20, 22, 23, 24, 102] (fun fb _ _ _ i wr => ∃ (k : Nat) (z : Bool), k ≤ vs.length ∧ i = iv k ∧ fb = .bool z ∧ Hid ((z && ((vs.map EdV.ed).drop k).all (File.fitAt o)) = all) ∧ Below w13.heap.size w13 wr) (fun _ _ _ _ i _ => vs.length - (intOf i).toNat)
  case atStart => exact ⟨0, true, by omega, rfl, rfl, Lib.hid (by rw [HALL.out]; simp), Below.refl _ _⟩
  case round =>
    obtain ⟨k, z, hk, rfl, rfl, HA, hbr⟩ := hrel
    by_cases hlt : k < vs.length
    · have hki : (k : Int) < (vs.length : Int) := by omega
      obtain ⟨b0, off, x, rfl, hb0, hx, hc0, hc1, hc2⟩ := Sl.atEd (HS13.out _ hbr) hlt
      have hxs := HSM1.out x (mem_at hx)
      have ha := HA.out
      rw [drop_ed hx, List.all_cons] at ha
      have HXO : Hid (∀ z : World, Below w13.heap.size w13 z → Sl strE z x.A x.old) := Lib.hid fun z h => (HK13.out z h x (mem_at hx)).old
      obtain ⟨xa, xA, xc, xo, xA', xc', xn⟩ := x
      simp only at hc0 hc1 hc2 hxs HXO
      obtain ⟨n, rfl⟩ : ∃ n : Nat, xa = (n : Int) := ⟨xa.toNat, by omega⟩
      have ha : (z && ((decide ((n : Int) ≤ (o.length : Int)) && File.fitGo o n xo) && ((vs.map EdV.ed).drop (k + 1)).all (File.fitAt o))) = all := ha
      have hbM : Below wr.heap.size wr (wr.alloc (.cells #[iv (n : Int), .slice xA xo.length xc, .slice xA' xn.length xc'] 95)) := (Below.refl _ _).alloc (Nat.le_refl _) _
      have hM : Blk (wr.alloc (.cells #[iv (n : Int), .slice xA xo.length xc, .slice xA' xn.length xc'] 95)) wr.heap.size 95 #[iv (n : Int), .slice xA xo.length xc, .slice xA' xn.length xc'] := Blk.new _ _ _
      have HAL := Lib.hid ha
      have hn0 : ¬ (n : Int) < 0 := by omega
      clear ha HA hx
      go_upto_region 14 with fail
      generalize wr.alloc (.cells #[iv (n : Int), .slice xA xo.length xc, .slice xA' xn.length xc'] 95) = w4 at *
      have hb24 : Below w13.heap.size w13 w4 := hbr.trans (hbM.mono hbr.size)
      have m0 := hM.cell 0
      have m1 := hM.cell 1
      have ml := hM.lt
      clear hc0 hc1 hc2 hbM
      by_cases hnl : n ≤ o.length
      · have hni : ¬ (o.length : Int) < (n : Int) := by omega
        have HAL2 : Hid ((z && (File.fitGo o n xo && ((vs.map EdV.ed).drop (k + 1)).all (File.fitAt o))) = all) := Lib.hid (by
          rw [← HAL.out, decide_eq_true (show (n : Int) ≤ (o.length : Int) by omega), Bool.true_and])
        go_wp2_with fail
        go_loopw [20, 23, 24, 119] (fun fb _ _ i wx => ∃ (j : Nat) (y : Bool), j ≤ xo.length ∧ i = iv j ∧ fb = .bool y ∧ Hid ((y && File.fitGo o (n + j) (xo.drop j)) = (z && File.fitGo o n xo)) ∧ wx = w4) (fun _ _ _ i _ => xo.length - (intOf i).toNat)
        case atStart => exact ⟨0, z, by omega, rfl, rfl, rfl, rfl⟩
        case round =>
          obtain ⟨j, y, hj, rfl, rfl, HFG, rfl⟩ := hrel
          by_cases hjl : j < xo.length
          · have hji : (j : Int) < (xo.length : Int) := by omega
            obtain ⟨b2, off2, s, hA2, hb2', hs2, hd2⟩ := Sl.atS (HXO.out _ hb24) hjl
            subst hA2
            have hg := HFG.out
            rw [drop_at hs2, File.fitGo] at hg
            cases y
            · have HN : Hid ((false && File.fitGo o (n + (j + 1)) (xo.drop (j + 1))) = (z && File.fitGo o n xo)) := Lib.hid (by rw [← hg]; rfl)
              clear hg hs2 HFG
              go_wp2_with fail
              go_roundw
              case rel => exact ⟨j + 1, false, hjl, by go_num, rfl, HN, trivial⟩
              case measure => simp [intOf]; omega
            · obtain ⟨p, hp⟩ : ∃ p, p = n + j := ⟨_, rfl⟩
              have hpi : (n : Int) + (j : Int) = (p : Int) := by omega
              have ep : IntKind.i64.wrap (p : Int) = (p : Int) := IntWalk.i64_in _ (by omega)
              have ew : IntKind.i64.wrap ((n : Int) + (j : Int)) = (p : Int) := by rw [hpi]; exact ep
              rw [← hp, Bool.true_and] at hg
              have HP := Lib.hid hp
              clear hp hs2
              by_cases hpl : p < o.length
              · have hpl2 : (p : Int) < (o.length : Int) := by omega
                obtain ⟨b3, off3, u, hA3, hb3, hu, hd3⟩ := Sl.atS (HO13.out _ hb24) hpl
                subst hA3
                have hsq := str_eq u s
                rw [hu] at hg
                obtain ⟨q, hq⟩ : ∃ q, q = decide (u = s) := ⟨_, rfl⟩
                rw [← hq] at hsq
                have hqq : decide (some u = some s) = q := by rw [hq, decide_eq_decide]; exact ⟨fun h => Option.some.inj h, fun h => by rw [h]⟩
                rw [hqq] at hg
                have HN : Hid ((q && File.fitGo o (n + (j + 1)) (xo.drop (j + 1))) = (z && File.fitGo o n xo)) := Lib.hid (by
                  have := HP.out; rw [show n + (j + 1) = p + 1 by omega]; exact hg)
                clear hg hu HFG hq hqq
                go_wp2_with fail
                go_roundw
                case rel => exact ⟨j + 1, q, hjl, by go_num, rfl, HN, trivial⟩
                case measure => simp [intOf]; omega
              · have hpl2 : ¬ (p : Int) < (o.length : Int) := by omega
                rw [List.getElem?_eq_none (by omega), decide_eq_false (by simp), Bool.false_and] at hg
                have HN : Hid ((false && File.fitGo o (n + (j + 1)) (xo.drop (j + 1))) = (z && File.fitGo o n xo)) := Lib.hid (by rw [← hg]; rfl)
                clear hg HFG
                go_wp2_with fail
                go_roundw
                case rel => exact ⟨j + 1, false, hjl, by go_num, rfl, HN, trivial⟩
                case measure => simp [intOf]; omega
          · have hji : ¬ (j : Int) < (xo.length : Int) := by omega
            have hg := HFG.out
            rw [List.drop_eq_nil_of_le (by omega), File.fitGo, Bool.and_true] at hg
            have HA2 : Hid ((y && ((vs.map EdV.ed).drop (k + 1)).all (File.fitAt o)) = all) := Lib.hid (by rw [hg, ← HAL2.out, Bool.and_assoc])
            clear hg HFG HAL HAL2
            go_wp2_with fail
            go_roundw
            case rel => exact ⟨k + 1, y, by omega, by go_num, rfl, HA2, hb24⟩
            case measure => simp [intOf]; omega
      · have hni : (o.length : Int) < (n : Int) := by omega
        have HA2 : Hid ((false && ((vs.map EdV.ed).drop (k + 1)).all (File.fitAt o)) = all) := Lib.hid (by
          rw [← HAL.out, decide_eq_false (show ¬ (n : Int) ≤ (o.length : Int) by omega)]; simp)
        clear HAL
        go_wp2_with fail
        go_roundw
        case rel => exact ⟨k + 1, false, by omega, by go_num, rfl, HA2, hb24⟩
        case measure => simp [intOf]; omega
    · have hki : ¬ (k : Int) < (vs.length : Int) := by omega
      have ha := HA.out
      have hdn : (vs.map EdV.ed).drop k = [] := List.drop_eq_nil_of_le (by rw [List.length_map]; omega)
      rw [hdn] at ha
      simp only [List.all_nil, Bool.and_true] at ha
      subst ha
      have hM := HMK.out _ hbr
      have hb0r := hb013.next hbr (Nat.le_refl _)
      clear HA hdn HALL HMK hk hlt
      generalize wr = w14 at *
      cases z
      · simp only [Bool.false_eq_true, if_false] at hM
        go_wp2_with fail
        refine hM.mono ?_
        rintro _ w15 ⟨v, rfl, ho, hb15⟩
        obtain ⟨A9, c9, rfl, _, _⟩ := ho.form
        have hb015 := hb0r.next hb15 (Nat.le_refl _)
        clear ho hM
        go_wp2_with fail
        refine (HAW.out _ hb015).mono ?_
        rintro _ wz ⟨rfl, hbz⟩
        go_wp2_with fail
        go_ret
        exact ⟨rfl, (hb015).next hbz (Nat.le_refl _)⟩
      · simp only [if_true] at hM
        have hmr := HMR.out rfl
        rw [← HQ1.out] at hmr
        by_cases h24 : 24 < (File.make o D).length
        all_goals
          first | rw [if_pos h24] at hM | rw [if_neg h24] at hM
          rw [HQ1.out] at hmr
          obtain ⟨M, hMe⟩ : ∃ M, M = File.make o D := ⟨_, rfl⟩
          rw [← hMe] at hmr h24
          try rw [← hMe] at hM
          rw [← HQ1.out] at hmr
          clear hMe
          go_wp2_with fail
          refine hM.mono ?_
          rintro _ w15 ⟨v, rfl, ho, hb15⟩
          obtain ⟨A9, c9, rfl, _, _⟩ := ho.form
          have hb015 := hb0r.next hb15 (Nat.le_refl _)
          have hbr15 := hbr.next hb15 (Nat.le_refl _)
          have HMO := Lib.hid hmr
          clear ho hM hmr hb0r hbr
          go_wp2_with fail
          go_loopw [26, 28, 158] (fun mv _ i wr => ∃ (k : Nat) (m : Int), k ≤ vs.length ∧ i = iv k ∧ mv = iv m ∧ -(k * 24 : Int) ≤ m ∧ m ≤ 24 + (k * 24 : Int) ∧ Hid (m + File.more ((vs.map EdV.ed).drop k) = (o.length : Int) + File.more (vs.map EdV.ed)) ∧ Below w15.heap.size w15 wr) (fun _ _ i _ => vs.length - (intOf i).toNat)
          case atStart => exact ⟨0, (o.length : Int), by omega, rfl, rfl, by omega, by omega, rfl, Below.refl _ _⟩
          case round =>
            obtain ⟨k, m, hk, rfl, rfl, hm1, hm2, HN, hbx⟩ := hrel
            by_cases hlt : k < vs.length
            · have hki : (k : Int) < (vs.length : Int) := by omega
              obtain ⟨b0, off, x, rfl, hb0, hx, hc0, hc1, hc2⟩ := Sl.atEd (HS13.out _ (hbr15.next hbx (Nat.le_refl _))) hlt
              have hxs := HSM1.out x (mem_at hx)
              have hn := HN.out
              rw [drop_ed hx] at hn
              have hn : m + ((x.new.length : Int) - (x.old.length : Int) + File.more ((vs.map EdV.ed).drop (k + 1))) = (o.length : Int) + File.more (vs.map EdV.ed) := hn
              have HN2 : Hid (m + ((x.new.length : Int) - (x.old.length : Int)) + File.more ((vs.map EdV.ed).drop (k + 1)) = (o.length : Int) + File.more (vs.map EdV.ed)) := Lib.hid (by omega)
              have hbM : Below wr.heap.size wr (wr.alloc (.cells #[iv x.at_, .slice x.A x.old.length x.c, .slice x.A' x.new.length x.c'] 95)) := (Below.refl _ _).alloc (Nat.le_refl _) _
              have ew2 : IntKind.i64.wrap ((x.new.length : Int) - (x.old.length : Int)) = (x.new.length : Int) - (x.old.length : Int) := IntWalk.i64_in _ (by omega)
              have ew3 : IntKind.i64.wrap (m + ((x.new.length : Int) - (x.old.length : Int))) = m + ((x.new.length : Int) - (x.old.length : Int)) := IntWalk.i64_in _ (by omega)
              clear hn HN hx
              go_wp2_with fail
              go_roundw
              case rel => exact ⟨k + 1, m + ((x.new.length : Int) - (x.old.length : Int)), by omega, by go_num, by go_num, by omega, by omega, HN2, hbx.next hbM (Nat.le_refl _)⟩
              case measure => simp [intOf]; omega
            · have hki : ¬ (k : Int) < (vs.length : Int) := by omega
              have hn := HN.out
              rw [show (vs.map EdV.ed).drop k = [] from List.drop_eq_nil_of_le (by rw [List.length_map]; omega)] at hn
              have hmm : m = (M.length : Int) := by
                rw [HMO.out, ← hn]
                simp [File.more]
              have hb0x := hb015.next hbx (Nat.le_refl _)
              have h24i : (24 : Int) < (M.length : Int) ↔ 24 < M.length := by omega
              clear hn HN
              subst hmm
              first
                | (have h24j : (24 : Int) < (M.length : Int) := h24i.2 h24)
                | skip
              clear h24i
              go_wp2_with fail
              refine (HAW.out _ hb0x).mono ?_
              rintro _ wz ⟨rfl, hbz⟩
              go_wp2_with fail
              go_ret
              exact ⟨rfl, (hb0x).next hbz (Nat.le_refl _)⟩
end Fl
end Go.Proofs.YtkhmkpcihphkcaaDoor
