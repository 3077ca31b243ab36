/- FileTold: the walk. Condition: the library's table of powers of ten lies as the program's text lays it. -/
import Derived.Test.YtekkhnjepcebkaaGreatDoorChangeF
import Derived.Test.YtekkhnjepcebkaaGreatDoorFlY
import Derived.Test.YtekkhnjepcebkaaGreatDoorFilePl
import Derived.Test.YtekkhnjepcebkaaGreatDoorFlPr
import Derived.Test.YtekkhnjepcebkaaGreatDoorFlLs
import Derived.Test.YtekkhnjepcebkaaGreatDoorFrameF
set_option linter.unusedVariables false
set_option linter.unusedSimpArgs false
namespace Go.Proofs.YtekkhnjepcebkaaGreatDoor
namespace Fl
open Go.RowKit Go.Shelf
set_option maxRecDepth 100000
theorem goodLt {xs : List ByteArray} (hl : xs.length ≤ 24) (h : ∀ s ∈ xs, LnOk s) : Good xs := ⟨hl, fun s hs => (h s hs).2, fun s hs => (h s hs).1⟩
theorem mk16 (g : Nat) (w : World) (h : IsSpool (g + 1) w g 0) : Calls Tryz.prog 44 #[.pointer (some ⟨g, 0, none⟩), .int .i64 16] w fun e w' => ∃ (v : Value) (xs : List ByteArray), e = .returned v ∧ Own strE 9 w.heap.size w' v xs ∧ xs.length ≤ 16 ∧ (∀ s ∈ xs, LnOk s) ∧ Only g w w' := by
  have := mk_spec (g + 1) w g 0 16 h (Nat.zero_lt_succ _) (by decide)
  refine this.mono ?_
  rintro e w' ⟨v, xs, k', rfl, h1, h2, h3, _, _, h4⟩
  exact ⟨v, xs, rfl, h1, h2, h3, h4⟩
theorem changed5t (g : Nat) (w : World) (A : Option Addr) (f : List ByteArray) (c : Nat) (h : IsSpool (g + 1) w g 0) (hs : Sl strE w A f) (hf : f.length ≤ 21) (hok : ∀ s ∈ f, LnOk s) :
    Calls Tryz.prog 45 #[.pointer (some ⟨g, 0, none⟩), .slice A f.length c, .int .i64 5] w fun e w' => ∃ (v : Value) (xs : List ByteArray), e = .returned v ∧ Own strE 9 w.heap.size w' v xs ∧ xs.length ≤ 21 ∧ (∀ s ∈ xs, LnOk s) ∧ Only g w w' := by
  have := changed_spec (g + 1) w g 0 5 A f c h (by omega) (by omega) hs hf hok
  refine this.mono ?_
  rintro e w' ⟨v, xs, k', rfl, h1, h2, h3, _, _, h4⟩
  exact ⟨v, xs, rfl, h1, h2, h3, h4⟩
set_option maxHeartbeats 8000000 in
theorem lcost_spec (A : Option Addr) (vs : List EdV) (c : Nat) (w : World) (hm : vs.length ≤ 1000) (hs : Sl edE w A vs) (hb1 : ∀ r ∈ vs, r.old.length ≤ 100 ∧ r.new.length ≤ 100) :
    Calls Tryz.prog 52 #[.slice A vs.length c] w fun e w' => e = .returned (iv (File.cost (vs.map EdV.ed) : Nat)) ∧ Below w.heap.size w w' := by
  have HB := Lib.hid hb1
  clear hb1
  go_enter Tryz.func52, Tryz.ntmps52
  go_wp2_with fail
  go_loopw [3, 8] (fun n i wr => ∃ (k m : Nat), k ≤ vs.length ∧ i = iv k ∧ n = iv m ∧ m ≤ 200 * k ∧ Hid (m + File.cost ((vs.map EdV.ed).drop k) = File.cost (vs.map EdV.ed)) ∧ Below w.heap.size w wr) (fun _ i _ => vs.length - (intOf i).toNat)
  case atStart => exact ⟨0, 0, by omega, rfl, rfl, by omega, Lib.hid (by simp), Below.refl _ _⟩
  case round =>
    obtain ⟨k, m, hk, rfl, rfl, hm2, HN, hbr⟩ := hrel
    by_cases hlt : k < vs.length
    · have hki : (k : Int) < (vs.length : Int) := by omega
      obtain ⟨b0, off, x, rfl, hb0, hx, hc0, hc1, hc2⟩ := Sl.atEd (hs.below hbr) hlt
      have hxs := HB.out x (mem_at hx)
      have hn := HN.out
      rw [drop_ed hx] at hn
      have hn : m + (x.old.length + x.new.length + File.cost ((vs.map EdV.ed).drop (k + 1))) = File.cost (vs.map EdV.ed) := hn
      have HN2 : Hid ((m + (x.old.length + x.new.length)) + File.cost ((vs.map EdV.ed).drop (k + 1)) = File.cost (vs.map EdV.ed)) := Lib.hid (by omega)
      have hbM : Below wr.heap.size wr (wr.alloc (.cells #[iv x.at_, .slice x.A x.old.length x.c, .slice x.A' x.new.length x.c'] 53)) := (Below.refl _ _).alloc (Nat.le_refl _) _
      have ew2 : IntKind.i64.wrap ((x.old.length : Int) + (x.new.length : Int)) = (x.old.length : Int) + (x.new.length : Int) := IntWalk.i64_in _ (by omega)
      have ew3 : IntKind.i64.wrap ((m : Int) + ((x.old.length : Int) + (x.new.length : Int))) = (m : Int) + ((x.old.length : Int) + (x.new.length : Int)) := IntWalk.i64_in _ (by omega)
      clear hn HN hx
      go_wp2_with fail
      go_roundw
      case rel => exact ⟨k + 1, m + (x.old.length + x.new.length), by omega, by go_num, by go_num, by omega, HN2, hbr.next hbM (Nat.le_refl _)⟩
      case measure => simp [intOf]; omega
    · have hki : ¬ (k : Int) < (vs.length : Int) := by omega
      have hn := HN.out
      rw [List.drop_eq_nil_of_le (by rw [List.length_map]; omega)] at hn
      have hn : m = File.cost (vs.map EdV.ed) := hn
      have HE := Lib.hid hn
      clear hn HN
      go_wp2_with fail
      go_ret
      exact ⟨ret_eq (by rw [← HE.out]; rfl), hbr⟩
set_option maxHeartbeats 8000000 in
theorem told_law (A : Option Addr) (bs : List Int) (c : Nat) (A' : Option Addr) (bs' : List Int) (c' : Nat) (A'' : Option Addr) (bs'' : List Int) (c'' : Nat) (w : World) (hs : Sl byteE w A bs) (hs' : Sl byteE w A' bs') (hs'' : Sl byteE w A'' bs'') (ht : Tab w) :
    Calls Tryz.prog 6 #[.slice A bs.length c, .slice A' bs'.length c', .slice A'' bs''.length c''] w fun e w' => e = .returned (.bool true) ∧ Below w.heap.size w w' := by
  have HT := Lib.hid ht
  have HAW : Hid (∀ W, Below w.heap.size w W → Calls Tryz.prog 10 #[] W fun e w' => e = .returned (.bool true) ∧ Below W.heap.size W w') := Lib.hid fun W h => awake_spec W (HT.out.below h)
  clear ht
  go_enter Tryz.func6, Tryz.ntmps6
  go_wp2_with fail
  refine (wound_spec A bs c w hs).mono ?_
  rintro e w1 ⟨_, rfl, rfl, hsp1, hb1⟩
  go_wp2_with fail
  refine (mk16 w.heap.size w1 hsp1).mono ?_
  rintro e w2 ⟨v, o, rfl, hoB, hBl, hBg, hon2⟩
  obtain ⟨Ab, cb, rfl, hcb, _⟩ := hoB.form
  have hb02 : Below w.heap.size w w2 := hb1.trans (hon2.below.mono (Nat.le_refl _))
  go_wp2_with fail
  refine (wound_spec A' bs' c' w2 (hs'.below hb02)).mono ?_
  rintro e w3 ⟨_, rfl, rfl, hsp3, hb3⟩
  have hb03 := hb02.next hb3 (Nat.le_refl _)
  have hoB3 := hoB.below hb3
  go_wp2_with fail
  refine (changed5t w2.heap.size w3 Ab o cb hsp3 hoB3.sl (by omega) hBg).mono ?_
  rintro e w4 ⟨v, a, rfl, hoA, hAl, hAg, hon4⟩
  obtain ⟨Aa, ca, rfl, hca, _⟩ := hoA.form
  have hb04 : Below w.heap.size w w4 := hb03.trans (hon4.below.mono hb02.size)
  have hoB4 := hoB3.keep hon4.below.size fun b hb => hon4.other b (hoB3.lt b hb).2 (by have := (hoB.lt b hb).2; omega)
  go_wp2_with fail
  refine (wound_spec A'' bs'' c'' w4 (hs''.below hb04)).mono ?_
  rintro e w5 ⟨_, rfl, rfl, hsp5, hb5⟩
  have hb05 := hb04.next hb5 (Nat.le_refl _)
  have hoB5 := hoB4.below hb5
  have hoA5 := hoA.below hb5
  go_wp2_with fail
  refine (changed5t w4.heap.size w5 Ab o cb hsp5 hoB5.sl (by omega) hBg).mono ?_
  rintro e w6 ⟨v, b, rfl, hoC, hCl, hCg, hon6⟩
  obtain ⟨Ac, c2, rfl, hcc2, _⟩ := hoC.form
  have hb06 : Below w.heap.size w w6 := hb05.trans (hon6.below.mono hb04.size)
  have hoB6 := hoB5.keep hon6.below.size fun b hb => hon6.other b (hoB5.lt b hb).2 (by have := (hoB4.lt b hb).2; omega)
  have hoA6 := hoA5.keep hon6.below.size fun b hb => hon6.other b (hoA5.lt b hb).2 (by have := (hoA.lt b hb).2; omega)
  have gO := goodLt (by omega) hBg
  have gA := goodLt (by omega) hAg
  have gB := goodLt (by omega) hCg
  have HSO := Lib.hid hoB6.sl
  have HSA := Lib.hid hoA6.sl
  have HSB := Lib.hid hoC.sl
  have HTW := Lib.hid fun W (h : Below w6.heap.size w6 W) => HT.out.below (hb06.next h (Nat.le_refl _))
  clear hs hs' hs'' hsp1 hsp3 hsp5 hon2 hon4 hon6 hb1 hb3 hb5 hb02 hb03 hb04 hb05 hoB hoB3 hoB4 hoB5 hoB6 hoA hoA5 hoA6 hoC hBg hAg hCg HT
  have hck : ∀ {x : List ByteArray}, Good x → File.check x = 0 := fun h => check_of_good h
  obtain ⟨rs, hrs⟩ : ∃ rs : List (Rw ByteArray), rs = [⟨Ab, cb, o⟩, ⟨Aa, ca, a⟩, ⟨Ac, c2, b⟩] := ⟨_, rfl⟩
  have HRS : Hid (∀ r ∈ rs, Good r.xs ∧ ∀ W, Below w6.heap.size w6 W → Sl strE W r.A r.xs) := Lib.hid fun r hr => by
    rw [hrs] at hr
    simp only [List.mem_cons, List.not_mem_nil, or_false] at hr
    rcases hr with rfl | rfl | rfl
    · exact ⟨gO, fun W h => HSO.out.below h⟩
    · exact ⟨gA, fun W h => HSA.out.below h⟩
    · exact ⟨gB, fun W h => HSB.out.below h⟩
  have hrl : rs.length = 3 := by rw [hrs]; rfl
  have HRC : Hid (∀ k x, rs[k]? = some x → ∀ W, Below (w6.alloc (.cells #[.slice Ab o.length cb, .slice Aa a.length ca, .slice Ac b.length c2] 22)).heap.size (w6.alloc (.cells #[.slice Ab o.length cb, .slice Aa a.length ca, .slice Ac b.length c2] 22)) W → W.cell? ⟨w6.heap.size, k, none⟩ = some (.slice x.A x.xs.length x.c)) := Lib.hid fun k x hx W h => by
    have hS := (Sl.fresh (rwE ByteArray) w6 22 #[.slice Ab o.length cb, .slice Aa a.length ca, .slice Ac b.length c2] rs (by rw [hrs]; rfl) (by rw [hrl]; simp [maxLen])).below h
    obtain ⟨_, _, y, hA, _, hy, hc⟩ := Sl.atRw hS (k := k) (List.getElem?_eq_some_iff.1 hx).1
    injection hA with hA
    injection hA with e1 e2 _
    subst e1; subst e2
    rw [hx] at hy
    have hy := Option.some.inj hy
    subst hy
    rw [Nat.zero_add] at hc
    exact hc
  have hb67 : Below w6.heap.size w6 (w6.alloc (.cells #[.slice Ab o.length cb, .slice Aa a.length ca, .slice Ac b.length c2] 22)) := (Below.refl _ _).alloc (Nat.le_refl _) _
  go_upto_region 4 with fail
  generalize w6.alloc (.cells #[.slice Ab o.length cb, .slice Aa a.length ca, .slice Ac b.length c2] 22) = w7 at *
  go_loopw [11, 12, 13, 14, 15, 16, 57] (fun _ _ _ _ _ _ i wr => ∃ (k : Nat), k ≤ 3 ∧ i = iv k ∧ Below w7.heap.size w7 wr) (fun _ _ _ _ _ _ i _ => 3 - (intOf i).toNat)
  case atStart => exact ⟨0, by omega, rfl, Below.refl _ _⟩
  case round =>
    obtain ⟨k, hk, rfl, hbr⟩ := hrel
    by_cases hlt : k < 3
    · have hki : (k : Int) < 3 := by omega
      obtain ⟨x, hx⟩ : ∃ x, rs[k]? = some x := ⟨_, List.getElem?_eq_getElem (by omega)⟩
      have hc0 := HRC.out k x hx wr hbr
      obtain ⟨gx, hsx⟩ := HRS.out x (mem_at hx)
      have hb6r := hb67.next hbr (Nat.le_refl _)
      have hPR := print_spec x.A x.xs x.c wr (by have := gx.many; unfold big; omega) (hsx _ hb6r) (HTW.out _ hb6r)
      rw [if_pos (hck gx), hck gx] at hPR
      have HPS := Lib.hid fun W (h : Below wr.heap.size wr W) => parse_spec (File.text x.xs) W (File.text_len gx) (HTW.out W (hb6r.next h (Nat.le_refl _)))
      rw [File.parse_self gx.many (fun s h => ⟨gx.wide s h, gx.ok s h⟩)] at HPS
      have HCK := Lib.hid fun W (h : Below wr.heap.size wr W) => check_spec x.A x.xs x.c W (by have := gx.many; unfold big; omega) (hsx _ (hb6r.next h (Nat.le_refl _)))
      rw [hck gx] at HCK
      have HEQ := Lib.hid fun (A3 : Option Addr) (c3 : Nat) W (h : Below wr.heap.size wr W) (hs : Sl strE W A3 x.xs) => equalS A3 x.xs c3 x.A x.xs x.c W (by have := gx.many; unfold big; omega) hs (by have := gx.many; unfold big; omega) (hsx _ (hb6r.next h (Nat.le_refl _)))
      simp only [decide_true] at HEQ
      clear gx hsx hx
      go_wp2_with fail
      refine hPR.mono ?_
      rintro e w8 ⟨rfl, hb8⟩
      clear hPR
      go_wp2_with fail
      refine (HPS.out w8 hb8).mono ?_
      rintro e w9 ⟨⟨v, rfl, ho9, _⟩, hb9⟩
      obtain ⟨A9, c9, rfl, _, _⟩ := ho9.form
      have hb19 := hb8.next hb9 (Nat.le_refl _)
      go_wp2_with fail
      refine (HCK.out w9 hb19).mono ?_
      rintro e w10 ⟨rfl, hb10⟩
      go_wp2_with fail
      refine (HEQ.out A9 c9 w10 (hb19.next hb10 (Nat.le_refl _)) (ho9.sl.below hb10)).mono ?_
      rintro e w11 ⟨rfl, hb11⟩
      have hbr11 := hbr.next ((hb19.next hb10 (Nat.le_refl _)).next hb11 (Nat.le_refl _)) (Nat.le_refl _)
      clear ho9 HPS HCK HEQ
      go_wp2_with fail
      go_roundw
      case rel => exact ⟨k + 1, by omega, by go_num, hbr11⟩
      case measure => simp [intOf]; omega
    · have hki : ¬ (k : Int) < 3 := by omega
      have hb6r := hb67.next hbr (Nat.le_refl _)
      clear HRS HRC hrs hrl hbr hb67
      generalize wr = w8 at *
      have hbO : o.length ≤ big := by unfold big; omega
      have hbA : a.length ≤ big := by unfold big; omega
      have hbB : b.length ≤ big := by unfold big; omega
      have SO := Lib.hid fun W (h : Below w8.heap.size w8 W) => HSO.out.below (hb6r.next h (Nat.le_refl _))
      have SA := Lib.hid fun W (h : Below w8.heap.size w8 W) => HSA.out.below (hb6r.next h (Nat.le_refl _))
      have SB := Lib.hid fun W (h : Below w8.heap.size w8 W) => HSB.out.below (hb6r.next h (Nat.le_refl _))
      have herr : errOf o a = 0 := by unfold errOf; rw [if_pos (hck gO)]; exact hck gA
      obtain ⟨f1, f2, f3, f4⟩ := File.back_facts gO gA
      have hm1 := File.told_make gO gA
      have hm2 := File.told_back gO gA
      have hcd := File.cost_diff o a
      have hDF := Diff_spec Ab o cb Aa a ca w8 hbO hbA hcb hca (SO.out _ (Below.refl _ _)) (SA.out _ (Below.refl _ _))
      have HCM := Lib.hid fun W (h : Below w8.heap.size w8 W) => Common_spec Ab o cb Aa a ca W hbO hbA (SO.out _ h) (SA.out _ h)
      have HLV := Lib.hid fun W (h : Below w8.heap.size w8 W) => levels_good Ab o cb Aa a ca W gO gA (SO.out _ h) (SA.out _ h)
      have hbl := bound_levs herr gO.many
      have HBD := Lib.hid fun (Bv : Option Addr) (rs : List (Rw Int)) (d : Nat) W (h : Below w8.heap.size w8 W) (h1 : rs.length ≤ d) (h2 : Sl (rwE Int) W Bv rs) (h3 : RowsR intE W rs) (h4 : rs.map Rw.xs = File.levs o a) => Bound_spec Ab o cb Aa a ca Bv rs d W hbO hbA (by have := congrArg List.length h4; rw [List.length_map, File.levs_len] at this; omega) (fun r hr => by
        have : r.xs ∈ File.levs o a := by rw [← h4]; exact List.mem_map_of_mem hr
        obtain ⟨i, _, hi⟩ := List.mem_map.1 this
        rw [← hi, File.rowL_len]; omega) hcb hca h1 (SO.out _ h) (SA.out _ h) h2 h3
      have hpp := File.common_pairs o a
      have hcl : (File.common o a).length ≤ 24 := by rw [File.common_length]; exact Nat.le_trans (File.lcs_most _ _) gO.many
      have hlc := File.common_length o a
      rw [herr] at hDF
      simp only [herr, if_true] at hDF HCM
      obtain ⟨D, hD⟩ : ∃ D, D = File.diff o a := ⟨_, rfl⟩
      have hDl : D.length ≤ 25 := by have := File.diff_len o a; have := gO.many; rw [hD]; omega
      rw [← hD] at hDF f1 f2 f3 f4 hm1 hm2 hcd
      obtain ⟨E, hE⟩ : ∃ E, E = File.back D := ⟨_, rfl⟩
      rw [← hE] at f2 f3 f4 hm2
      have hEl : E.length = D.length := by
        have : ∀ (c : List (File.Edit ByteArray)) (n : Int), (File.backGo n c).length = c.length := by
          intro c
          induction c with
          | nil => intro n; rfl
          | cons x r ih => intro n; simp [File.backGo, ih]
        rw [hE]; exact this D 0
      have chD := File.ch_of f1
      have chE := File.ch_of f2
      obtain ⟨L, hL⟩ : ∃ L, L = File.common o a := ⟨_, rfl⟩
      simp only [← hL] at HCM hpp hcl hcd hlc
      have HPP := Lib.hid hpp
      have HBL := Lib.hid hbl
      have HLC := Lib.hid hlc
      clear hD hE hL hpp hbl hlc
      go_wp2_with fail
      refine hDF.mono ?_
      rintro e w9 ⟨v, ds, rfl, hv, hr, hb9⟩
      obtain ⟨vs, q1, k1, fc1, ln1⟩ := eds_of hr
      have ho1 := own_eds hv fc1 ln1
      obtain ⟨C1, d1, rfl, _, _⟩ := ho1.form
      have hvl : vs.length ≤ 25 := by have := congrArg List.length q1; rw [List.length_map] at this; omega
      have sm1 : ∀ r ∈ vs, r.old.length ≤ 100 ∧ r.new.length ≤ 100 := fun r hr => by
        have hm : r.ed ∈ D := by rw [← q1]; exact List.mem_map_of_mem hr
        have h1 := chD.old _ hm
        have h2 := chD.new _ hm
        unfold EdV.ed at h1 h2
        exact ⟨by simp only at h1; omega, by simp only at h2; omega⟩
      have bg1 : ∀ r ∈ vs, r.old.length ≤ big ∧ r.new.length ≤ big := fun r hr => by have := sm1 r hr; unfold big; omega
      have HK1 := Lib.hid fun W (h : Below w9.heap.size w9 W) => fun r hr => (k1 r hr).below h
      have HS1 := Lib.hid fun W (h : Below w9.heap.size w9 W) => ho1.sl.below h
      clear hDF hv hr fc1 ln1 ho1 k1
      go_wp2_with fail
      refine (HCM.out w9 hb9).mono ?_
      rintro e w10 ⟨v, rfl, ho10, hb10⟩
      obtain ⟨A10, c10, rfl, _, _⟩ := ho10.form
      have hb8x := hb9.next hb10 (Nat.le_refl _)
      have HS10 := Lib.hid fun W (h : Below w10.heap.size w10 W) => ho10.sl.below h
      clear ho10 HCM
      go_wp2_with fail
      refine (HLV.out w10 hb8x).mono ?_
      rintro e w11 ⟨v, lv, rfl, ho11, hr11, hq11, hb11⟩
      obtain ⟨A11, c11, rfl, hc11, _⟩ := ho11.form
      have hb8y := hb8x.next hb11 (Nat.le_refl _)
      have hBD := HBD.out A11 lv c11 w11 hb8y hc11 ho11.sl (fun r hr => ⟨(hr11 r hr).1.sl, (hr11 r hr).2⟩) hq11
      rw [hq11, HBL.out] at hBD
      clear HLV HBD ho11 hr11 HBL hq11
      go_wp2_with fail
      refine hBD.mono ?_
      rintro e w12 ⟨rfl, hb12⟩
      have hb8z := hb8y.next hb12 (Nat.le_refl _)
      have hb912 := (hb10.next hb11 (Nat.le_refl _)).next hb12 (Nat.le_refl _)
      have hMK := make_spec Ab o cb C1 vs d1 w12 hbO hcb (SO.out _ hb8z) (by omega) (HS1.out _ hb912) (HK1.out _ hb912) bg1
      rw [q1, hm1] at hMK
      clear hBD
      go_wp2_with fail
      refine hMK.mono ?_
      rintro e w13 ⟨v, rfl, ho13, hb13⟩
      obtain ⟨A13, c13, rfl, _, _⟩ := ho13.form
      have hb813 := hb8z.next hb13 (Nat.le_refl _)
      have hb913 := hb912.next hb13 (Nat.le_refl _)
      have HS13 := Lib.hid fun W (h : Below w13.heap.size w13 W) => ho13.sl.below h
      have hBK := Back_spec C1 vs d1 w13 (by omega) (HS1.out _ hb913) (HK1.out _ hb913) bg1
      rw [q1, f3] at hBK
      clear hMK ho13
      go_wp2_with fail
      refine hBK.mono ?_
      rintro e w14 ⟨v, rs2, rfl, hv, hr, hb14⟩
      try simp only at hv hr
      obtain ⟨vs2, q2, k2, fc2, ln2⟩ := eds_of hr
      have ho2 := own_eds hv fc2 ln2
      obtain ⟨C2, d2, rfl, _, _⟩ := ho2.form
      have hvl2 : vs2.length ≤ 25 := by have := congrArg List.length q2; rw [List.length_map] at this; omega
      have bg2 : ∀ r ∈ vs2, r.old.length ≤ big ∧ r.new.length ≤ big := fun r hr => by
        have hm : r.ed ∈ E := by rw [← q2]; exact List.mem_map_of_mem hr
        have h1 := chE.old _ hm
        have h2 := chE.new _ hm
        unfold EdV.ed at h1 h2
        unfold big
        exact ⟨by simp only at h1; omega, by simp only at h2; omega⟩
      have hb814 := hb813.next hb14 (Nat.le_refl _)
      have hMK := make_spec Aa a ca C2 vs2 d2 w14 hbA hca (SA.out _ hb814) (by omega) ho2.sl k2 bg2
      rw [q2, hm2] at hMK
      have hb1014 := ((hb11.next hb12 (Nat.le_refl _)).next hb13 (Nat.le_refl _)).next hb14 (Nat.le_refl _)
      have hb914 := hb913.next hb14 (Nat.le_refl _)
      clear hBK hv hr fc2 ln2
      go_wp2_with fail
      refine hMK.mono ?_
      rintro e w15 ⟨v, rfl, ho15, hb15⟩
      obtain ⟨A15, c15, rfl, _, _⟩ := ho15.form
      have HS15 := Lib.hid fun W (h : Below w15.heap.size w15 W) => ho15.sl.below h
      have hb815 := hb814.next hb15 (Nat.le_refl _)
      have hb915 := hb914.next hb15 (Nat.le_refl _)
      have hb1015 := hb1014.next hb15 (Nat.le_refl _)
      have hb1315 := hb14.next hb15 (Nat.le_refl _)
      have hCS := Cost_spec C1 vs d1 w15 (by omega) (HS1.out _ hb915) (HK1.out _ hb915) bg1
      rw [q1, if_pos f1, f1] at hCS
      clear hMK ho15 ho2 k2 f1 f2 f3 f4 hm1 hm2 chD chE
      go_wp2_with fail
      refine hCS.mono ?_
      rintro e w16 ⟨rfl, hb16⟩
      have hb816 := hb815.next hb16 (Nat.le_refl _)
      have hb916 := hb915.next hb16 (Nat.le_refl _)
      have hb1016 := hb1015.next hb16 (Nat.le_refl _)
      have hb1316 := hb1315.next hb16 (Nat.le_refl _)
      have hPP := pairs_spec Ab o cb Aa a ca A10 L c10 w16 hbO hbA (by unfold big; omega) (SO.out _ hb816) (SA.out _ hb816) (HS10.out _ hb1016) HPP.out
      rw [← HLC.out]
      clear hCS
      go_wp2_with fail
      refine hPP.mono ?_
      rintro e w17 ⟨rfl, hb17⟩
      have hb817 := hb816.next hb17 (Nat.le_refl _)
      have hb917 := hb916.next hb17 (Nat.le_refl _)
      have hb1317 := hb1316.next hb17 (Nat.le_refl _)
      have hb1517 := hb16.next hb17 (Nat.le_refl _)
      have hLC := lcost_spec C1 vs d1 w17 (by omega) (HS1.out _ hb917) sm1
      rw [q1] at hLC
      obtain ⟨K, hK⟩ : ∃ K, K = File.cost D := ⟨_, rfl⟩
      rw [← hK] at hLC hcd
      have eK : (K : Int) = (o.length : Int) + (a.length : Int) - 2 * (L.length : Int) := by omega
      have ew1 : IntKind.i64.wrap ((o.length : Int) + (a.length : Int)) = (o.length : Int) + (a.length : Int) := IntWalk.i64_in _ (by omega)
      have ew2 : IntKind.i64.wrap (2 * (L.length : Int)) = 2 * (L.length : Int) := IntWalk.i64_in _ (by omega)
      have ew3 : IntKind.i64.wrap ((o.length : Int) + (a.length : Int) - 2 * (L.length : Int)) = (K : Int) := by rw [eK]; exact IntWalk.i64_in _ (by omega)
      have hne : ((K : Int) != (K : Int)) = false := by simp
      have hneL : ((L.length : Int) != (L.length : Int)) = false := by simp
      rw [← hK]
      clear hPP hK
      go_wp2_with fail
      refine hLC.mono ?_
      rintro e w18 ⟨rfl, hb18⟩
      have hb818 := hb817.next hb18 (Nat.le_refl _)
      have hb1318 := hb1317.next hb18 (Nat.le_refl _)
      have hb1518 := hb1517.next hb18 (Nat.le_refl _)
      have hE1 := equalS A13 a c13 Aa a ca w18 hbA (HS13.out _ hb1318) hbA (SA.out _ hb818)
      simp only [decide_true] at hE1
      clear hLC
      go_wp2_with fail
      refine hE1.mono ?_
      rintro e w19 ⟨rfl, hb19⟩
      have hb819 := hb818.next hb19 (Nat.le_refl _)
      have hb1519 := hb1518.next hb19 (Nat.le_refl _)
      have hE2 := equalS A15 o c15 Ab o cb w19 hbO (HS15.out _ hb1519) hbO (SO.out _ hb819)
      simp only [decide_true] at hE2
      clear hE1
      go_wp2_with fail
      refine hE2.mono ?_
      rintro e w20 ⟨rfl, hb20⟩
      have hb820 := hb819.next hb20 (Nat.le_refl _)
      have hb620 := hb6r.next hb820 (Nat.le_refl _)
      have S2O := Lib.hid fun W (h : Below w20.heap.size w20 W) => SO.out W (hb820.next h (Nat.le_refl _))
      have S2A := Lib.hid fun W (h : Below w20.heap.size w20 W) => SA.out W (hb820.next h (Nat.le_refl _))
      have S2B := Lib.hid fun W (h : Below w20.heap.size w20 W) => SB.out W (hb820.next h (Nat.le_refl _))
      have hAW := Lib.hid fun W (h : Below w20.heap.size w20 W) => HAW.out W ((hb06.next hb620 (Nat.le_refl _)).next h (Nat.le_refl _))
      have hb020 := hb06.next hb620 (Nat.le_refl _)
      clear hE2 SO SA SB HS1 HK1 HS10 HS13 HS15 hb9 hb10 hb11 hb12 hb13 hb14 hb15 hb16 hb17 hb18 hb19 hb20 hb8x hb8y hb8z hb912 hb813 hb913 hb814 hb1014 hb914 hb815 hb915 hb1015 hb1315 hb816 hb916 hb1016 hb1316 hb817 hb917 hb1317 hb1517 hb818 hb1318 hb1518 hb819 hb1519 hb820 bg1 bg2 sm1 q1 q2 hcd eK ew1 ew2 ew3 hne hneL HPP HLC hb6r hvl hvl2 HSO HSA HSB HTW HAW
      obtain ⟨sw, hcase⟩ := File.told_swap o gO gA gB
      obtain ⟨jb1, jb2⟩ := File.told_base gO gA
      have hJ1 := Join_spec Ab o cb Aa a ca Ac b c2 w20 hbO hbA hbB hcb hca hcc2 (S2O.out _ (Below.refl _ _)) (S2A.out _ (Below.refl _ _)) (S2B.out _ (Below.refl _ _))
      have HJ2 := Lib.hid fun W (h : Below w20.heap.size w20 W) => Join_spec Ab o cb Ac b c2 Aa a ca W hbO hbB hbA hcb hcc2 hca (S2O.out _ h) (S2B.out _ h) (S2A.out _ h)
      have HJ3 := Lib.hid fun W (h : Below w20.heap.size w20 W) => Join_spec Ab o cb Aa a ca Ab o cb W hbO hbA hbO hcb hca hcb (S2O.out _ h) (S2A.out _ h) (S2O.out _ h)
      have HJ4 := Lib.hid fun W (h : Below w20.heap.size w20 W) => Join_spec Ab o cb Aa a ca Aa a ca W hbO hbA hbA hcb hca hca (S2O.out _ h) (S2A.out _ h) (S2A.out _ h)
      simp only [← sw] at HJ2
      simp only [jb1] at HJ3
      simp only [jb2] at HJ4
      obtain ⟨J, hJ⟩ : ∃ J, J = File.joinAns o a b := ⟨_, rfl⟩
      have hJl : J.2.1.length ≤ big ∧ J.2.2.length ≤ big := by
        have := File.joinAns_small gO gA gB
        rw [← hJ] at this
        unfold big
        omega
      simp only [← hJ] at hJ1 HJ2 hcase
      obtain ⟨e0, jx, js⟩ := J
      simp only at hJ1 HJ2 hcase hJl
      clear hJ sw jb1 jb2
      go_wp2_with fail
      refine hJ1.mono ?_
      rintro e w21 ⟨v, v', rfl, hox, hop, hb21⟩
      obtain ⟨X1, x1, rfl, _, _⟩ := hox.form
      obtain ⟨P1, p1, rfl, _, _⟩ := hop.form
      go_wp2_with fail
      refine (HJ2.out w21 hb21).mono ?_
      rintro e w22 ⟨v, v', rfl, hoy, hoq, hb22⟩
      obtain ⟨Y1, y1, rfl, _, _⟩ := hoy.form
      obtain ⟨Q1, q1, rfl, _, _⟩ := hoq.form
      have hb2022 := hb21.next hb22 (Nat.le_refl _)
      have hE1 := equalS X1 jx x1 Y1 jx y1 w22 hJl.1 (hox.sl.below hb22) hJl.1 hoy.sl
      have HE2 := Lib.hid fun W (h : Below w22.heap.size w22 W) => equalSp P1 js p1 Q1 js q1 W hJl.2 (hop.sl.below (hb22.next h (Nat.le_refl _))) hJl.2 (hoq.sl.below h)
      simp only [decide_true] at hE1 HE2
      have hee : (e0 != e0) = false := by simp
      clear hJ1 HJ2 hox hop hoy hoq hJl
      go_wp2_with fail
      refine hE1.mono ?_
      rintro e w23 ⟨rfl, hb23⟩
      go_wp2_with fail
      refine (HE2.out w23 hb23).mono ?_
      rintro e w24 ⟨rfl, hb24⟩
      have hb2024 := (hb2022.next hb23 (Nat.le_refl _)).next hb24 (Nat.le_refl _)
      clear hE1 HE2
      rcases hcase with rfl | rfl
      all_goals
        go_wp2_with fail
        refine (HJ3.out w24 hb2024).mono ?_
        rintro e w25 ⟨v, v', rfl, hox, hop, hb25⟩
        try simp only at hox hop
        obtain ⟨X3, x3, rfl, _, _⟩ := hox.form
        obtain ⟨P3, p3, rfl, _, _⟩ := hop.form
        have hb2025 := hb2024.next hb25 (Nat.le_refl _)
        go_wp2_with fail
        refine (HJ4.out w25 hb2025).mono ?_
        rintro e w26 ⟨v, v', rfl, hoy, hoq, hb26⟩
        try simp only at hoy hoq
        obtain ⟨X4, x4, rfl, _, _⟩ := hoy.form
        obtain ⟨P4, p4, rfl, _, _⟩ := hoq.form
        have hb2026 := hb2025.next hb26 (Nat.le_refl _)
        have hE1 := equalS X3 a x3 Aa a ca w26 hbA (hox.sl.below hb26) hbA (S2A.out _ hb2026)
        have HE2 := Lib.hid fun W (h : Below w26.heap.size w26 W) => equalS X4 a x4 Aa a ca W hbA (hoy.sl.below h) hbA (S2A.out _ (hb2026.next h (Nat.le_refl _)))
        simp only [decide_true] at hE1 HE2
        clear hox hop hoy hoq HJ3 HJ4
        go_wp2_with fail
        refine hE1.mono ?_
        rintro e w27 ⟨rfl, hb27⟩
        go_wp2_with fail
        refine (HE2.out w27 hb27).mono ?_
        rintro e w28 ⟨rfl, hb28⟩
        have hb2028 := (hb2026.next hb27 (Nat.le_refl _)).next hb28 (Nat.le_refl _)
        clear hE1 HE2
        go_wp2_with fail
        refine (hAW.out w28 hb2028).mono ?_
        rintro e w29 ⟨rfl, hb29⟩
        have hb029 := (hb020.next hb2028 (Nat.le_refl _)).next hb29 (Nat.le_refl _)
        go_wp2_with fail
        go_ret
        exact ⟨rfl, hb029⟩
end Fl
end Go.Proofs.YtekkhnjepcebkaaGreatDoor
-- FileTold holds. No condition.
namespace Go.Proofs.YtekkhnjepcebkaaGreatDoor.ftold
open Go.ChangeShapes Go.WideShapes Go.ChangeAt Go.RowKit
set_option maxRecDepth 100000

theorem contract (H : Type) (enc : TypeId × Value → H) (W : World) (base : Nat) (args : Array Value) (ds gs : List (DataW H)) (before : List MemPlace)
    (hval : ∀ (j : Nat) t v, Tryz.f6.params[j]? = some t → args[j]? = some v → Value.okWide Tryz.prog W .any base t v)
    (hW : DataW.Whole enc Tryz.prog Tryz.f6.params.toList Rows.fileToldSpec.vars false W args.toList ds gs before) (hL : laidMetH Tryz.prog Rows.fileToldRow.laid W) :
    Calls Tryz.prog 6 args W fun e W' => ∃ v, e = .returned v ∧ Rows.fileToldSpec.post enc Tryz.prog Tryz.f6 false true false false W args v W' := by
  have hW' := hW
  obtain ⟨p, q, hA0, hV, he, hfz, hnd⟩ := hW
  have hA : DataW.TrodAll enc Tryz.prog W 0 (fun _ => true) true Tryz.f6.params.toList args.toList ds p := hA0
  rw [Tryz.params6] at hA hval
  obtain ⟨v0, vs0, d0, ds0, p0, q0, hargs, rfl, rfl, h0, r0⟩ := trodAll_cons hA
  obtain ⟨v1, vs1, d1, ds1, p1, q1, rfl, rfl, rfl, h1, r1⟩ := trodAll_cons r0
  obtain ⟨v2, vs2, d2, ds2, p2, q2, rfl, rfl, rfl, h2, r2⟩ := trodAll_cons r1
  obtain ⟨rfl, rfl, rfl⟩ := trodAll_nil r2
  obtain rfl : args = #[v0, v1, v2] := by cases args; simp_all
  obtain ⟨rfl, rfl⟩ := trodVars_none hV
  obtain ⟨A, bs, c, rfl, hc, hm, hs⟩ := openBytes (hval 0 _ v0 rfl rfl) h0
  obtain ⟨A', bs', c', rfl, hc', hm', hs'⟩ := openBytes (hval 1 _ v1 rfl rfl) h1
  obtain ⟨A'', bs'', c'', rfl, hc'', hm'', hs''⟩ := openBytes (hval 2 _ v2 rfl rfl) h2
  refine (Fl.told_law A bs c A' bs' c' A'' bs'' c'' W hs hs' hs'' (tab_of hL)).mono fun e W' ⟨he', hb⟩ => ?_
  subst he'
  exact ⟨_, rfl, law_post (by rw [Tryz.params6]; decide) rfl rfl Tryz.underlying4 hW' hb rfl rfl rfl⟩
theorem reads (os : Os) {H : Type} (enc : TypeId × Value → H) : ∃ places, DataW.whole enc Tryz.prog ((laidWorld os).forCall (fun _ _ => 0) ⟨#[], #[.slice none 0 0, .slice none 0 0, .slice none 0 0], []⟩).memory Tryz.f6.params.toList Rows.fileToldSpec.vars false #[Value.slice none 0 0, Value.slice none 0 0, Value.slice none 0 0].toList 8 = some ([.nil, .nil, .nil], [], places) :=
  ⟨[], by kernel_rfl⟩
theorem lifted (os : Os) (started : os.Started) (H : Type) (enc : TypeId × Value → H) (F : Stop.Interp) :
    ReturnsInHanded {} Tryz.checked os 6 .any ((OpenSpec.ofChange Rows.fileToldSpec).preRow enc Tryz.prog Tryz.f6 Rows.fileToldRow.domain false Rows.fileToldRow.laid) (((OpenSpec.ofChange Rows.fileToldSpec).at F).post enc Tryz.prog Tryz.f6 false true false false) := by
  obtain ⟨places, hx⟩ := reads os enc
  refine returnsInHanded_of_row (C := Tryz.checked) (s := OpenSpec.ofChange Rows.fileToldSpec) own started (by kernel_rfl) Tryz.func6
    (witness_row_at (enc := enc) (C := Tryz.checked) false (laidWorld os) #[.slice none 0 0, .slice none 0 0, .slice none 0 0] rfl (by kernel_rfl) (by kernel_rfl) (by kernel_rfl)
      (OpenSpec.preRow_of_cond 8 hx (by kernel_rfl) (fun k hk => by cases hk) (by kernel_rfl) (laid_met os _))) ?_
  intro W base args ds gs before hval hW _ _ _ hL _ _
  exact contract H enc W base args ds gs before hval hW hL
theorem said : Rows.FileToldSaid :=
  OpenClaim.holds_of_cond 6 Tryz.f6 rfl rfl rfl rfl rfl rfl rfl ⟨rfl, rfl, rfl, rfl, rfl⟩ rfl rfl rfl rfl rfl (by kernel_rfl) Tryz.func6 (by kernel_rfl)
    (of_decide_eq_true (by kernel_rfl)) (by unfold Func.isWrapper; first | (rw [if_pos (by decide +kernel)]; kernel_rfl) | (rw [if_neg (by decide +kernel)]; exact ⟨rfl, rfl⟩))
    (fun os started H enc _ F => by rw [OpenClaim.pre_eq_preRow]; exact lifted os started H enc F)
theorem plain (f : FuncId) (fn : Func) (hf : Tryz.pinned.checked.prog.funcNamed "petersham/petershamlaw11.FileTold" = some f) (hfn : Tryz.pinned.checked.prog.funcs[f]? = some fn) :
    false = Tryz.pinned.checked.prog.looks [] ∧ ∀ (j : Nat) t, fn.params[j]? = some t → Tryz.pinned.checked.prog.wantsStandIn t = false := by
  obtain rfl : f = 6 := Option.some.inj ((show Tryz.prog.funcNamed "petersham/petershamlaw11.FileTold" = some 6 by kernel_rfl).symm.trans hf) |>.symm
  obtain rfl : fn = Tryz.f6 := (Option.some.inj (Tryz.func6.symm.trans hfn)).symm
  refine ⟨by kernel_rfl, fun j t ht => ?_⟩
  rw [Tryz.params6] at ht
  have ht' := Array.mem_of_getElem? ht
  simp at ht'
  subst ht'
  exact (show Tryz.prog.wantsStandIn 68 = false by kernel_rfl)
/-- THE CARD. -/
theorem card : Rows.FileToldCardSaid :=
  Claim7.holds_tied_plain_at .later [] _ _ _ _ said (fun _ h => by cases h) (by kernel_rfl) (fun _ h => by cases h) fileTold_row_tie rfl ⟨rfl, rfl⟩ (by kernel_rfl) rfl plain (by kernel_rfl)
end Go.Proofs.YtekkhnjepcebkaaGreatDoor.ftold
