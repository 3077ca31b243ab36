/- What the proof of the claim's theorem uses, part 10. The conditions stand in each statement. -/
import Derived.Test.YtblgkmdadholmabGreatDoorSmp9
set_option linter.unusedVariables false
set_option linter.unusedSimpArgs false
set_option maxRecDepth 100000
section
namespace Go.Proofs.YtblgkmdadholmabGreatDoor
namespace Fl
open Go.RowKit Go.Shelf
def longR (r : Rw Int) : Bool := decide (30 < (r.xs.length : Int))
theorem pairs1_spec (r : Rw Int) (w : World) : Calls Tryz.prog 37 #[rwv r] w fun e w' => e = .returned (.bool (longR r)) ∧ w = w' := by
 obtain ⟨A, c, xs⟩ := r;simp only [rwv]
 go_enter Tryz.func37, Tryz.ntmps37
 go_wp2
 go_ret;exact ⟨rfl, rfl⟩
theorem longPredR (w : World) (l : List (Rw Int)) : IsPred Tryz.prog w 37 #[] rwv l longR :=
 ⟨callFunc_run (by kernel_rfl), fun x _ w' _ => (pairs1_spec x w').mono fun _ _ h => ⟨h.1, by rw [← h.2]; exact rB⟩⟩
theorem fieldsRat : ((Tryz.prog).fieldsOf 67).toList.map (fun f => (f.name, f.type, f.offset)) = [("Num", 3, 0), ("Den", 3, 1)] := by kernel_rfl
theorem eqRat (a b c d : Int) (w : World) : (Op.equalIn 10000 67 (.agg #[iv a, iv b]) (.agg #[iv c, iv d])).run Tryz.prog w = .ok (a == c && b == d) w := by
 have hh := run_equalIn_agg (P := Tryz.prog) w 9999 67 #[iv a, iv b] #[iv c, iv d] (by kernel_rfl) (by kernel_rfl);rw [hh];have h3 : ∀ (x y : Int) (d : Nat), (Op.equalIn (d + 1) 3 (iv x) (iv y)).run Tryz.prog w = .ok (x == y) w := fun x y d => run_equalIn_int w d _ _ _ _ _ Tryz.underlying3
 have hf := fieldsRat;have hlen : ((Tryz.prog).fieldsOf 67).toList.length = 2 := by have := congrArg List.length hf; simpa using this
 obtain ⟨f0, f1, hl⟩ := len2 _ hlen;rw [hl] at hf ⊢;simp only [List.map_cons, List.map_nil, List.cons.injEq, Prod.mk.injEq, and_true] at hf;obtain ⟨⟨n0, t0, o0⟩, ⟨n1, t1, o1⟩⟩ := hf;have hp0 : ∀ a b : Int, (part 3 #[iv a, iv b] 0).run Tryz.prog w = .ok (iv a) w := fun _ _ => by kernel_rfl
 have hp1 : ∀ a b : Int, (part 3 #[iv a, iv b] 1).run Tryz.prog w = .ok (iv b) w := fun _ _ => by kernel_rfl
 simp only [Op.eqFields, n0, n1, t0, t1, o0, o1]
 by_cases h1 : a = c <;> by_cases h2 : b = d <;>
  simp [hp0, hp1, h3, Result.andThen, h1, h2, Sem.run_bind]
set_option maxHeartbeats 1000000 in
theorem levels_bad (A : Option Addr) (a : List ByteArray) (c : Nat) (A' : Option Addr) (b : List ByteArray) (c' : Nat) (w : World) (ha : a.length ≤ big) (hb : b.length ≤ big) (hsa : Sl strE w A a) (hsb : Sl strE w A' b) (h : errOf a b ≠ 0) :
  Calls Tryz.prog 8 #[.slice A a.length c, .slice A' b.length c'] w fun e w' => e = .returned (.tuple #[.slice none 0 0, iv (errOf a b)]) ∧ Below w.heap.size w w' := by
 have HB : Hid (Calls Tryz.prog 27 #[.slice A a.length c, .slice A' b.length c'] w fun e w' => e = .returned (iv (errOf a b)) ∧ Below w.heap.size w w') := lH (both_spec A a c A' b c' w ha hb hsa hsb);obtain ⟨r, hr⟩ : ∃ r, r = errOf a b := ⟨_, rfl⟩;rw [← hr] at HB h;rw [← hr];have hne : (r != 0) = true := by simpa using h
 clear hr h
 go_enter Tryz.func8, Tryz.ntmps8
 (go_wp2_with fail);refine HB.out.mono ?_;rintro e w1 ⟨rfl, hb1⟩;(go_wp2_with fail);go_ret2;exact ⟨rfl, hb1⟩
set_option maxHeartbeats 16000000 in
theorem filepairs_law (A : Option Addr) (a : List ByteArray) (c : Nat) (A' : Option Addr) (b : List ByteArray) (c' : Nat) (B : Option Addr) (rs : List (Rw Int)) (d : Nat) (w : World) (hac : a.length ≤ c) (hbc : b.length ≤ c')
  (hsa : Sl strE w A a) (hsb : Sl strE w A' b) (hsr : Sl (rwE Int) w B rs) (hrr : RowsR intE w rs) (ht : Tab w) :
  Calls Tryz.prog 12 #[.slice A a.length c, .slice A' b.length c', .slice B rs.length d] w fun e w' => e = .returned (.bool true) ∧ Below w.heap.size w w' := by
 have HT := lH ht;have HAW : Hid (∀ W, Below w.heap.size w W → Calls Tryz.prog 20 #[] W fun e w' => e = .returned (.bool true) ∧ Below W.heap.size W w') := lH fun W h => awake_spec W (HT.out.below h)
 have HGR := lH (great2row A a c A' b c' w hac hbc hsa hsb);clear ht;obtain ⟨gr, hgr⟩ : ∃ gr, gr = (G.greatF a || G.greatF b) := ⟨_, rfl⟩;rw [← hgr] at HGR
 cases gr
 ·obtain ⟨hga, hgb⟩ := Bool.or_eq_false_iff.1 hgr.symm;obtain ⟨ha30, _⟩ := great_no hga;obtain ⟨hb30, _⟩ := great_no hgb;clear hgr hga hgb
  by_cases hl30 : 30 < rs.length
  ·have hli : (30 : Int) < (rs.length : Int) := (by omega);clear hl30
   go_enter Tryz.func12, Tryz.ntmps12
   (go_wp2_with fail);refine HGR.out.mono ?_;rintro e w1 ⟨rfl, hb1⟩;(go_wp2_with fail);refine (HAW.out _ hb1).mono ?_;rintro _ wz ⟨rfl, hbz⟩;(go_wp2_with fail);go_ret;exact ⟨rfl, (hb1).next hbz nL⟩
  ·have hli : ¬ (30 : Int) < (rs.length : Int) := (by omega);have HCT := lH fun W (h : Below w.heap.size w W) => containsRw B rs d 37 #[] longR W (by unfold big; omega) (hsr.below h) (longPredR W rs)
   obtain ⟨an, han⟩ : ∃ an, an = rs.any longR := ⟨_, rfl⟩;rw [← han] at HCT
   cases an
   ·have hrow : ∀ r ∈ rs, r.xs.length ≤ 30 := fun r hr => by
     have := List.any_eq_false.1 han.symm r hr;simp only [longR, decide_eq_true_eq] at this;omega
    have hba : a.length ≤ big := by unfold big; omega
    have hbb : b.length ≤ big := by unfold big; omega
    have hbr : rs.length ≤ big := by unfold big; omega
    have hbrs : ∀ r ∈ rs, r.xs.length ≤ big := fun r hr => by have := hrow r hr; unfold big; omega
    clear han hl30
    go_enter Tryz.func12, Tryz.ntmps12
    (go_wp2_with fail);refine HGR.out.mono ?_;rintro e w1 ⟨rfl, hb1⟩;(go_wp2_with fail);refine (HCT.out w1 hb1).mono ?_;rintro e w2 ⟨rfl, hb2⟩;have hb02 := hb1.next hb2 nL;clear HGR HCT;(go_wp2_with fail);refine (dupS A a c w2 hba (hsa.below hb02)).mono ?_;rintro e w3 ⟨v, rfl, ho1, hb3⟩;obtain ⟨M1, m1, rfl, hm1, _⟩ := ho1.form;have hb03 := hb02.next hb3 nL;(go_wp2_with fail);refine (dupS A' b c' w3 hbb (hsb.below hb03)).mono ?_;rintro e w4 ⟨v, rfl, ho2, hb4⟩;obtain ⟨M2, m2, rfl, hm2, _⟩ := ho2.form;have hb04 := hb03.next hb4 nL;(go_wp2_with fail);refine (dupRowsI B rs d w4 hbr (hsr.below hb04) (fun r hr => ⟨(hrr r hr).1.below hb04, hbrs r hr⟩)).mono ?_;rintro e w5 ⟨v, ls, rfl, ho3, hls, hr3, hb5⟩;obtain ⟨M3, m3, rfl, hm3, _⟩ := ho3.form;have hb05 := hb04.next hb5 nL;have HS1 := lH fun W (h : Below w5.heap.size w5 W) => ho1.sl.below (hb4.next (hb5.next h nL) nL)
    have HS2 := lH fun W (h : Below w5.heap.size w5 W) => ho2.sl.below (hb5.next h nL)
    have HS3 := lH fun W (h : Below w5.heap.size w5 W) => ho3.sl.below h
    have HR3 : Hid (∀ W, Below w5.heap.size w5 W → RowsR intE W ls) := lH fun W h r hr => ⟨(hr3 r hr).1.sl.below h, (hr3 r hr).2⟩
    have hbl : ls.length ≤ big := by have := congrArg List.length hls; rw [List.length_map, List.length_map] at this; omega
    have hbls : ∀ r ∈ ls, r.xs.length ≤ big := fun r hr => by
     have : r.xs ∈ rs.map Rw.xs := by rw [← hls]; exact List.mem_map_of_mem hr
     obtain ⟨r', hr', he⟩ := List.mem_map.1 this;rw [← he]; exact hbrs r' hr'
    have HSA := lH fun W (h : Below w5.heap.size w5 W) => hsa.below (hb05.next h nL)
    have HSB := lH fun W (h : Below w5.heap.size w5 W) => hsb.below (hb05.next h nL)
    have HSR := lH fun W (h : Below w5.heap.size w5 W) => hsr.below (hb05.next h nL)
    have HRR : Hid (∀ W, Below w5.heap.size w5 W → RowsR intE W rs) := lH fun W h => hrr.below (hb05.next h nL)
    have HEA : Hid (∀ W, Below w5.heap.size w5 W → Calls Tryz.prog 26 #[.slice M1 a.length m1, .slice A a.length c] W fun e w' => e = .returned (.bool true) ∧ Below W.heap.size W w') := lH fun W h => by
     have := equalS M1 a m1 A a c W hba (HS1.out W h) hba (HSA.out W h)
     rwa [decide_eq_true rfl] at this
    have HEB : Hid (∀ W, Below w5.heap.size w5 W → Calls Tryz.prog 26 #[.slice M2 b.length m2, .slice A' b.length c'] W fun e w' => e = .returned (.bool true) ∧ Below W.heap.size W w') := lH fun W h => by
     have := equalS M2 b m2 A' b c' W hbb (HS2.out W h) hbb (HSB.out W h)
     rwa [decide_eq_true rfl] at this
    have HEL : Hid (∀ W, Below w5.heap.size w5 W → Calls Tryz.prog 46 #[.slice M3 ls.length m3, .slice B rs.length d] W fun e w' => e = .returned (.bool true) ∧ Below W.heap.size W w') := lH fun W h => by
     have := eqRowsI M3 ls m3 B rs d W hbl (HS3.out W h) hbr (HSR.out W h) (fun r hr => ⟨(HR3.out W h r hr).1, hbls r hr⟩) (fun r hr => ⟨(HRR.out W h r hr).1, hbrs r hr⟩)
     rwa [decide_eq_true hls] at this
    have HCA := lH fun W (h : Below w5.heap.size w5 W) => rcheck_spec A a c W hba (HSA.out W h)
    have HCB := lH fun W (h : Below w5.heap.size w5 W) => rcheck_spec A' b c' W hbb (HSB.out W h)
    clear hsa hsb hsr hrr ho1 ho2 ho3 hr3 hb1 hb2 hb3 hb4 hb5 hb02 hb03 hb04
    by_cases hca : File.check a = 0
    ·rw [hca] at HCA
     by_cases hcb : File.check b = 0
     ·rw [hcb] at HCB;have herr : errOf a b = 0 := by unfold errOf; rw [if_pos hca]; exact hcb
      have ga := good_of_check hca;have gb := good_of_check hcb;have hc24 := ga.many;have hd24 := gb.many;have hLl : (File.common a b).length ≤ 24 := by rw [File.common_length]; exact Nat.le_trans (File.lcs_most _ _) hc24
      have hlc := File.common_length a b;have HRC := lH fun W (h : Below w5.heap.size w5 W) => rcommon_spec A a c A' b c' W hc24 hd24 hac hbc (HSA.out W h) (HSB.out W h)
      have HRA := lH fun W (h : Below w5.heap.size w5 W) => ralike_spec A a c A' b c' W hc24 hd24 herr (HSA.out W h) (HSB.out W h)
      have HRB := lH fun W (h : Below w5.heap.size w5 W) => rbound_spec A a c A' b c' B rs d W hc24 hd24 hbr hbrs (HSA.out W h) (HSB.out W h) (HSR.out W h) (HRR.out W h)
      have HCM := lH fun W (h : Below w5.heap.size w5 W) => Common_spec M1 a m1 M2 b m2 W hba hbb (HS1.out _ h) (HS2.out _ h)
      have HAL := lH fun W (h : Below w5.heap.size w5 W) => Alike_spec M1 a m1 M2 b m2 W hba hbb (HS1.out _ h) (HS2.out _ h)
      have HBD := lH fun W (h : Below w5.heap.size w5 W) => Bound_spec M1 a m1 M2 b m2 M3 ls m3 W hba hbb hbl hbls hm1 hm2 hm3 (HS1.out _ h) (HS2.out _ h) (HS3.out _ h) (HR3.out _ h)
      have HLV := lH fun W (h : Below w5.heap.size w5 W) => levels_good M1 a m1 M2 b m2 W ga gb (HS1.out _ h) (HS2.out _ h)
      have HRB2 := lH fun W (h : Below w5.heap.size w5 W) (V : Option Addr) (lv : List (Rw Int)) (cv : Nat) (hq : lv.map Rw.xs = File.levs a b) (h1 : Sl (rwE Int) W V lv) (h2 : RowsR intE W lv) => rbound_spec A a c A' b c' V lv cv W hc24 hd24 (by have := congrArg List.length hq; rw [List.length_map, File.levs_len] at this; unfold big; omega) (fun r hr => by
       have : r.xs ∈ File.levs a b := by rw [← hq]; exact List.mem_map_of_mem hr
       obtain ⟨i, _, hi⟩ := List.mem_map.1 this;rw [← hi, File.rowL_len]; unfold big; omega) (HSA.out W h) (HSB.out W h) h1 h2
      have hbl2 := bound_levs herr hc24;simp only [herr, if_true, hls] at HCM HBD;simp only [ref_bound herr] at HRB HRB2;obtain ⟨⟨bx, be⟩, hB⟩ : ∃ z, z = boundOf a b (rs.map Rw.xs) := ⟨_, rfl⟩;simp only [← hB] at HRB HBD;obtain ⟨⟨p, q, e2⟩, hAk⟩ : ∃ z, z = alikeOf a b := ⟨_, rfl⟩;simp only [← hAk] at HRA HAL;have HBL2 := lH hbl2;obtain ⟨L, hL⟩ : ∃ L, L = File.common a b := ⟨_, rfl⟩;simp only [← hL] at HRC HCM hLl hlc;have HLC := lH hlc;have hLb : L.length ≤ big := by unfold big; omega
      have hbe : (be != be) = false := by simp
      have hbxx : (bx != bx) = false := by simp
      have he2 : (e2 != e2) = false := by simp
      have heq1 : ∀ w, (Op.equalIn 10000 67 (.agg #[iv p, iv q]) (.agg #[iv p, iv q])).run Tryz.prog w = .ok true w := fun w => by rw [eqRat]; simp
      clear hB hAk hL hbl2 hlc hca hcb hls herr ga gb;(go_wp2_with fail);refine (HCA.out w5 rB).mono ?_;rintro e w6 ⟨rfl, hb6⟩;(go_wp2_with fail);refine (HCB.out w6 hb6).mono ?_;rintro e w7 ⟨rfl, hb7⟩;have hb57 := hb6.next hb7 nL;clear HCA HCB;have hR8 : Below w7.heap.size w7 (w7.alloc (.cells #[Value.int .i64 0, Value.int .i64 0] 67)) := rB.alloc nL _;have hB8 : Blk (w7.alloc (.cells #[Value.int .i64 0, Value.int .i64 0] 67)) w7.heap.size 67 #[iv 0, iv 0] := Blk.new _ _ _;have hb58 := hb57.next hR8 nL
      go_upto_region 12 with fail
      generalize w7.alloc (.cells #[Value.int .i64 0, Value.int .i64 0] 67) = w8 at *;have hgl := hB8.lt;(go_wp2_with fail);refine (HRC.out w8 hb58).mono ?_;rintro e w9 ⟨v9, rfl, ho9, hb9⟩;obtain ⟨A9, c9, rfl, _, _⟩ := ho9.form;have hb59 := hb58.next hb9 nL;have hb79 := hR8.next hb9 nL;have hB9 := hB8.under hb9;(go_wp2_with fail);refine (HRA.out w9 hb59).mono ?_;rintro e w10 ⟨rfl, hb10⟩;have hB10 := hB9.under hb10;have ho10 := ho9.below hb10;have hb710 := hb79.next hb10 nL;have r0 := hB10.cell 0;have r1 := hB10.cell 1;have f0 := hB10.frozen 0;have f1 := hB10.frozen 1;have hl10 := hB10.lt;have HB11 : Hid (Blk ((w10.setCell ⟨w7.heap.size, 0, none⟩ (iv p)).setCell ⟨w7.heap.size, 1, none⟩ (iv q)) w7.heap.size 67 #[iv p, iv q]) := lH ((hB10.set_ 0 (iv p)).set_ 1 (iv q));have HO11 : Hid (Own pairE 75 w8.heap.size ((w10.setCell ⟨w7.heap.size, 0, none⟩ (iv p)).setCell ⟨w7.heap.size, 1, none⟩ (iv q)) (.slice A9 L.length c9) L) := lH ((ho10.setCell (p := ⟨w7.heap.size, 0, none⟩) hgl _).setCell (p := ⟨w7.heap.size, 1, none⟩) hgl _)
      have hb711 : Below w7.heap.size w7 ((w10.setCell ⟨w7.heap.size, 0, none⟩ (iv p)).setCell ⟨w7.heap.size, 1, none⟩ (iv q)) := (hb710.setCell (p := ⟨w7.heap.size, 0, none⟩) nL _).setCell (p := ⟨w7.heap.size, 1, none⟩) nL _
      go_upto_region 14 with fail
      clear r0 r1 f0 f1 hB8 hB9 hB10 ho9 ho10 hb79 hb710 hb9 hb10 HRC HRA;generalize (w10.setCell ⟨w7.heap.size, 0, none⟩ (iv p)).setCell ⟨w7.heap.size, 1, none⟩ (iv q) = w11 at *;have hb511 := hb57.next hb711 nL;generalize w7.heap.size = g7 at *;generalize w8.heap.size = g8 at *;(go_wp2_with fail);refine (HRB.out w11 hb511).mono ?_;rintro e w12 ⟨rfl, hb12⟩;have hb512 := hb511.next hb12 nL;(go_wp2_with fail);refine (HCM.out w12 hb512).mono ?_;rintro e w13 ⟨v13, rfl, ho13, hb13⟩;obtain ⟨A13, c13, rfl, _, _⟩ := ho13.form;have hb513 := hb512.next hb13 nL;have hb1113 := hb12.next hb13 nL;(go_wp2_with fail);refine (HAL.out w13 hb513).mono ?_;rintro e w14 ⟨rfl, hb14⟩;have hb514 := hb513.next hb14 nL;have hb1114 := hb1113.next hb14 nL;have ho14 := ho13.below hb14;have hbX : Below w14.heap.size w14 (w14.alloc (.cells #[iv p, iv q] 67)) := rB.alloc nL _
      have hX : Blk (w14.alloc (.cells #[iv p, iv q] 67)) w14.heap.size 67 #[iv p, iv q] := Blk.new _ _ _
      go_upto_region 17 with fail
      generalize w14.alloc (.cells #[iv p, iv q] 67) = w15 at *;have hb515 := hb514.next hbX nL;have hb1115 := hb1114.next hbX nL;have ho15 := ho14.below hbX;generalize w14.heap.size = g14 at *;clear HRB HCM HAL ho13 ho14 hb511 hb512 hb513 hb514 hb1113 hb1114 hb12 hb13 hb14 hbX;(go_wp2_with fail);refine (HBD.out w15 hb515).mono ?_;rintro e w16 ⟨rfl, hb16⟩;have hb516 := hb515.next hb16 nL;(go_wp2_with fail);refine (HLV.out w16 hb516).mono ?_;rintro e w17 ⟨v17, lv, rfl, ho17, hr17, hq17, hb17⟩;obtain ⟨A17, c17, rfl, hc17, _⟩ := ho17.form;have hb517 := hb516.next hb17 nL;have hb1517 := hb16.next hb17 nL;have hb1117 := hb1115.next hb1517 nL;have hP1 := eqAr A13 L c13 A9 L c9 w17 hLb (ho15.below hb1517).sl hLb (HO11.out.below hb1117).sl;rw [decide_eq_true rfl] at hP1;have HP2 := lH fun W (h : Below w17.heap.size w17 W) => HEA.out W (hb517.next h nL)
      have HP3 := lH fun W (h : Below w17.heap.size w17 W) => HEB.out W (hb517.next h nL)
      have HP4 := lH fun W (h : Below w17.heap.size w17 W) => HEL.out W (hb517.next h nL)
      have HD := lH (HB11.out.under hb1117);have HY := lH (hX.under hb1517);have HP5 := lH fun W (h : Below w17.heap.size w17 W) => HRB2.out W (hb517.next h nL) A17 lv c17 hq17 (ho17.sl.below h) (fun r hr => ⟨(hr17 r hr).1.sl.below h, (hr17 r hr).2⟩)
      simp only [hq17, HBL2.out] at HP5;clear HBD HLV HRB2 ho15 HO11 HB11 hX ho17 hr17 hq17 hb515 hb516 hb1115 hb1517 hb1117 hb16 hb17;(go_wp2_with fail);refine hP1.mono ?_;rintro e w18 ⟨rfl, hb18⟩;have d0 := (HD.out.under hb18).cell 0;have d1 := (HD.out.under hb18).cell 1;have y0 := (HY.out.under hb18).cell 0;have y1 := (HY.out.under hb18).cell 1;have hdl := (HD.out.under hb18).lt;have hyl := (HY.out.under hb18).lt;(go_wp2_with fail);refine (HP2.out w18 hb18).mono ?_;rintro e w19 ⟨rfl, hb19⟩;have hb1719 := hb18.next hb19 nL;clear d0 d1 y0 y1 hdl hyl hP1;(go_wp2_with fail);refine (HP3.out w19 hb1719).mono ?_;rintro e w20 ⟨rfl, hb20⟩;have hb1720 := hb1719.next hb20 nL;(go_wp2_with fail);refine (HP4.out w20 hb1720).mono ?_;rintro e w21 ⟨rfl, hb21⟩;have hb1721 := hb1720.next hb21 nL;(go_wp2_with fail);refine (HP5.out w21 hb1721).mono ?_;rintro e w22 ⟨rfl, hb22⟩
      have hb1722 := hb1721.next hb22 nL;have hb022 := hb05.next (hb517.next hb1722 nL) nL;have hll : ((L.length : Int) == (L.length : Int)) = true := by simp
      rw [← HLC.out];(go_wp2_with fail);refine (HAW.out _ hb022).mono ?_;rintro _ wz ⟨rfl, hbz⟩;(go_wp2_with fail);go_ret;exact ⟨rfl, (hb022).next hbz nL⟩
     ·have hE0 : errOf a b ≠ 0 := by unfold errOf; rw [if_pos hca]; exact hcb
      have heE : errOf a b = File.check b := by unfold errOf; rw [if_pos hca]
      rw [← heE] at HCB;(go_wp2_with fail);refine (HCA.out w5 rB).mono ?_;rintro e w6 ⟨rfl, hb6⟩;(go_wp2_with fail);refine (HCB.out w6 hb6).mono ?_;rintro e w7 ⟨rfl, hb7⟩;clear HCA HCB hca hcb heE;have hb57 := hb6.next hb7 nL;have hR8 : Below (w7).heap.size w7 ((w7).alloc (.cells #[Value.int .i64 0, Value.int .i64 0] 67)) := rB.alloc nL _;have hB8 : Blk ((w7).alloc (.cells #[Value.int .i64 0, Value.int .i64 0] 67)) (w7).heap.size 67 #[iv 0, iv 0] := Blk.new _ _ _;have hb58 := hb57.next hR8 nL;have HCM := Common_spec M1 a m1 M2 b m2 ((w7).alloc (.cells #[Value.int .i64 0, Value.int .i64 0] 67)) hba hbb (HS1.out _ hb58) (HS2.out _ hb58);rw [if_neg hE0] at HCM;have HAL := lH fun W (h : Below w5.heap.size w5 W) => Alike_spec M1 a m1 M2 b m2 W hba hbb (HS1.out _ h) (HS2.out _ h)
      have HBD := lH fun W (h : Below w5.heap.size w5 W) => Bound_spec M1 a m1 M2 b m2 M3 ls m3 W hba hbb hbl hbls hm1 hm2 hm3 (HS1.out _ h) (HS2.out _ h) (HS3.out _ h) (HR3.out _ h)
      have HLV := lH fun W (h : Below w5.heap.size w5 W) => levels_bad M1 a m1 M2 b m2 W hba hbb (HS1.out _ h) (HS2.out _ h) hE0
      have hal : alikeOf a b = (0, 0, errOf a b) := by unfold alikeOf; rw [if_neg hE0]
      have hbo : boundOf a b (ls.map Rw.xs) = (0, errOf a b) := by unfold boundOf; rw [if_neg hE0]
      simp only [hal] at HAL;simp only [hbo] at HBD;obtain ⟨E, hE⟩ : ∃ E, E = errOf a b := ⟨_, rfl⟩;rw [← hE] at HCM hE0;simp only [← hE] at HAL HBD HLV;have hEq : (E != E) = false := by simp
      have hEn : (E != 0) = true := by simpa using hE0
      have hEz : (E == 0) = false := by simpa using hE0
      rw [← hE]; clear hE hal hbo; go_upto_region 15 with fail;generalize (w7).alloc (.cells #[Value.int .i64 0, Value.int .i64 0] 67) = w8 at *;(go_wp2_with fail);refine HCM.mono ?_;rintro e w9 ⟨v9, rfl, ho9, hb9⟩;obtain ⟨A9, c9, rfl, _, _⟩ := ho9.form;have hb59 := hb58.next hb9 nL;have hB9 := hB8.under hb9;(go_wp2_with fail);refine (HAL.out w9 hb59).mono ?_;rintro e w10 ⟨rfl, hb10⟩;have hb510 := hb59.next hb10 nL;have hB10 := hB9.under hb10;have ho10 := ho9.below hb10;have hbX : Below w10.heap.size w10 (w10.alloc (.cells #[iv 0, iv 0] 67)) := rB.alloc nL _;have hX : Blk (w10.alloc (.cells #[iv 0, iv 0] 67)) w10.heap.size 67 #[iv 0, iv 0] := Blk.new _ _ _
      go_upto_region 17 with fail
      generalize w10.alloc (.cells #[iv 0, iv 0] 67) = w11 at *;have hb511 := hb510.next hbX nL;have hB11 := hB10.under hbX;have ho11 := ho10.below hbX;(go_wp2_with fail);refine (HBD.out w11 hb511).mono ?_;rintro e w12 ⟨rfl, hb12⟩;have hb512 := hb511.next hb12 nL;(go_wp2_with fail);refine (HLV.out w12 hb512).mono ?_;rintro e w13 ⟨rfl, hb13⟩;have hb513 := hb512.next hb13 nL;have hb1113 := hb12.next hb13 nL;have hP1 := eqAr A9 [] c9 none [] 0 w13 (by simp [big]) (ho11.below hb1113).sl (by simp [big]) Sl.nil;have hP2 := lH fun W (h : Below w13.heap.size w13 W) => HEA.out W (hb513.next h nL)
      have hP3 := lH fun W (h : Below w13.heap.size w13 W) => HEB.out W (hb513.next h nL)
      have hP4 := lH fun W (h : Below w13.heap.size w13 W) => HEL.out W (hb513.next h nL)
      have hD := hB11.under hb1113;have hY := hX.under hb1113;simp only [decide_true, List.length_nil] at hP1;(go_wp2_with fail);refine hP1.mono ?_;rintro e w14 ⟨rfl, hb14⟩;have hD4 := hD.under hb14;have hY4 := hY.under hb14;have d0 := hD4.cell 0;have d1 := hD4.cell 1;have y0 := hY4.cell 0;have y1 := hY4.cell 1;have hdl := hD4.lt;have hyl := hY4.lt;have heq1 : ∀ w, (Op.equalIn 10000 67 (.agg #[iv 0, iv 0]) (.agg #[iv 0, iv 0])).run Tryz.prog w = .ok true w := fun w => by rw [eqRat]; rfl
      (go_wp2_with fail);refine (hP2.out w14 hb14).mono ?_;rintro e w15 ⟨rfl, hb15⟩;have hb1315 := hb14.next hb15 nL;clear d0 d1 y0 y1;(go_wp2_with fail);refine (hP3.out w15 hb1315).mono ?_;rintro e w16 ⟨rfl, hb16⟩;have hb1316 := hb1315.next hb16 nL;(go_wp2_with fail);refine (hP4.out w16 hb1316).mono ?_;rintro e w17 ⟨rfl, hb17⟩;have hb517 := hb513.next (hb1316.next hb17 nL) nL;have hb017 := hb05.next hb517 nL;(go_wp2_with fail);refine (HAW.out _ hb017).mono ?_;rintro _ wz ⟨rfl, hbz⟩;(go_wp2_with fail);go_ret;exact ⟨rfl, (hb017).next hbz nL⟩
    ·have hE0 : errOf a b ≠ 0 := by unfold errOf; rw [if_neg hca]; exact hca
     have heE : errOf a b = File.check a := by unfold errOf; rw [if_neg hca]
     rw [← heE] at HCA;(go_wp2_with fail);refine (HCA.out w5 rB).mono ?_;rintro e w7 ⟨rfl, hb7⟩;clear HCA HCB hca heE;have hb57 := hb7;have hR8 : Below (w7).heap.size w7 ((w7).alloc (.cells #[Value.int .i64 0, Value.int .i64 0] 67)) := rB.alloc nL _;have hB8 : Blk ((w7).alloc (.cells #[Value.int .i64 0, Value.int .i64 0] 67)) (w7).heap.size 67 #[iv 0, iv 0] := Blk.new _ _ _;have hb58 := hb57.next hR8 nL;have HCM := Common_spec M1 a m1 M2 b m2 ((w7).alloc (.cells #[Value.int .i64 0, Value.int .i64 0] 67)) hba hbb (HS1.out _ hb58) (HS2.out _ hb58);rw [if_neg hE0] at HCM;have HAL := lH fun W (h : Below w5.heap.size w5 W) => Alike_spec M1 a m1 M2 b m2 W hba hbb (HS1.out _ h) (HS2.out _ h)
     have HBD := lH fun W (h : Below w5.heap.size w5 W) => Bound_spec M1 a m1 M2 b m2 M3 ls m3 W hba hbb hbl hbls hm1 hm2 hm3 (HS1.out _ h) (HS2.out _ h) (HS3.out _ h) (HR3.out _ h)
     have HLV := lH fun W (h : Below w5.heap.size w5 W) => levels_bad M1 a m1 M2 b m2 W hba hbb (HS1.out _ h) (HS2.out _ h) hE0
     have hal : alikeOf a b = (0, 0, errOf a b) := by unfold alikeOf; rw [if_neg hE0]
     have hbo : boundOf a b (ls.map Rw.xs) = (0, errOf a b) := by unfold boundOf; rw [if_neg hE0]
     simp only [hal] at HAL;simp only [hbo] at HBD;obtain ⟨E, hE⟩ : ∃ E, E = errOf a b := ⟨_, rfl⟩;rw [← hE] at HCM hE0;simp only [← hE] at HAL HBD HLV;have hEq : (E != E) = false := by simp
     have hEn : (E != 0) = true := by simpa using hE0
     have hEz : (E == 0) = false := by simpa using hE0
     rw [← hE]; clear hE hal hbo; go_upto_region 15 with fail;generalize (w7).alloc (.cells #[Value.int .i64 0, Value.int .i64 0] 67) = w8 at *;(go_wp2_with fail);refine HCM.mono ?_;rintro e w9 ⟨v9, rfl, ho9, hb9⟩;obtain ⟨A9, c9, rfl, _, _⟩ := ho9.form;have hb59 := hb58.next hb9 nL;have hB9 := hB8.under hb9;(go_wp2_with fail);refine (HAL.out w9 hb59).mono ?_;rintro e w10 ⟨rfl, hb10⟩;have hb510 := hb59.next hb10 nL;have hB10 := hB9.under hb10;have ho10 := ho9.below hb10;have hbX : Below w10.heap.size w10 (w10.alloc (.cells #[iv 0, iv 0] 67)) := rB.alloc nL _;have hX : Blk (w10.alloc (.cells #[iv 0, iv 0] 67)) w10.heap.size 67 #[iv 0, iv 0] := Blk.new _ _ _
     go_upto_region 17 with fail
     generalize w10.alloc (.cells #[iv 0, iv 0] 67) = w11 at *;have hb511 := hb510.next hbX nL;have hB11 := hB10.under hbX;have ho11 := ho10.below hbX;(go_wp2_with fail);refine (HBD.out w11 hb511).mono ?_;rintro e w12 ⟨rfl, hb12⟩;have hb512 := hb511.next hb12 nL;(go_wp2_with fail);refine (HLV.out w12 hb512).mono ?_;rintro e w13 ⟨rfl, hb13⟩;have hb513 := hb512.next hb13 nL;have hb1113 := hb12.next hb13 nL;have hP1 := eqAr A9 [] c9 none [] 0 w13 (by simp [big]) (ho11.below hb1113).sl (by simp [big]) Sl.nil;have hP2 := lH fun W (h : Below w13.heap.size w13 W) => HEA.out W (hb513.next h nL)
     have hP3 := lH fun W (h : Below w13.heap.size w13 W) => HEB.out W (hb513.next h nL)
     have hP4 := lH fun W (h : Below w13.heap.size w13 W) => HEL.out W (hb513.next h nL)
     have hD := hB11.under hb1113;have hY := hX.under hb1113;simp only [decide_true, List.length_nil] at hP1;(go_wp2_with fail);refine hP1.mono ?_;rintro e w14 ⟨rfl, hb14⟩;have hD4 := hD.under hb14;have hY4 := hY.under hb14;have d0 := hD4.cell 0;have d1 := hD4.cell 1;have y0 := hY4.cell 0;have y1 := hY4.cell 1;have hdl := hD4.lt;have hyl := hY4.lt;have heq1 : ∀ w, (Op.equalIn 10000 67 (.agg #[iv 0, iv 0]) (.agg #[iv 0, iv 0])).run Tryz.prog w = .ok true w := fun w => by rw [eqRat]; rfl
     (go_wp2_with fail);refine (hP2.out w14 hb14).mono ?_;rintro e w15 ⟨rfl, hb15⟩;have hb1315 := hb14.next hb15 nL;clear d0 d1 y0 y1;(go_wp2_with fail);refine (hP3.out w15 hb1315).mono ?_;rintro e w16 ⟨rfl, hb16⟩;have hb1316 := hb1315.next hb16 nL;(go_wp2_with fail);refine (hP4.out w16 hb1316).mono ?_;rintro e w17 ⟨rfl, hb17⟩;have hb517 := hb513.next (hb1316.next hb17 nL) nL;have hb017 := hb05.next hb517 nL;(go_wp2_with fail);refine (HAW.out _ hb017).mono ?_;rintro _ wz ⟨rfl, hbz⟩;(go_wp2_with fail);go_ret;exact ⟨rfl, (hb017).next hbz nL⟩
   ·clear han
    go_enter Tryz.func12, Tryz.ntmps12
    (go_wp2_with fail);refine HGR.out.mono ?_;rintro e w1 ⟨rfl, hb1⟩;(go_wp2_with fail);refine (HCT.out w1 hb1).mono ?_;rintro e w2 ⟨rfl, hb2⟩;have hb02 := hb1.next hb2 nL;(go_wp2_with fail);refine (HAW.out _ hb02).mono ?_;rintro _ wz ⟨rfl, hbz⟩;(go_wp2_with fail);go_ret;exact ⟨rfl, (hb02).next hbz nL⟩
 ·clear hgr
  go_enter Tryz.func12, Tryz.ntmps12
  (go_wp2_with fail);refine HGR.out.mono ?_;rintro e w1 ⟨rfl, hb1⟩;(go_wp2_with fail);refine (HAW.out _ hb1).mono ?_;rintro _ wz ⟨rfl, hbz⟩;(go_wp2_with fail);go_ret;exact ⟨rfl, (hb1).next hbz nL⟩
end Fl
end Go.Proofs.YtblgkmdadholmabGreatDoor
namespace Go.Proofs.YtblgkmdadholmabGreatDoor.fpairs
open Go.ChangeShapes Go.WideShapes Go.ChangeAt Go.RowKit
theorem plain (f : FuncId) (fn : Func) (hf : Tryz.pinned.checked.prog.funcNamed "petersham/petershamlaw11.FilePairs" = some f) (hfn : Tryz.pinned.checked.prog.funcs[f]? = some fn) :
  false = Tryz.pinned.checked.prog.looks [] ∧ ∀ (j : Nat) t, fn.params[j]? = some t → Tryz.pinned.checked.prog.wantsStandIn t = false := by
 obtain rfl : f = 12 := Option.some.inj ((show Tryz.prog.funcNamed "petersham/petershamlaw11.FilePairs" = some 12 by kernel_rfl).symm.trans hf) |>.symm
 obtain rfl : fn = Tryz.f12 := (Option.some.inj (Tryz.func12.symm.trans hfn)).symm;refine ⟨by kernel_rfl, fun j t ht => ?_⟩;rw [Tryz.params12] at ht;have ht' := Array.mem_of_getElem? ht;simp at ht'
 rcases ht' with rfl | rfl
 ·exact (show Tryz.prog.wantsStandIn 23 = false by kernel_rfl)
 ·exact (show Tryz.prog.wantsStandIn 27 = false by kernel_rfl)
end Go.Proofs.YtblgkmdadholmabGreatDoor.fpairs
end
namespace Go.Proofs.YtblgkmdadholmabGreatDoor
section
namespace File
set_option linter.unusedSectionVars false
section
variable {α : Type} [DecidableEq α]
def firstCopy : List (Edit α) → List (Edit α) → Bool
 | [], _ => true
 | _ :: _, [] => false
 | x :: _, y :: _ => decide (y.at_ < x.at_)
def Firsts : List (Bool × Edit α) → Prop
 | [] => True
 | p :: r => p.1 = firstCopy (filt false (p :: r)) (filt true (p :: r)) ∧ Firsts r
theorem merge_firsts : ∀ (n : Nat) (c d : List (Edit α)), c.length + d.length ≤ n → Firsts (mergeGo n c d)
 | 0, _, _, _ => trivial
 | n + 1, [], [], _ => trivial
 | n + 1, [], y :: d, h => by
  obtain ⟨h1, h2⟩ := merge_filt (n + 1) [] (y :: d) h;refine ⟨?_, merge_firsts n [] d (by simp at h ⊢; omega)⟩
  show true = firstCopy (filt false (mergeGo (n + 1) [] (y :: d))) (filt true (mergeGo (n + 1) [] (y :: d)))
  rw [h1, h2]; rfl
 | n + 1, x :: c, [], h => by
  obtain ⟨h1, h2⟩ := merge_filt (n + 1) (x :: c) [] h;refine ⟨?_, merge_firsts n c [] (by simp at h ⊢; omega)⟩
  show false = firstCopy (filt false (mergeGo (n + 1) (x :: c) [])) (filt true (mergeGo (n + 1) (x :: c) []))
  rw [h1, h2]; rfl
 | n + 1, x :: c, y :: d, h => by
  obtain ⟨h1, h2⟩ := merge_filt (n + 1) (x :: c) (y :: d) h
  by_cases hlt : y.at_ < x.at_
  ·have e : mergeGo (n + 1) (x :: c) (y :: d) = (true, y) :: mergeGo n (x :: c) d := by
    show (if y.at_ < x.at_ then _ else _) = _
    rw [if_pos hlt]
   rw [e] at h1 h2 ⊢;refine ⟨?_, merge_firsts n (x :: c) d (by simp at h ⊢; omega)⟩;rw [h1, h2];exact (decide_eq_true hlt).symm
  ·have e : mergeGo (n + 1) (x :: c) (y :: d) = (false, x) :: mergeGo n c (y :: d) := by
    show (if y.at_ < x.at_ then _ else _) = _
    rw [if_neg hlt]
   rw [e] at h1 h2 ⊢;refine ⟨?_, merge_firsts n c (y :: d) (by simp at h ⊢; omega)⟩;rw [h1, h2];exact (decide_eq_false hlt).symm
def meet (x y : Edit α) : Bool := decide (x.at_ ≤ y.at_ + y.old.length) && decide (y.at_ ≤ x.at_ + x.old.length)
inductive Conn (f : Bool) : Block α → Prop
 | new (x : Edit α) : 0 ≤ x.at_ → Conn f (Block.new f x)
 | add (b : Block α) (k : Bool) (x : Edit α) : Conn f b → 0 ≤ x.at_ → x.lo ≤ b.hi → (∀ y, y ∈ b.e0 ∨ y ∈ b.e1 → y.lo ≤ x.lo) → (∀ y, y ∈ (if k then b.e1 else b.e0) → y.hi < x.lo) → Conn f (b.add k x)
theorem Conn.first {f : Bool} {b : Block α} (h : Conn f b) : (if f then b.e1 else b.e0) ≠ [] := by
 induction h with
 | new x _ => cases f <;> simp [Block.new]
 | add b k x _ _ _ _ _ ih => cases f <;> cases k <;> simp_all [Block.add]
theorem Conn.pos {f : Bool} {b : Block α} (h : Conn f b) : ∀ y, y ∈ b.e0 ∨ y ∈ b.e1 → 0 ≤ y.at_ ∧ b.lo ≤ y.lo ∧ y.hi ≤ b.hi := by
 induction h with
 | new x h0 =>
  intro y hy;have : y = x := by cases f <;> simpa [Block.new] using hy
  subst this;exact ⟨h0, Nat.le_refl _, Nat.le_refl _⟩
 | add b k x hc h0 _ hl _ ih =>
  intro y hy
  have : (y ∈ b.e0 ∨ y ∈ b.e1) ∨ y = x := by
   cases k <;> simp only [Block.add, Bool.false_eq_true, if_false, if_true, List.mem_append, List.mem_singleton] at hy
   ·rcases hy with (h | h) | h
    ·exact .inl (.inl h)
    ·exact .inr h
    ·exact .inl (.inr h)
   ·rcases hy with h | (h | h)
    ·exact .inl (.inl h)
    ·exact .inl (.inr h)
    ·exact .inr h
  rcases this with h | rfl
  ·obtain ⟨a1, a2, a3⟩ := ih y h;exact ⟨a1, a2, Nat.le_trans a3 (Nat.le_max_left _ _)⟩
  ·refine ⟨h0, ?_, Nat.le_max_right _ _⟩;have hf := hc.first
   obtain ⟨z, hz⟩ : ∃ z, z ∈ b.e0 ∨ z ∈ b.e1 := by
    cases f
    ·obtain ⟨z, r, hzr⟩ := List.exists_cons_of_ne_nil hf;exact ⟨z, .inl (by simp only [Bool.false_eq_true, if_false] at hzr; rw [hzr]; simp)⟩
    ·obtain ⟨z, r, hzr⟩ := List.exists_cons_of_ne_nil hf;exact ⟨z, .inr (by simp only [if_true] at hzr; rw [hzr]; simp)⟩
   exact Nat.le_trans (ih z hz).2.1 (hl z hz)
theorem Conn.loAt {f : Bool} {b : Block α} (h : Conn f b) : ∃ y, (y ∈ b.e0 ∨ y ∈ b.e1) ∧ y.lo = b.lo := by
 induction h with
 | new x h0 => exact ⟨x, by cases f <;> simp [Block.new], rfl⟩
 | add b k x _ _ _ _ _ ih =>
  obtain ⟨y, hy, he⟩ := ih;refine ⟨y, ?_, he⟩
  cases k
  ·rcases hy with h | h
   ·exact .inl (List.mem_append_left _ h)
   ·exact .inr h
  ·rcases hy with h | h
   ·exact .inl h
   ·exact .inr (List.mem_append_left _ h)
theorem Conn.hiAt {f : Bool} {b : Block α} (h : Conn f b) : ∃ y, (y ∈ b.e0 ∨ y ∈ b.e1) ∧ y.hi = b.hi := by
 induction h with
 | new x h0 => exact ⟨x, by cases f <;> simp [Block.new], rfl⟩
 | add b k x _ _ _ _ _ ih =>
  obtain ⟨y, hy, he⟩ := ih
  by_cases hm : b.hi ≤ x.hi
  ·refine ⟨x, ?_, (Nat.max_eq_right hm).symm⟩
   cases k
   ·exact .inl (List.mem_append_right _ (by simp))
   ·exact .inr (List.mem_append_right _ (by simp))
  ·refine ⟨y, ?_, he.trans (Nat.max_eq_left (by omega)).symm⟩
   cases k
   ·rcases hy with h | h
    ·exact .inl (List.mem_append_left _ h)
    ·exact .inr h
   ·rcases hy with h | h
    ·exact .inl h
    ·exact .inr (List.mem_append_left _ h)
theorem meet_of {x y : Edit α} (hx : 0 ≤ x.at_) (hy : 0 ≤ y.at_) (h1 : x.lo ≤ y.hi) (h2 : y.lo ≤ x.hi) : meet x y = true := by
 unfold Edit.lo Edit.hi at h1 h2;unfold meet;simp only [Bool.and_eq_true, decide_eq_true_eq];omega
theorem meet_no {x y : Edit α} (hx : 0 ≤ x.at_) (hy : 0 ≤ y.at_) (h : y.hi < x.lo) : meet x y = false := by
 unfold Edit.lo Edit.hi at h;unfold meet;simp only [Bool.and_eq_false_iff, decide_eq_false_iff_not];omega
def Still (e0 e1 : List (Edit α)) (i0 i1 : Nat) : Prop :=
 (∀ x, e0[i0]? = some x → ∀ j y, j < i1 → e1[j]? = some y → meet x y = false) ∧ ∀ x, e1[i1]? = some x → ∀ j y, j < i0 → e0[j]? = some y → meet x y = false
theorem Conn.whole {f : Bool} {b : Block α} (h : Conn f b) : ∀ {i0 i1 : Nat}, i0 ≤ b.e0.length → i1 ≤ b.e1.length → 0 < (if f then i1 else i0) → Still b.e0 b.e1 i0 i1 → i0 = b.e0.length ∧ i1 = b.e1.length := by
 induction h with
 | new x h0 =>
  intro i0 i1 h1 h2 h3 _
  cases f <;> simp [Block.new] at h1 h2 h3 ⊢ <;> omega
 | add b k x hc h0 hl hle hown ih =>
  intro i0 i1 h1 h2 h3 hs;have hfst := hc.first
  cases k
  ·simp only [Block.add, Bool.false_eq_true, if_false, List.length_append, List.length_cons, List.length_nil] at h1 h2 hs ⊢;obtain ⟨s1, s2⟩ := hs
   by_cases hi : i0 = b.e0.length + 1
   ·have hst : Still b.e0 b.e1 b.e0.length i1 := ⟨fun z hz => (by rw [List.getElem?_eq_none nL] at hz; cases hz), fun z hz j y hj hy => s2 z hz j y (by omega) (by rw [List.getElem?_append_left hj]; exact hy)⟩
    have := ih nL h2 (by
     cases f
     ·simp only [Bool.false_eq_true, if_false] at hfst ⊢;exact List.length_pos_iff.2 hfst
     ·exact h3) hst
    exact ⟨hi, this.2⟩
   ·have hst : Still b.e0 b.e1 i0 i1 := ⟨fun z hz j y hj hy => s1 z (by
     rw [List.getElem?_append_left (List.getElem?_eq_some_iff.1 hz).1]; exact hz) j y hj hy, fun z hz j y hj hy => s2 z hz j y hj (by
     rw [List.getElem?_append_left (List.getElem?_eq_some_iff.1 hy).1]; exact hy)⟩
    obtain ⟨e0, e1⟩ := ih (by omega) h2 h3 hst
    exfalso
    obtain ⟨y, hy, hye⟩ := hc.hiAt;have hp := hc.pos y hy
    rcases hy with hy | hy
    ·have := hown y (by simpa using hy);omega
    ·obtain ⟨j, hj⟩ := List.getElem?_of_mem hy;have hjl := (List.getElem?_eq_some_iff.1 hj).1;have := s1 x (by rw [e0]; simp) j y (by omega) hj;rw [meet_of h0 hp.1 (by omega) (Nat.le_trans (hle y (.inr hy)) x.lo_hi)] at this
     cases this
  ·simp only [Block.add, if_true, List.length_append, List.length_cons, List.length_nil] at h1 h2 hs ⊢;obtain ⟨s1, s2⟩ := hs
   by_cases hi : i1 = b.e1.length + 1
   ·have hst : Still b.e0 b.e1 i0 b.e1.length := ⟨fun z hz j y hj hy => s1 z hz j y (by omega) (by rw [List.getElem?_append_left hj]; exact hy), fun z hz => by rw [List.getElem?_eq_none nL] at hz; cases hz⟩
    have := ih h1 nL (by
     cases f
     ·exact h3
     ·simp only [if_true] at hfst ⊢;exact List.length_pos_iff.2 hfst) hst
    exact ⟨this.1, hi⟩
   ·have hst : Still b.e0 b.e1 i0 i1 := ⟨fun z hz j y hj hy => s1 z hz j y hj (by
     rw [List.getElem?_append_left (List.getElem?_eq_some_iff.1 hy).1]; exact hy), fun z hz j y hj hy => s2 z (by
     rw [List.getElem?_append_left (List.getElem?_eq_some_iff.1 hz).1]; exact hz) j y hj hy⟩
    obtain ⟨e0, e1⟩ := ih h1 (by omega) h3 hst
    exfalso
    obtain ⟨y, hy, hye⟩ := hc.hiAt;have hp := hc.pos y hy
    rcases hy with hy | hy
    ·obtain ⟨j, hj⟩ := List.getElem?_of_mem hy;have hjl := (List.getElem?_eq_some_iff.1 hj).1;have := s2 x (by rw [e1]; simp) j y (by omega) hj;rw [meet_of h0 hp.1 (by omega) (Nat.le_trans (hle y (.inl hy)) x.lo_hi)] at this
     cases this
    ·have := hown y (by simpa using hy);omega
def Steps : List (Edit α) → List (Edit α) → List (Block α) → Prop
 | c, d, [] => c = [] ∧ d = []
 | c, d, b :: r => ∃ c' d', c = b.e0 ++ c' ∧ d = b.e1 ++ d' ∧ Conn (firstCopy c d) b ∧ (∀ x, x ∈ c' ∨ x ∈ d' → 0 ≤ x.at_ ∧ b.hi < x.lo) ∧ Steps c' d' r
theorem chain_hi : ∀ {c : List (Edit α)} {x : Edit α} {lo : Nat} {r : List (Edit α)}, Chain lo (c ++ x :: r) → ∀ y ∈ c, y.hi < x.lo
 | z :: c, x, lo, r, ⟨h1, h2⟩, y, hy => by
  rcases List.mem_cons.1 hy with rfl | hy
  ·have := (Chain.suf h2).1;unfold Edit.lo;omega
  ·exact chain_hi h2 y hy
theorem grow_steps : ∀ (l : List (Bool × Edit α)) (b : Block α) (f : Bool), Conn f b → f = firstCopy (b.e0 ++ filt false l) (b.e1 ++ filt true l) → Firsts l → Sorted l → (∃ lo, Chain lo (b.e0 ++ filt false l)) → (∃ lo, Chain lo (b.e1 ++ filt true l)) → (∀ p ∈ l, 0 ≤ p.2.at_) → (∀ p ∈ l, ∀ y, y ∈ b.e0 ∨ y ∈ b.e1 → y.lo ≤ p.2.lo) → Steps (b.e0 ++ filt false l) (b.e1 ++ filt true l) (grow b l) := by
 intro l
 induction l with
 | nil =>
  intro b f hc hf _ _ _ _ _ _;exact ⟨[], [], rfl, rfl, hf ▸ hc, fun x h => (by rcases h with h | h <;> cases h), rfl, rfl⟩
 | cons p r ih =>
  intro b f hc hf hF hS h0 h1 hp hle;obtain ⟨k, x⟩ := p;obtain ⟨s1, s2⟩ := List.pairwise_cons.1 hS;have hx0 := hp (k, x) List.mem_cons_self;have hr0 : ∀ p ∈ r, 0 ≤ p.2.at_ := fun p hm => hp p (List.mem_cons_of_mem _ hm)
  simp only [grow]
  split
  ·rename_i hxl
   have hxle := hle (k, x) List.mem_cons_self
   cases k
   ·have hca : Conn f (b.add false x) := .add b false x hc hx0 hxl hxle (fun y hy => by
     obtain ⟨lo, h0⟩ := h0;simp only [filt, if_pos] at h0;exact chain_hi h0 y (by simpa using hy))
    have e0 : b.e0 ++ filt false ((false, x) :: r) = (b.add false x).e0 ++ filt false r := by simp [Block.add, filt]
    have e1 : b.e1 ++ filt true ((false, x) :: r) = (b.add false x).e1 ++ filt true r := by simp [Block.add, filt]
    rw [e0, e1] at hf ⊢;rw [e0] at h0;rw [e1] at h1;refine ih (b.add false x) f hca hf hF.2 s2 h0 h1 hr0 fun p hm y hy => ?_
    have h8 := s1 p hm;have h9 := hle p (List.mem_cons_of_mem _ hm) y;simp only [Block.add, Bool.false_eq_true, if_false, List.mem_append, List.mem_singleton] at hy
    rcases hy with (hy | rfl) | hy
    ·exact h9 (.inl hy)
    ·exact h8
    ·exact h9 (.inr hy)
   ·have hca : Conn f (b.add true x) := .add b true x hc hx0 hxl hxle (fun y hy => by
     obtain ⟨lo, h1⟩ := h1;simp only [filt, if_pos] at h1;exact chain_hi h1 y (by simpa using hy))
    have e0 : b.e0 ++ filt false ((true, x) :: r) = (b.add true x).e0 ++ filt false r := by simp [Block.add, filt]
    have e1 : b.e1 ++ filt true ((true, x) :: r) = (b.add true x).e1 ++ filt true r := by simp [Block.add, filt]
    rw [e0, e1] at hf ⊢;rw [e0] at h0;rw [e1] at h1;refine ih (b.add true x) f hca hf hF.2 s2 h0 h1 hr0 fun p hm y hy => ?_
    have h8 := s1 p hm;have h9 := hle p (List.mem_cons_of_mem _ hm) y;simp only [Block.add, if_true, List.mem_append, List.mem_singleton] at hy
    rcases hy with hy | hy | rfl
    ·exact h9 (.inl hy)
    ·exact h9 (.inr hy)
    ·exact h8
  ·rename_i hxl
   refine ⟨filt false ((k, x) :: r), filt true ((k, x) :: r), rfl, rfl, hf ▸ hc, fun y hy => ?_, ?_⟩
   ·have hm : ∃ q, (q, y) ∈ (k, x) :: r := by
     rcases hy with hy | hy
     ·exact ⟨_, mem_filt hy⟩
     ·exact ⟨_, mem_filt hy⟩
    obtain ⟨q, hm⟩ := hm;refine ⟨hp _ hm, ?_⟩
    rcases List.mem_cons.1 hm with h | h
    ·injection h with _ h;subst h;exact Nat.lt_of_not_le hxl
    ·have := s1 _ h;exact Nat.lt_of_lt_of_le (Nat.lt_of_not_le hxl) this
   ·have e0 : filt false ((k, x) :: r) = (Block.new k x).e0 ++ filt false r := by cases k <;> simp [Block.new, filt]
    have e1 : filt true ((k, x) :: r) = (Block.new k x).e1 ++ filt true r := by cases k <;> simp [Block.new, filt]
    have hk := hF.1
    have c0 : ∃ lo, Chain lo (filt false ((k, x) :: r)) := by
     obtain ⟨lo, h0⟩ := h0;refine ⟨0, chain_other h0 fun y _ => Nat.zero_le _⟩
    have c1 : ∃ lo, Chain lo (filt true ((k, x) :: r)) := by
     obtain ⟨lo, h1⟩ := h1;refine ⟨0, chain_other h1 fun y _ => Nat.zero_le _⟩
    rw [e0] at c0;rw [e1] at c1;rw [e0, e1] at hk ⊢;refine ih (Block.new k x) k (.new x hx0) hk hF.2 s2 c0 c1 hr0 fun p hm y hy => ?_
    have : y = x := by cases k <;> simpa [Block.new] using hy
    subst this;exact s1 p hm
theorem blocks_steps {c d : List (Edit α)} (hc : Chain 0 c) (hd : Chain 0 d) : Steps c d (blocks c d) := by
 obtain ⟨k1, k2⟩ := merge_filt (c.length + d.length) c d nL;have hs := merge_sorted (c.length + d.length) 0 c d nL hc hd;have hf := merge_firsts (c.length + d.length) c d nL
 have hp : ∀ p ∈ mergeGo (c.length + d.length) c d, 0 ≤ p.2.at_ := by
  intro p hp;have hm := filt_mem hp
  cases hb : p.1 with
  | false => rw [hb, k1] at hm; exact_mod_cast hc.pos _ hm
  | true => rw [hb, k2] at hm; exact_mod_cast hd.pos _ hm
 unfold blocks merge;generalize mergeGo (c.length + d.length) c d = l at *;subst k1 k2
 cases l with
 | nil => exact ⟨rfl, rfl⟩
 | cons p r =>
  obtain ⟨k, x⟩ := p;obtain ⟨s1, s2⟩ := List.pairwise_cons.1 hs;have e0 : filt false ((k, x) :: r) = (Block.new k x).e0 ++ filt false r := by cases k <;> simp [Block.new, filt]
  have e1 : filt true ((k, x) :: r) = (Block.new k x).e1 ++ filt true r := by cases k <;> simp [Block.new, filt]
  have hk := hf.1;rw [e0, e1] at hk ⊢;rw [e0] at hc;rw [e1] at hd;refine grow_steps r (Block.new k x) k (.new x (hp _ List.mem_cons_self)) hk hf.2 s2 ⟨0, hc⟩ ⟨0, hd⟩ (fun p hm => hp p (List.mem_cons_of_mem _ hm)) fun p hm y hy => ?_
  have : y = x := by cases k <;> simpa [Block.new] using hy
  subst this;exact s1 p hm
def loOf (n : Nat) (l : List (Edit α)) : Nat := l.foldl (fun m x => min m x.lo) n
def hiOf (n : Nat) (l : List (Edit α)) : Nat := l.foldl (fun m x => max m x.hi) n
theorem loOf_le : ∀ (l : List (Edit α)) (n : Nat), loOf n l ≤ n ∧ (∀ x ∈ l, loOf n l ≤ x.lo) ∧ (loOf n l = n ∨ ∃ x ∈ l, loOf n l = x.lo)
 | [], n => ⟨Nat.le_refl _, fun _ h => (by cases h), .inl rfl⟩
 | x :: l, n => by
  obtain ⟨h1, h2, h3⟩ := loOf_le l (min n x.lo);refine ⟨Nat.le_trans h1 (Nat.min_le_left _ _), fun y hy => ?_, ?_⟩
  ·rcases List.mem_cons.1 hy with rfl | hy
   ·exact Nat.le_trans h1 (Nat.min_le_right _ _)
   ·exact h2 y hy
  ·show loOf (min n x.lo) l = n ∨ _
   rcases h3 with h | ⟨y, hy, h⟩
   ·rw [Nat.min_def] at h
    split at h
    ·rename_i hm; exact .inl (by rw [Nat.min_eq_left hm]; rw [Nat.min_eq_left hm] at h1; exact h)
    ·rename_i hm; exact .inr ⟨x, List.mem_cons_self, by show loOf (min n x.lo) l = _; rw [Nat.min_def, if_neg hm]; exact h⟩
   ·exact .inr ⟨y, List.mem_cons_of_mem _ hy, h⟩
theorem hiOf_ge : ∀ (l : List (Edit α)) (n : Nat), n ≤ hiOf n l ∧ (∀ x ∈ l, x.hi ≤ hiOf n l) ∧ (hiOf n l = n ∨ ∃ x ∈ l, hiOf n l = x.hi)
 | [], n => ⟨Nat.le_refl _, fun _ h => (by cases h), .inl rfl⟩
 | x :: l, n => by
  obtain ⟨h1, h2, h3⟩ := hiOf_ge l (max n x.hi);refine ⟨Nat.le_trans (Nat.le_max_left _ _) h1, fun y hy => ?_, ?_⟩
  ·rcases List.mem_cons.1 hy with rfl | hy
   ·exact Nat.le_trans (Nat.le_max_right _ _) h1
   ·exact h2 y hy
  ·show hiOf (max n x.hi) l = n ∨ _
   rcases h3 with h | ⟨y, hy, h⟩
   ·by_cases hm : n ≤ x.hi
    ·exact .inr ⟨x, List.mem_cons_self, by show hiOf (max n x.hi) l = _; rw [h, Nat.max_eq_right hm]⟩
    ·exact .inl (by rw [h, Nat.max_eq_left (by omega)])
   ·exact .inr ⟨y, List.mem_cons_of_mem _ hy, h⟩
theorem Conn.los {f : Bool} {b : Block α} (h : Conn f b) {n : Nat} (hn : b.lo ≤ n) : loOf (loOf n b.e0) b.e1 = b.lo := by
 obtain ⟨a1, a2, a3⟩ := loOf_le b.e0 n;obtain ⟨b1, b2, b3⟩ := loOf_le b.e1 (loOf n b.e0);obtain ⟨y, hy, he⟩ := h.loAt
 have hle : loOf (loOf n b.e0) b.e1 ≤ b.lo := by
  rcases hy with hy | hy
  ·have := a2 y hy; omega
  ·have := b2 y hy; omega
 have hge : b.lo ≤ loOf (loOf n b.e0) b.e1 := by
  rcases b3 with e | ⟨x, hx, e⟩
  ·rw [e]
   rcases a3 with e | ⟨x, hx, e⟩
   ·omega
   ·rw [e]; exact (h.pos x (.inl hx)).2.1
  ·rw [e]; exact (h.pos x (.inr hx)).2.1
 omega
theorem Conn.his {f : Bool} {b : Block α} (h : Conn f b) : hiOf (hiOf 0 b.e0) b.e1 = b.hi := by
 obtain ⟨a1, a2, a3⟩ := hiOf_ge b.e0 0;obtain ⟨b1, b2, b3⟩ := hiOf_ge b.e1 (hiOf 0 b.e0);obtain ⟨y, hy, he⟩ := h.hiAt
 have hge : b.hi ≤ hiOf (hiOf 0 b.e0) b.e1 := by
  rcases hy with hy | hy
  ·have := a2 y hy; omega
  ·have := b2 y hy; omega
 have hle : hiOf (hiOf 0 b.e0) b.e1 ≤ b.hi := by
  rcases b3 with e | ⟨x, hx, e⟩
  ·rw [e]
   rcases a3 with e | ⟨x, hx, e⟩
   ·omega
   ·rw [e]; exact (h.pos x (.inl hx)).2.2
  ·rw [e]; exact (h.pos x (.inr hx)).2.2
 omega
structure Grows (c d : List (Edit α)) (k0 k1 : Nat) (b : Block α) (i0 i1 : Nat) : Prop where
 lo0 : k0 ≤ i0
 hi0 : i0 ≤ k0 + b.e0.length
 lo1 : k1 ≤ i1
 hi1 : i1 ≤ k1 + b.e1.length
 first : 0 < (if firstCopy (c.drop k0) (d.drop k1) then i1 - k1 else i0 - k0)
theorem Steps.front {c d : List (Edit α)} {b : Block α} {r : List (Block α)} (h : Steps c d (b :: r)) : b.e0 = c.take b.e0.length ∧ b.e1 = d.take b.e1.length ∧ Conn (firstCopy c d) b ∧ Steps (c.drop b.e0.length) (d.drop b.e1.length) r ∧ (∀ x, x ∈ c.drop b.e0.length ∨ x ∈ d.drop b.e1.length → 0 ≤ x.at_ ∧ b.hi < x.lo) := by
 obtain ⟨c', d', rfl, rfl, hc, hx, hs⟩ := h;refine ⟨by simp, by simp, hc, by simpa using hs, by simpa using hx⟩
theorem Grows.in0 {c d : List (Edit α)} {k0 k1 i0 i1 : Nat} {b : Block α} {r : List (Block α)} (hs : Steps (c.drop k0) (d.drop k1) (b :: r)) (h : Grows c d k0 k1 b i0 i1) {x y : Edit α} {j : Nat} (hx : c[i0]? = some x) (hj : k1 ≤ j) (hj1 : j < i1) (hy : d[j]? = some y) (hm : meet x y = true) : Grows c d k0 k1 b (i0 + 1) i1 := by
 obtain ⟨f0, f1, hc, _, hout⟩ := hs.front;refine ⟨by have := h.lo0; omega, ?_, h.lo1, h.hi1, ?_⟩
 ·apply Classical.byContradiction;intro hgt;have he : i0 = k0 + b.e0.length := by have := h.hi0; omega
  have hxm : x ∈ (c.drop k0).drop b.e0.length := by
   rw [List.drop_drop, ← he];exact List.mem_of_getElem? (i := 0) (by rw [List.getElem?_drop]; exact hx)
  have hym : y ∈ b.e1 := by
   rw [f1];refine List.mem_of_getElem? (i := j - k1) ?_;rw [List.getElem?_take, if_pos (by have := h.hi1; omega), List.getElem?_drop, show k1 + (j - k1) = j by omega];exact hy
  have h1 := hout x (.inl hxm);have h2 := hc.pos y (.inr hym);rw [meet_no h1.1 h2.1 (by omega)] at hm
  cases hm
 ·have h8 := h.first
  have l0 := h.lo0;have l1 := h.lo1
  split at h8 <;> rename_i h9 <;> simp only [h9, if_true, if_false, Bool.false_eq_true] <;> omega
theorem Grows.in1 {c d : List (Edit α)} {k0 k1 i0 i1 : Nat} {b : Block α} {r : List (Block α)} (hs : Steps (c.drop k0) (d.drop k1) (b :: r)) (h : Grows c d k0 k1 b i0 i1) {x y : Edit α} {j : Nat} (hx : d[i1]? = some x) (hj : k0 ≤ j) (hj1 : j < i0) (hy : c[j]? = some y) (hm : meet x y = true) : Grows c d k0 k1 b i0 (i1 + 1) := by
 obtain ⟨f0, f1, hc, _, hout⟩ := hs.front;refine ⟨h.lo0, h.hi0, by have := h.lo1; omega, ?_, ?_⟩
 ·apply Classical.byContradiction;intro hgt;have he : i1 = k1 + b.e1.length := by have := h.hi1; omega
  have hxm : x ∈ (d.drop k1).drop b.e1.length := by
   rw [List.drop_drop, ← he];exact List.mem_of_getElem? (i := 0) (by rw [List.getElem?_drop]; exact hx)
  have hym : y ∈ b.e0 := by
   rw [f0];refine List.mem_of_getElem? (i := j - k0) ?_;rw [List.getElem?_take, if_pos (by have := h.hi0; omega), List.getElem?_drop, show k0 + (j - k0) = j by omega];exact hy
  have h1 := hout x (.inr hxm);have h2 := hc.pos y (.inl hym);rw [meet_no h1.1 h2.1 (by omega)] at hm
  cases hm
 ·have h8 := h.first
  have l0 := h.lo0;have l1 := h.lo1
  split at h8 <;> rename_i h9 <;> simp only [h9, if_true, if_false, Bool.false_eq_true] <;> omega
theorem Grows.done {c d : List (Edit α)} {k0 k1 i0 i1 : Nat} {b : Block α} {r : List (Block α)} (hs : Steps (c.drop k0) (d.drop k1) (b :: r)) (h : Grows c d k0 k1 b i0 i1)
  (h0 : ∀ x, c[i0]? = some x → ∀ j y, k1 ≤ j → j < i1 → d[j]? = some y → meet x y = false) (h1 : ∀ x, d[i1]? = some x → ∀ j y, k0 ≤ j → j < i0 → c[j]? = some y → meet x y = false) : i0 = k0 + b.e0.length ∧ i1 = k1 + b.e1.length := by
 obtain ⟨f0, f1, hc, _, _⟩ := hs.front;have l0 := h.lo0;have l1 := h.lo1;have u0 := h.hi0;have u1 := h.hi1
 have g0 : ∀ j y, b.e0[j]? = some y → c[k0 + j]? = some y := fun j y hy => by
  rw [f0, List.getElem?_take] at hy
  split at hy
  ·rwa [List.getElem?_drop] at hy
  ·cases hy
 have g1 : ∀ j y, b.e1[j]? = some y → d[k1 + j]? = some y := fun j y hy => by
  rw [f1, List.getElem?_take] at hy
  split at hy
  ·rwa [List.getElem?_drop] at hy
  ·cases hy
 have := hc.whole (i0 := i0 - k0) (i1 := i1 - k1) (by omega) (by omega) h.first ⟨fun x hx j y hj hy => h0 x (by
   have := g0 _ _ hx
   rwa [show k0 + (i0 - k0) = i0 by omega] at this) (k1 + j) y (by omega) (by omega) (g1 _ _ hy), fun x hx j y hj hy => h1 x (by
   have := g1 _ _ hx
   rwa [show k1 + (i1 - k1) = i1 by omega] at this) (k0 + j) y (by omega) (by omega) (g0 _ _ hy)⟩
 omega
end
end File
end
section
namespace Fl
open Go.RowKit
theorem tyEdR : SlTy Tryz.prog 80 152 3 := slTy_of (z := .agg #[iv 0, .slice none 0 0, .slice none 0 0]) (bytes := 56) Tryz.underlying80 (by kernel_rfl) rfl (by decide)
theorem cut_run' {A : Option Addr} {base : List ByteArray} {c i x : Nat} {w : World} (hc : base.length ≤ c) (hi : i ≤ x) (hx : x ≤ base.length) (hs : Sl strE w A base) :
  ∃ (X : Option Addr) (n : Nat) (ys : List ByteArray), ys = File.cut base i x ∧ ys.length ≤ base.length ∧ ys.length ≤ n ∧ Sl strE w X ys ∧ ∀ W : World, (Instr.slice 23 (.slice A base.length c) (some (iv (i : Int))) (some (iv (x : Int))) none).run Tryz.prog W = .ok (.slice X ys.length n) W := by
 refine ⟨cutA A c i 1, c - i, File.cut base i x, rfl, File.cut_len _ _ _, by rw [File.cut_length hx hi]; omega, Sl.cut hs hc hi hx, ?_⟩;have h1 := run_cut strE tyStrs A base.length c i x hi (Nat.le_trans hx hc);rw [File.cut_length hx hi];exact h1
set_option maxHeartbeats 8000000 in
theorem rdiff_spec (A : Option Addr) (a : List ByteArray) (c : Nat) (A' : Option Addr) (b : List ByteArray) (c' : Nat) (w : World) (ha : a.length ≤ 24) (hb : b.length ≤ 24) (hac : a.length ≤ c) (hbc : b.length ≤ c') (hsa : Sl strE w A a) (hsb : Sl strE w A' b) :
  Calls Tryz.prog 52 #[.slice A a.length c, .slice A' b.length c'] w fun e w' => ∃ v, e = .returned v ∧ ∃ vs : List EdV, Own edE 152 w.heap.size w' v vs ∧ vs.map EdV.ed = File.diff a b ∧ (∀ r ∈ vs, EdOk w r) ∧ Below w.heap.size w w' := by
 have hp := File.common_pairs a b;obtain ⟨L, hL⟩ : ∃ L, L = File.common a b := ⟨_, rfl⟩;have hLl : L.length ≤ 24 := by rw [hL, File.common_length]; exact Nat.le_trans (File.lcs_most _ _) ha
 have HRC := lH (rcommon_spec A a c A' b c' w ha hb hac hbc hsa hsb);rw [← hL] at hp HRC;obtain ⟨D, hD⟩ : ∃ D, D = File.diff a b := ⟨_, rfl⟩
 have hDB : File.diffBy a b 0 0 (L ++ [(a.length, b.length)]) = D := by
  rw [hD, File.diffBy_eq (a := a) (b := b) _ 0 0 (fun _ _ _ _ => ⟨Nat.zero_le _, Nat.zero_le _⟩) (fun k p q h h' => ends_next hp h h'), hL];rfl
 rw [← hD];obtain ⟨M, hM⟩ : ∃ M, M = L ++ [(a.length, b.length)] := ⟨_, rfl⟩;have hMl : M.length = L.length + 1 := by rw [hM]; simp
 rw [← hM] at hDB;have HAT : Hid (∀ (k : Nat) (p : Nat × Nat), M[k]? = some p → p.1 ≤ a.length ∧ p.2 ≤ b.length) := lH fun k p h => ends_at hp (by rw [← hM]; exact h)
 have HNX : Hid (∀ (k : Nat) (p q : Nat × Nat), M[k]? = some p → M[k + 1]? = some q → p.1 < q.1 ∧ p.2 < q.2) := lH fun k p q h h' => ends_next hp (by rw [← hM]; exact h) (by rw [← hM]; exact h')
 have HDB := lH hDB;have HM := lH hM;have hM25 : M.length ≤ 25 := (by omega);clear hD hDB hL hp hM
 go_enter Tryz.func52, Tryz.ntmps52
 (go_wp2_with fail);refine HRC.out.mono ?_;rintro e w1 ⟨v1, rfl, ho1, hb1⟩;clear HRC
 go_wp2_with (first
  | (at_builtin; refine wpApp1 pairE tyArr2 rfl _ _ rfl ho1 (a.length, b.length) rfl rfl rfl hb1.size (by unfold big; omega) ?_; intro v2 w2 hown2 hb2 hk2))
 have hb02 := hb1.trans hb2;have ho2 : Own pairE 75 w.heap.size w2 v2 M := by rw [HM.out]; exact hown2
 obtain ⟨A6, c6, rfl, hc6, _⟩ := ho2.form;have HO2 := lH ho2;clear ho1 hown2 hb2 hk2 hb1 ho2 hLl hMl HM
 go_loopw [5, 7, 8, 9] (fun u v1 v2 v3 wr => ∃ (i j k : Nat) (out : List EdV), i ≤ 25 ∧ j ≤ 25 ∧ k ≤ M.length ∧ v1 = iv (i : Int) ∧ v2 = iv (j : Int) ∧ v3 = iv (k : Int) ∧ Hid (∀ p, M[k]? = some p → i ≤ p.1 ∧ j ≤ p.2) ∧ Hid (out.map EdV.ed ++ File.diffBy a b i j (M.drop k) = D) ∧ out.length ≤ k ∧ Hid (Own edE 152 w.heap.size wr u out) ∧ Hid (∀ r ∈ out, EdOk w r) ∧ Hid (Own pairE 75 w.heap.size wr (.slice A6 M.length c6) M) ∧ Below w.heap.size w wr) (fun _ _ _ v3 _ => M.length - (intOf v3).toNat)
 case atStart => exact ⟨0, 0, 0, [], by omega, by omega, Nat.zero_le _, rfl, rfl, rfl, lH (fun _ _ => ⟨Nat.zero_le _, Nat.zero_le _⟩), HDB, Nat.le_refl _, Own.nil, lH (fun _ h => by cases h), HO2, hb02⟩
 case round =>
  clear HDB HO2 hb02;obtain ⟨i, j, k, out, hi, hj, hk, rfl, rfl, rfl, HP, HD, hol, HO, HE, HL, hbr⟩ := hrel
  by_cases hlt : k < M.length
  ·have hki : (k : Int) < (M.length : Int) := (by omega);obtain ⟨bm, om, p, hAm, hbm, hpx, _, _⟩ := Sl.atPr HL.out.sl hlt;subst hAm;have HCP := lH (Sl.cellPr HL.out.sl hpx);obtain ⟨hpa, hpb⟩ := HAT.out k p hpx;obtain ⟨hip, hjp⟩ := HP.out p hpx;have hd := HD.out;rw [drop_at hpx, File.diffBy] at hd;have HD2 := lH hd;have HP2 : Hid (∀ q, M[k + 1]? = some q → p.1 + 1 ≤ q.1 ∧ p.2 + 1 ≤ q.2) := lH fun q hq => HNX.out k p q hpx hq
   obtain ⟨p1, p2⟩ := p;simp only at hpa hpb hip hjp HCP HD2 HP2;have ewx : IntKind.i64.wrap ((p1 : Int) + 1) = (p1 : Int) + 1 := IntWalk.i64_in _ (by omega);have ewy : IntKind.i64.wrap ((p2 : Int) + 1) = (p2 : Int) + 1 := IntWalk.i64_in _ (by omega);have ewk : IntKind.i64.wrap ((k : Int) + 1) = (k : Int) + 1 := IntWalk.i64_in _ (by omega);obtain ⟨hc0, hc1⟩ := HCP.out wr rB;have HPX := lH hpx;clear hd HD HP hpx
   by_cases hij : i < p1 ∨ j < p2
   ·have HDN : Hid ((out.map EdV.ed ++ [⟨(i : Int), File.cut a i p1, File.cut b j p2⟩]) ++ File.diffBy a b (p1 + 1) (p2 + 1) (M.drop (k + 1)) = D) := lH (by
     rw [← HD2.out, if_pos hij]; simp)
    obtain ⟨X1, n1, ya, hya, hyal, hyn, hsy, hC1⟩ := cut_run' (i := i) (x := p1) hac hip hpa (hsa.below hbr);obtain ⟨X2, n2, yb, hyb, hybl, hyn2, hsz, hC2⟩ := cut_run' (i := j) (x := p2) hbc hjp hpb (hsb.below hbr);obtain ⟨X1', n1', ya', hya', _, hyn', hsy', hC1'⟩ := cut_run' (i := i) (x := p1) hac hip hpa hsa;obtain ⟨X2', n2', yb', hyb', _, hyn2', hsz', hC2'⟩ := cut_run' (i := j) (x := p2) hbc hjp hpb hsb;have e1 := (hC1 wr).symm.trans (hC1' wr);have e2 := (hC2 wr).symm.trans (hC2' wr);have eya : ya' = ya := by rw [hya, hya']
    have eyb : yb' = yb := by rw [hyb, hyb']
    subst eya eyb;injection e1 with e1 _;injection e1 with e1 _ e1n;injection e2 with e2 _;injection e2 with e2 _ e2n;subst e1 e1n e2 e2n;obtain ⟨Y, hY⟩ : ∃ Y : EdV, Y = ⟨(i : Int), X1, n1, ya', X2, n2, yb'⟩ := ⟨_, rfl⟩;have HYO : Hid (EdOk w Y) := lH (by rw [hY]; exact ⟨hsy', hsz', hyn, hyn2⟩);have HYE : Hid (Y.ed = ⟨(i : Int), File.cut a i p1, File.cut b j p2⟩) := lH (by rw [hY]; show File.Edit.mk _ _ _ = _; rw [hya, hyb]);have HYC : Hid (([.int .i64 (i : Int), .slice X1 ya'.length n1, .slice X2 yb'.length n2] : List Value) = [Y].flatMap edE.cells) := lH (by rw [hY]; rfl);clear hya hyb hya' hyb' hsy hsz hsy' hsz' hY hC1' hC2' HD2;have hT : (((p1 : Int) > (i : Int)) ∨ ¬ ((p1 : Int) > (i : Int)) ∧ ((p2 : Int) > (j : Int))) := (by omega)
    rcases hT with hx1 | ⟨hx1, hy1⟩
    all_goals
     go_upto_region 8 with fail
     refine wfl 20 (fun nR x => Below wr.heap.size wr x) (fun x x' => Below x.heap.size x x')
      [eqv u5,
       eqv (iv (i : Int)),
       eqv (.slice A a.length c),
       eqv (iv (i : Int)),
       eqv (.slice (some ⟨bm, om, none⟩) M.length c6),
       eqv (iv (k : Int)),
       eqv (.pointer (some ⟨bm, om + k * 2, none⟩)),
       eqv (.pointer (some ⟨bm, om + k * 2, none⟩)),
       eqv (iv (p1 : Int)),
       eqv (.slice X1 ya'.length n1),
       eqv (.slice A' b.length c'),
       eqv (iv (j : Int)),
       eqv (.slice (some ⟨bm, om, none⟩) M.length c6),
       eqv (iv (k : Int)),
       eqv (.pointer (some ⟨bm, om + k * 2, none⟩)),
       eqv (.pointer (some ⟨bm, om + k * 2 + 1, none⟩)),
       eqv (iv (p2 : Int)),
       eqv (.slice X2 yb'.length n2),
       eqv (.agg #[iv (i : Int), .slice X1 ya'.length n1, .slice X2 yb'.length n2]),
       fun _ u x => ∃ A1, u = .slice A1 1 1 ∧ Sl edE x A1 [Y]]
      (Below.refl _ wr).drew ?_ ?_
     ·simp only [List.take_succ_cons, List.take_zero, HopL]
      repeat' apply And.intro
      ·refine fvr fun x hR kk rr _ => ?_
       have := rho0 rr 5;clear rr kk;exact ev0
      ·refine fvr fun x hR kk rr _ => ?_
       have := rho0 rr 7;clear rr kk;exact ev0
      ·refine fvr fun x hR kk rr _ => ?_
       have := rho0 rr 0;clear rr kk;exact ev0
      ·refine fvr fun x hR kk rr _ => ?_
       have := rho0 rr 7;clear rr kk;exact ev0
      ·refine fvr fun x hR kk rr _ => ?_
       have := rho0 rr 6;clear rr kk;exact ev0
      ·refine fvr fun x hR kk rr _ => ?_
       have := rho0 rr 9;clear rr kk;exact ev0
      ·refine fvr fun x hR kk rr _ => ?_
       have := rho rr 46 (kk.at 4);have := rho rr 47 (kk.at 5);clear rr kk;exact ev0
      ·refine fvr fun x hR kk rr _ => ?_
       have := rho rr 48 (kk.at 6);clear rr kk;exact ev0
      ·refine fvr fun x hR kk rr _ => ?_
       have := rho rr 49 (kk.at 7);clear rr kk;have g1 := (HCP.out _ hR).1;exact ev0
      ·refine fvr fun x hR kk rr _ => ?_
       have := rho rr 44 (kk.at 2);have := rho rr 45 (kk.at 3);have := rho rr 50 (kk.at 8);clear rr kk;exact ev0
      ·refine fvr fun x hR kk rr _ => ?_
       have := rho0 rr 1;clear rr kk;exact ev0
      ·refine fvr fun x hR kk rr _ => ?_
       have := rho0 rr 8;clear rr kk;exact ev0
      ·refine fvr fun x hR kk rr _ => ?_
       have := rho0 rr 6;clear rr kk;exact ev0
      ·refine fvr fun x hR kk rr _ => ?_
       have := rho0 rr 9;clear rr kk;exact ev0
      ·refine fvr fun x hR kk rr _ => ?_
       have := rho rr 54 (kk.at 12);have := rho rr 55 (kk.at 13);clear rr kk;exact ev0
      ·refine fvr fun x hR kk rr _ => ?_
       have := rho rr 56 (kk.at 14);clear rr kk;exact ev0
      ·refine fvr fun x hR kk rr _ => ?_
       have := rho rr 57 (kk.at 15);clear rr kk;have g1 := (HCP.out _ hR).2;exact ev0
      ·refine fvr fun x hR kk rr _ => ?_
       have := rho rr 52 (kk.at 10);have := rho rr 53 (kk.at 11);have := rho rr 58 (kk.at 16);clear rr kk;exact ev0
      ·refine fvr fun x hR kk rr _ => ?_
       have := rho rr 43 (kk.at 1);have := rho rr 51 (kk.at 9);have := rho rr 59 (kk.at 17);clear rr kk;exact ev0
      ·refine fvr (hs := fun _ _ _ _ h hS => (by obtain ⟨A1, e0, o1⟩ := h; exact ⟨A1, e0, o1.below hS⟩)) fun x hR kk rr _ => ?_
       have e60 := rho rr 60 (kk.at 18);clear rr kk;exact stepE_new (u := .slice (some ⟨x.heap.size, 0, none⟩) 1 1) (w' := x.alloc (.cells #[iv (i : Int), .slice X1 ya'.length n1, .slice X2 yb'.length n2] 152)) (wanted_none rfl) (by go_simp) ⟨⟨_, rfl, Sl.fresh edE x _ _ [Y] HYC.out (by simp [maxLen])⟩, rB.alloc nL _, hR.alloc hR.size _⟩
      ·trivial
     ·intro v nR x1 hnR hR hall;have h0 : v 0 = u5 := hall 0 (by decide);obtain ⟨A1, h19, o1⟩ := hall 19 (by decide);clear hall hnR;simp only [List.drop_succ_cons, List.drop_zero, List.take_succ_cons, List.take_zero, frameF, Act.put, List.setIfInBounds_toArray, List.set_cons_zero, List.set_cons_succ, Nat.zero_add, Nat.reduceAdd, h0, h19];have hb0x := hbr.next hR nL;have HO1 := lH (HO.out.below hR);have HL1 := lH (HL.out.below hR)
      go_wp2_with (at_builtin; refine wpAppS edE tyEdR rfl _ _ rfl HO1.out o1 rfl rfl hb0x.size (by simp; unfold big; omega) ?_; intro v3 w3 hown3 hb3 hk3)
      have HL3 : Hid (Own pairE 75 w.heap.size w3 (.slice (some ⟨bm, om, none⟩) M.length c6) M) := lH (HL1.out.keep hb3.size fun g hg => hk3 g (HL1.out.lt g hg).2 (fun hv => Own.two HO1.out HL1.out (by decide) hv hg))
      have HC3 : Hid (∀ W, Below w3.heap.size w3 W → W.cell? ⟨bm, om + k * 2, none⟩ = some (iv (p1 : Int)) ∧ W.cell? ⟨bm, om + k * 2 + 1, none⟩ = some (iv (p2 : Int))) := lH fun W h => by
       have hpx : M[k]? = some (p1, p2) := HPX.out;exact Sl.cellPr HL3.out.sl hpx W h
      have HO3 := lH hown3;have hb03 := hb0x.trans hb3
      have HE3 : Hid (∀ r ∈ out ++ [Y], EdOk w r) := lH fun r hr => by
       rcases List.mem_append.1 hr with hr | hr
       ·exact HE.out r hr
       ·rw [List.mem_singleton.1 hr]; exact HYO.out
      have HDM : Hid ((out ++ [Y]).map EdV.ed ++ File.diffBy a b (p1 + 1) (p2 + 1) (M.drop (k + 1)) = D) := lH (by rw [← HDN.out, List.map_append, List.map_cons, List.map_nil, HYE.out]);clear hown3 hk3 hb3 HO1 HL1 hc0 hc1 HYC HDN hC1 hC2
      go_upto_region 9 with fail
      refine wfl 14 (fun nR x => Below w3.heap.size w3 x) (fun x x' => Below x.heap.size x x')
       [eqv (.slice (some ⟨bm, om, none⟩) M.length c6),
        eqv (iv (k : Int)),
        eqv (.pointer (some ⟨bm, om + k * 2, none⟩)),
        eqv (.pointer (some ⟨bm, om + k * 2, none⟩)),
        eqv (iv (p1 : Int)),
        eqv (iv ((p1 : Int) + 1)),
        eqv (.slice (some ⟨bm, om, none⟩) M.length c6),
        eqv (iv (k : Int)),
        eqv (.pointer (some ⟨bm, om + k * 2, none⟩)),
        eqv (.pointer (some ⟨bm, om + k * 2 + 1, none⟩)),
        eqv (iv (p2 : Int)),
        eqv (iv ((p2 : Int) + 1)),
        eqv (iv ((p1 : Int) + 1)),
        eqv (iv ((p2 : Int) + 1))]
       (Below.refl _ w3).drew ?_ ?_
      ·simp only [List.take_succ_cons, List.take_zero, HopL]
       repeat' apply And.intro
       ·refine fvr fun x hR kk rr _ => ?_
        have := rho0 rr 6;clear rr kk;exact ev0
       ·refine fvr fun x hR kk rr _ => ?_
        have := rho0 rr 9;clear rr kk;exact ev0
       ·refine fvr fun x hR kk rr _ => ?_
        have := rho rr 63 (kk.at 0);have := rho rr 64 (kk.at 1);clear rr kk;exact ev0
       ·refine fvr fun x hR kk rr _ => ?_
        have := rho rr 65 (kk.at 2);clear rr kk;exact ev0
       ·refine fvr fun x hR kk rr _ => ?_
        have := rho rr 66 (kk.at 3);clear rr kk;have g1 := (HC3.out x hR).1;exact ev0
       ·refine fvr fun x hR kk rr _ => ?_
        have := rho rr 67 (kk.at 4);clear rr kk;exact ev0
       ·refine fvr fun x hR kk rr _ => ?_
        have := rho0 rr 6;clear rr kk;exact ev0
       ·refine fvr fun x hR kk rr _ => ?_
        have := rho0 rr 9;clear rr kk;exact ev0
       ·refine fvr fun x hR kk rr _ => ?_
        have := rho rr 69 (kk.at 6);have := rho rr 70 (kk.at 7);clear rr kk;exact ev0
       ·refine fvr fun x hR kk rr _ => ?_
        have := rho rr 71 (kk.at 8);clear rr kk;exact ev0
       ·refine fvr fun x hR kk rr _ => ?_
        have := rho rr 72 (kk.at 9);clear rr kk;have g1 := (HC3.out x hR).2;exact ev0
       ·refine fvr fun x hR kk rr _ => ?_
        have := rho rr 73 (kk.at 10);clear rr kk;exact ev0
       ·refine fvr fun x hR kk rr _ => ?_
        have := rho rr 68 (kk.at 5);clear rr kk;exact ev0
       ·refine fvr fun x hR kk rr _ => ?_
        have := rho rr 74 (kk.at 11);clear rr kk;exact ev0
       ·trivial
      ·intro v nR x4 hnR hR hall;have h12 : v 12 = iv ((p1 : Int) + 1) := hall 12 (by decide);have h13 : v 13 = iv ((p2 : Int) + 1) := hall 13 (by decide);clear hall hnR;simp only [List.drop_succ_cons, List.drop_zero, List.take_succ_cons, List.take_zero, frameF, Act.put, List.setIfInBounds_toArray, List.set_cons_zero, List.set_cons_succ, Nat.zero_add, Nat.reduceAdd, h12, h13];have hb04 := hb03.next hR nL;have HO4 := lH (HO3.out.below hR);have HL4 := lH (HL3.out.below hR);(go_wp2_with fail);go_roundw
       case rel => exact ⟨p1 + 1, p2 + 1, k + 1, _, by omega, by omega, by omega, by go_num, by go_num, by go_num, HP2, HDM, by simp; omega, HO4, HE3, HL4, hb04⟩
       case measure => simp [intOf]; omega
   ·have hx1 : ¬ ((p1 : Int) > (i : Int)) := (by omega);have hy1 : ¬ ((p2 : Int) > (j : Int)) := (by omega);have HDM : Hid (out.map EdV.ed ++ File.diffBy a b (p1 + 1) (p2 + 1) (M.drop (k + 1)) = D) := lH (by rw [← HD2.out, if_neg hij]; simp);clear HD2
    go_upto_region 9 with fail
    refine wfl 14 (fun nR x => Below wr.heap.size wr x) (fun x x' => Below x.heap.size x x')
     [eqv (.slice (some ⟨bm, om, none⟩) M.length c6),
      eqv (iv (k : Int)),
      eqv (.pointer (some ⟨bm, om + k * 2, none⟩)),
      eqv (.pointer (some ⟨bm, om + k * 2, none⟩)),
      eqv (iv (p1 : Int)),
      eqv (iv ((p1 : Int) + 1)),
      eqv (.slice (some ⟨bm, om, none⟩) M.length c6),
      eqv (iv (k : Int)),
      eqv (.pointer (some ⟨bm, om + k * 2, none⟩)),
      eqv (.pointer (some ⟨bm, om + k * 2 + 1, none⟩)),
      eqv (iv (p2 : Int)),
      eqv (iv ((p2 : Int) + 1)),
      eqv (iv ((p1 : Int) + 1)),
      eqv (iv ((p2 : Int) + 1))]
     (Below.refl _ wr).drew ?_ ?_
    ·simp only [List.take_succ_cons, List.take_zero, HopL]
     repeat' apply And.intro
     ·refine fvr fun x hR kk rr _ => ?_
      have := rho0 rr 6;clear rr kk;exact ev0
     ·refine fvr fun x hR kk rr _ => ?_
      have := rho0 rr 9;clear rr kk;exact ev0
     ·refine fvr fun x hR kk rr _ => ?_
      have := rho rr 63 (kk.at 0);have := rho rr 64 (kk.at 1);clear rr kk;exact ev0
     ·refine fvr fun x hR kk rr _ => ?_
      have := rho rr 65 (kk.at 2);clear rr kk;exact ev0
     ·refine fvr fun x hR kk rr _ => ?_
      have := rho rr 66 (kk.at 3);clear rr kk;have g1 := (HCP.out x hR).1;exact ev0
     ·refine fvr fun x hR kk rr _ => ?_
      have := rho rr 67 (kk.at 4);clear rr kk;exact ev0
     ·refine fvr fun x hR kk rr _ => ?_
      have := rho0 rr 6;clear rr kk;exact ev0
     ·refine fvr fun x hR kk rr _ => ?_
      have := rho0 rr 9;clear rr kk;exact ev0
     ·refine fvr fun x hR kk rr _ => ?_
      have := rho rr 69 (kk.at 6);have := rho rr 70 (kk.at 7);clear rr kk;exact ev0
     ·refine fvr fun x hR kk rr _ => ?_
      have := rho rr 71 (kk.at 8);clear rr kk;exact ev0
     ·refine fvr fun x hR kk rr _ => ?_
      have := rho rr 72 (kk.at 9);clear rr kk;have g1 := (HCP.out x hR).2;exact ev0
     ·refine fvr fun x hR kk rr _ => ?_
      have := rho rr 73 (kk.at 10);clear rr kk;exact ev0
     ·refine fvr fun x hR kk rr _ => ?_
      have := rho rr 68 (kk.at 5);clear rr kk;exact ev0
     ·refine fvr fun x hR kk rr _ => ?_
      have := rho rr 74 (kk.at 11);clear rr kk;exact ev0
     ·trivial
    ·intro v nR x4 hnR hR hall;have h12 : v 12 = iv ((p1 : Int) + 1) := hall 12 (by decide);have h13 : v 13 = iv ((p2 : Int) + 1) := hall 13 (by decide);clear hall hnR;simp only [List.drop_succ_cons, List.drop_zero, List.take_succ_cons, List.take_zero, frameF, Act.put, List.setIfInBounds_toArray, List.set_cons_zero, List.set_cons_succ, Nat.zero_add, Nat.reduceAdd, h12, h13];have hb04 := hbr.next hR nL;have HO4 := lH (HO.out.below hR);have HL4 := lH (HL.out.below hR);(go_wp2_with fail);go_roundw
     case rel => exact ⟨p1 + 1, p2 + 1, k + 1, _, by omega, by omega, by omega, by go_num, by go_num, by go_num, HP2, HDM, by omega, HO4, HE, HL4, hb04⟩
     case measure => simp [intOf]; omega
  ·have hki : ¬ (k : Int) < (M.length : Int) := (by omega);have hd := HD.out;rw [List.drop_eq_nil_of_le (by omega), File.diffBy, List.append_nil] at hd;have HD2 := lH hd;clear hd HD HL HP;(go_wp2_with fail);go_ret;exact ⟨_, rfl, out, HO.out, HD2.out, HE.out, hbr⟩
end Fl
end
section
namespace Fl
open Go.RowKit
set_option maxHeartbeats 2000000 in
theorem rmeet_spec (x y : EdV) (w : World) (hx : 0 ≤ x.at_ ∧ x.at_ ≤ 24) (hy : 0 ≤ y.at_ ∧ y.at_ ≤ 24) (h1 : x.old.length ≤ 24) (h2 : y.old.length ≤ 24) :
  Calls Tryz.prog 112 #[x.v, y.v] w fun e w' => e = .returned (.bool (File.meet x.ed y.ed)) ∧ Below w.heap.size w w' := by
 obtain ⟨xa, xA, xc, xo, xA', xc', xn⟩ := x;obtain ⟨ya, yA, yc, yo, yA', yc', yn⟩ := y;simp only at hx hy h1 h2;have hm : File.meet (EdV.ed ⟨xa, xA, xc, xo, xA', xc', xn⟩) (EdV.ed ⟨ya, yA, yc, yo, yA', yc', yn⟩) = (decide (xa ≤ ya + (yo.length : Int)) && decide (ya ≤ xa + (xo.length : Int))) := rfl;rw [hm];have ew1 : IntKind.i64.wrap (ya + (yo.length : Int)) = ya + (yo.length : Int) := IntWalk.i64_in _ (by omega);have ew2 : IntKind.i64.wrap (xa + (xo.length : Int)) = xa + (xo.length : Int) := IntWalk.i64_in _ (by omega);simp only [EdV.v]
 by_cases hA : xa ≤ ya + (yo.length : Int)
 ·rw [decide_eq_true hA, Bool.true_and];obtain ⟨t, ht⟩ : ∃ t, decide (ya ≤ xa + (xo.length : Int)) = t := ⟨_, rfl⟩;rw [ht]
  go_enter Tryz.func112, Tryz.ntmps112
  (go_wp2_with fail);go_ret;exact ⟨rfl, (rB.alloc nL _).alloc (by simp) _⟩
 ·rw [decide_eq_false hA, Bool.false_and]
  go_enter Tryz.func112, Tryz.ntmps112
  (go_wp2_with fail);go_ret;exact ⟨rfl, (rB.alloc nL _).alloc (by simp) _⟩
set_option maxHeartbeats 4000000 in
theorem rsame_spec (A : Option Addr) (xs : List ByteArray) (c : Nat) (A' : Option Addr) (ys : List ByteArray) (c' : Nat) (w : World) (hm : xs.length ≤ big) (hs : Sl strE w A xs) (hm' : ys.length ≤ big) (hs' : Sl strE w A' ys) :
  Calls Tryz.prog 114 #[.slice A xs.length c, .slice A' ys.length c'] w fun e w' => e = .returned (.bool (decide (xs = ys))) ∧ Below w.heap.size w w' := by
 unfold big at hm hm'
 by_cases hl : xs.length = ys.length
 ·have hl' : ((xs.length : Int) != (ys.length : Int)) = false := by simp [hl]
  have HL := lH hl;clear hl
  go_enter Tryz.func114, Tryz.ntmps114
  go_wp2
  go_loopw [5] (fun i wr => ∃ (k : Nat), k ≤ xs.length ∧ i = iv k ∧ Hid (xs.take k = ys.take k) ∧ Below w.heap.size w wr) (fun i _ => xs.length - (intOf i).toNat)
  case atStart => exact ⟨0, by omega, rfl, rfl, rB⟩
  case round =>
   obtain ⟨k, hk, rfl, hf, hbw⟩ := hrel
   by_cases hlt : k < xs.length
   ·obtain ⟨b, off, p, rfl, hb, hp, hp0⟩ := Sl.atS (hs.below hbw) hlt;obtain ⟨b', off', q, rfl, hb', hq, hq0⟩ := Sl.atS (hs'.below hbw) (by have := HL.out; omega : k < ys.length);have hly : (k : Int) < (ys.length : Int) := by have := HL.out; omega
    have hlx : (k : Int) < (xs.length : Int) := (by omega);have HP := lH hp;have HQ := lH hq;clear hp hq hs hs';have hsq := str_eq p q
    by_cases hpq : p = q
    ·rw [decide_eq_true hpq] at hsq;have HPQ := lH hpq;clear hpq
     go_wp2
     go_quiet (fail)
     have hqd : Below w.heap.size w (wr.drewN nq) := ⟨hbw.os, hbw.tape, hbw.output, hbw.size, hbw.block⟩;generalize wr.drewN nq = wq at *
     go_wp2
     go_roundw
     case rel => exact ⟨k + 1, by omega, by go_num, by
      show xs.take (k + 1) = ys.take (k + 1)
      rw [List.take_add_one, List.take_add_one, HP.out, HQ.out, HPQ.out, hf.out], hqd⟩
     case measure => simp [intOf]; omega
    ·rw [decide_eq_false hpq] at hsq;have HPQ := lH hpq;clear hpq
     go_wp2
     go_quiet (fail)
     have hqd : Below w.heap.size w (wr.drewN nq) := ⟨hbw.os, hbw.tape, hbw.output, hbw.size, hbw.block⟩;generalize wr.drewN nq = wq at *
     go_wp2
     go_ret;exact ⟨ret_eq (by rw [decide_eq_false (take_ne' HP.out HQ.out HPQ.out)]; rfl), hqd⟩
   ·have he : xs = ys := by
     have := hf.out
     rwa [List.take_of_length_le (by omega), List.take_of_length_le (by have := HL.out; omega)] at this
    have HE := lH he;clear he
    go_wp2
    go_ret;exact ⟨ret_eq (by rw [decide_eq_true HE.out]; rfl), (by first | exact hbw | exact hbw.drew)⟩
 ·have hl' : ((xs.length : Int) != (ys.length : Int)) = true := by simp; omega
  go_enter Tryz.func114, Tryz.ntmps114
  go_wp2
  go_ret;exact ⟨ret_eq (by rw [decide_eq_false (fun h => hl (by rw [h]))]; rfl), rB⟩
theorem hasGo_le {base : List ByteArray} {hi : Nat} : ∀ {c : List (File.Edit ByteArray)} {at_ : Nat}, (∀ x ∈ c, x.new.length ≤ 24) → (File.hasGo base hi at_ c).length ≤ base.length + c.length * (base.length + 24)
 | [], at_, _ => by
  unfold File.hasGo;have := File.cut_len base at_ hi;simp; omega
 | x :: r, at_, h => by
  have ih := hasGo_le (base := base) (hi := hi) (c := r) (at_ := x.hi) fun y hy => h y (List.mem_cons_of_mem _ hy)
  have h1 := h x (by simp);have h2 := File.cut_len base at_ x.lo;unfold File.hasGo;simp only [List.length_append, List.length_cons, Nat.add_mul];omega
set_option maxHeartbeats 8000000 in
theorem rhas_spec (A : Option Addr) (base : List ByteArray) (c : Nat) (A' : Option Addr) (vs : List EdV) (c' : Nat) (lo hi : Nat) (w : World) (ha : base.length ≤ 24) (hv : vs.length ≤ 30) (hac : base.length ≤ c) (hlh : lo ≤ hi) (hh : hi ≤ base.length)
  (hsa : Sl strE w A base) (hsv : Sl edE w A' vs) (hok : ∀ r ∈ vs, EdOk w r) (hsm : ∀ r ∈ vs, 0 ≤ r.at_ ∧ r.at_ ≤ 24 ∧ r.old.length ≤ 24 ∧ r.new.length ≤ 24) (hch : File.Chain lo (vs.map EdV.ed)) (hwi : File.Within hi (vs.map EdV.ed)) :
  Calls Tryz.prog 113 #[.slice A base.length c, .slice A' vs.length c', iv (lo : Int), iv (hi : Int)] w fun e w' => ∃ v, e = .returned v ∧ Own strE 9 w.heap.size w' v (File.hasGo base hi lo (vs.map EdV.ed)) ∧ Below w.heap.size w w' := by
 have hRl := hasGo_le (base := base) (hi := hi) (c := vs.map EdV.ed) (at_ := lo) (fun x hx => by
  obtain ⟨r, hr, rfl⟩ := List.mem_map.1 hx;exact (hsm r hr).2.2.2)
 rw [List.length_map] at hRl
 have hRl2 : (File.hasGo base hi lo (vs.map EdV.ed)).length ≤ 2000 := by
  have : vs.length * (base.length + 24) ≤ 30 * 48 := Nat.mul_le_mul hv (by omega);omega
 obtain ⟨R, hR⟩ : ∃ R, R = File.hasGo base hi lo (vs.map EdV.ed) := ⟨_, rfl⟩;rw [← hR] at hRl2;rw [← hR];have HR := lH hR.symm;have HOK := lH hok;have HSM := lH hsm;have HCH := lH hch;have HWI := lH hwi;clear hR hok hsm hch hwi hRl
 go_enter Tryz.func113, Tryz.ntmps113
 (go_wp2_with fail)
 go_loopw [9, 10, 11] (fun u v1 v2 wr => ∃ (k p : Nat) (out : List ByteArray), k ≤ vs.length ∧ p ≤ hi ∧ v1 = iv (p : Int) ∧ v2 = iv (k : Int) ∧ Hid (out ++ File.hasGo base hi p ((vs.map EdV.ed).drop k) = R) ∧ Hid (File.Chain p ((vs.map EdV.ed).drop k)) ∧ Hid (Own strE 9 w.heap.size wr u out) ∧ Below w.heap.size w wr) (fun _ _ v2 _ => vs.length - (intOf v2).toNat)
 case atStart => exact ⟨0, lo, [], Nat.zero_le _, hlh, rfl, rfl, HR, HCH, Own.nil, rB⟩
 case round =>
  clear HR HCH;obtain ⟨k, p, out, hk, hp, rfl, rfl, HR, HCH, HO, hbr⟩ := hrel
  by_cases hlt : k < vs.length
  ·have hki : (k : Int) < (vs.length : Int) := (by omega);obtain ⟨bv, ov, y, rfl, hbv, hy, _, _, _⟩ := Sl.atEd (hsv.below hbr) hlt;have HCY : Hid (∀ W, Below w.heap.size w W → W.cell? ⟨bv, ov + k * 3, none⟩ = some (iv y.at_) ∧ W.cell? ⟨bv, ov + k * 3 + 1, none⟩ = some (.slice y.A y.old.length y.c) ∧ W.cell? ⟨bv, ov + k * 3 + 2, none⟩ = some (.slice y.A' y.new.length y.c')) := lH (Sl.cellEd hsv hy);have hys := HSM.out y (mem_at hy);have HYN : Hid (∀ W, Below w.heap.size w W → Sl strE W y.A' y.new) := lH fun W h => (HOK.out y (mem_at hy)).new.below h
   have hr := HR.out;have hc := HCH.out;have hw := HWI.out y.ed (List.mem_map_of_mem (mem_at hy));rw [drop_ed hy] at hr hc;unfold File.hasGo at hr;obtain ⟨hc1, hc2⟩ := hc;have HC2 := lH hc2;obtain ⟨ya, yA, yc, yo, yA', yc', yn⟩ := y;simp only at hys HCY HYN;obtain ⟨n, rfl⟩ : ∃ n : Nat, ya = (n : Int) := ⟨ya.toNat, by omega⟩;have hr : out ++ (File.cut base p n ++ (yn ++ File.hasGo base hi (n + yo.length) ((vs.map EdV.ed).drop (k + 1)))) = R := hr;have hw : n + yo.length ≤ hi := hw;have hc1 : (p : Int) ≤ (n : Int) := hc1;have HC3 : Hid (File.Chain (n + yo.length) ((vs.map EdV.ed).drop (k + 1))) := lH (HC2.out.weaken (Nat.le_succ _));obtain ⟨X1, n1, yb, hyb, hybl, _, hsy, hC1⟩ := cut_run' (i := p) (x := n) hac (by omega) (by omega) (hsa.below hbr)
   have HSY : Hid (∀ W, Below w.heap.size w W → Sl strE W X1 yb) := lH (by
    obtain ⟨X1', n1', yb', hyb', _, _, hsy', hC1'⟩ := cut_run' (i := p) (x := n) hac (by omega) (by omega) hsa;have e1 := (hC1 wr).symm.trans (hC1' wr);have e2 : yb' = yb := by rw [hyb, hyb']
    subst e2;injection e1 with e1 _;injection e1 with e1 _ _;subst e1;exact fun W h => hsy'.below h)
   rw [← hyb] at hr;have HR2 : Hid (((out ++ yb) ++ yn) ++ File.hasGo base hi (n + yo.length) ((vs.map EdV.ed).drop (k + 1)) = R) := lH (by rw [← hr]; simp)
   have HLEN : Hid (out.length + yb.length + yn.length ≤ 2000) := lH (by
    have := congrArg List.length HR2.out;simp only [List.length_append] at this;omega)
   have ewn : IntKind.i64.wrap ((n : Int) + (yo.length : Int)) = (n : Int) + (yo.length : Int) := IntWalk.i64_in _ (by omega);clear hr hc1 hc2 HC2 HCH HR hyb hsy hy
   go_upto_region 6 with fail
   refine wp_one_lit (by kernel_rfl) 15 (by kernel_rfl) (by kernel_rfl) (by decide) 9 (by decide) (fun x => Below w.heap.size wr x)
    [u9,
     .slice A base.length c,
     iv (p : Int),
     .slice (some ⟨bv, ov, none⟩) vs.length c',
     iv (k : Int),
     .pointer (some ⟨bv, ov + k * 3, none⟩),
     .pointer (some ⟨bv, ov + k * 3, none⟩),
     iv (n : Int),
     .slice X1 yb.length n1,
     undef,
     .slice (some ⟨bv, ov, none⟩) vs.length c',
     iv (k : Int),
     .pointer (some ⟨bv, ov + k * 3, none⟩),
     .pointer (some ⟨bv, ov + k * 3 + 2, none⟩),
     .slice yA' yn.length yc']
    (fun x => Own strE 9 w.heap.size x u9 out) (fun u x => Own strE 9 w.heap.size x u (out ++ yb)) ((Below.refl _ wr).drew) ?_ ?_ ?_
   rotate_left
   ·simp only [List.take_succ_cons, List.take_zero, OneL];refine ⟨?_, ?_, ?_, ?_, ?_, ?_, ?_, ?_, ?_, ?_, ?_, ?_, ?_, ?_, ?_, trivial⟩
    ·refine one_plain (by decide) fun v x hR hk => ?_
     simp only [List.take_succ_cons, List.take_zero, frameF, Act.put, List.setIfInBounds_toArray, List.set_cons_zero, List.set_cons_succ];exact stepF_val (by first | rfl | simp [Region.wanted, yielded, *]) (by go_simp <;> omega) ⟨rfl, rfl⟩
    ·refine one_plain (by decide) fun v x hR hk => ?_
     simp only [List.take_succ_cons, List.take_zero, frameF, Act.put, List.setIfInBounds_toArray, List.set_cons_zero, List.set_cons_succ];exact stepF_val (by first | rfl | simp [Region.wanted, yielded, *]) (by go_simp <;> omega) ⟨rfl, rfl⟩
    ·refine one_plain (by decide) fun v x hR hk => ?_
     simp only [List.take_succ_cons, List.take_zero, frameF, Act.put, List.setIfInBounds_toArray, List.set_cons_zero, List.set_cons_succ];exact stepF_val (by first | rfl | simp [Region.wanted, yielded, *]) (by go_simp <;> omega) ⟨rfl, rfl⟩
    ·refine one_plain (by decide) fun v x hR hk => ?_
     simp only [List.take_succ_cons, List.take_zero, frameF, Act.put, List.setIfInBounds_toArray, List.set_cons_zero, List.set_cons_succ];exact stepF_val (by first | rfl | simp [Region.wanted, yielded, *]) (by go_simp <;> omega) ⟨rfl, rfl⟩
    ·refine one_plain (by decide) fun v x hR hk => ?_
     simp only [List.take_succ_cons, List.take_zero, frameF, Act.put, List.setIfInBounds_toArray, List.set_cons_zero, List.set_cons_succ];exact stepF_val (by first | rfl | simp [Region.wanted, yielded, *]) (by go_simp <;> omega) ⟨rfl, rfl⟩
    ·refine one_plain (by decide) fun v x hR hk => ?_
     have h3 : v 3 = .slice (some ⟨bv, ov, none⟩) vs.length c' := hk 3 (by kernel_rfl) (by decide);have h4 : v 4 = iv (k : Int) := hk 4 (by kernel_rfl) (by decide);simp only [List.take_succ_cons, List.take_zero, frameF, Act.put, List.setIfInBounds_toArray, List.set_cons_zero, List.set_cons_succ];exact stepF_val (by first | rfl | simp [Region.wanted, yielded, *]) (by go_simp <;> omega) ⟨rfl, rfl⟩
    ·refine one_plain (by decide) fun v x hR hk => ?_
     have h5 : v 5 = .pointer (some ⟨bv, ov + k * 3, none⟩) := hk 5 (by kernel_rfl) (by decide);simp only [List.take_succ_cons, List.take_zero, frameF, Act.put, List.setIfInBounds_toArray, List.set_cons_zero, List.set_cons_succ];exact stepF_val (by first | rfl | simp [Region.wanted, yielded, *]) (by go_simp <;> omega) ⟨rfl, rfl⟩
    ·refine one_plain (by decide) fun v x hR hk => ?_
     have h6 : v 6 = .pointer (some ⟨bv, ov + k * 3, none⟩) := hk 6 (by kernel_rfl) (by decide);have g1 := (HCY.out x (hbr.trans hR)).1;simp only [List.take_succ_cons, List.take_zero, frameF, Act.put, List.setIfInBounds_toArray, List.set_cons_zero, List.set_cons_succ];exact stepF_val (by first | rfl | simp [Region.wanted, yielded, *]) (by go_simp <;> omega) ⟨rfl, rfl⟩
    ·refine one_plain (by decide) fun v x hR hk => ?_
     have h1 : v 1 = .slice A base.length c := hk 1 (by kernel_rfl) (by decide);have h2 : v 2 = iv (p : Int) := hk 2 (by kernel_rfl) (by decide);have h7 : v 7 = iv (n : Int) := hk 7 (by kernel_rfl) (by decide);simp only [List.take_succ_cons, List.take_zero, frameF, Act.put, List.setIfInBounds_toArray, List.set_cons_zero, List.set_cons_succ];exact stepF_val (by first | rfl | simp [Region.wanted, yielded, *]) (by go_simp <;> omega) ⟨rfl, rfl⟩
    ·refine one_special rfl fun v x hR hpre hk => ?_
     have h0 : v 0 = u9 := hk 0 (by kernel_rfl) (by decide);have h8 : v 8 = .slice X1 yb.length n1 := hk 8 (by kernel_rfl) (by decide);simp only [List.take_succ_cons, List.take_zero, frameF, Act.put, List.setIfInBounds_toArray, List.set_cons_zero, List.set_cons_succ];refine stepF_appA strE tyStrs (by rfl) _ _ rfl hpre (HSY.out x (hbr.trans hR)) rfl (by simpa [go_sem] using h0) (by simpa [go_sem] using h8) (Nat.le_trans hbr.size hR.size) (by have := HLEN.out; unfold big; omega) ?_;intro v' w' ho hb _;exact ⟨ho, hR.trans hb⟩
    ·refine one_plain (by decide) fun v x hR hk => ?_
     simp only [List.take_succ_cons, List.take_zero, frameF, Act.put, List.setIfInBounds_toArray, List.set_cons_zero, List.set_cons_succ];exact stepF_val (by first | rfl | simp [Region.wanted, yielded, *]) (by go_simp <;> omega) ⟨rfl, rfl⟩
    ·refine one_plain (by decide) fun v x hR hk => ?_
     simp only [List.take_succ_cons, List.take_zero, frameF, Act.put, List.setIfInBounds_toArray, List.set_cons_zero, List.set_cons_succ];exact stepF_val (by first | rfl | simp [Region.wanted, yielded, *]) (by go_simp <;> omega) ⟨rfl, rfl⟩
    ·refine one_plain (by decide) fun v x hR hk => ?_
     have h10 : v 10 = .slice (some ⟨bv, ov, none⟩) vs.length c' := hk 10 (by kernel_rfl) (by decide);have h11 : v 11 = iv (k : Int) := hk 11 (by kernel_rfl) (by decide);simp only [List.take_succ_cons, List.take_zero, frameF, Act.put, List.setIfInBounds_toArray, List.set_cons_zero, List.set_cons_succ];exact stepF_val (by first | rfl | simp [Region.wanted, yielded, *]) (by go_simp <;> omega) ⟨rfl, rfl⟩
    ·refine one_plain (by decide) fun v x hR hk => ?_
     have h12 : v 12 = .pointer (some ⟨bv, ov + k * 3, none⟩) := hk 12 (by kernel_rfl) (by decide);simp only [List.take_succ_cons, List.take_zero, frameF, Act.put, List.setIfInBounds_toArray, List.set_cons_zero, List.set_cons_succ];exact stepF_val (by first | rfl | simp [Region.wanted, yielded, *]) (by go_simp <;> omega) ⟨rfl, rfl⟩
    ·refine one_plain (by decide) fun v x hR hk => ?_
     have h13 : v 13 = .pointer (some ⟨bv, ov + k * 3 + 2, none⟩) := hk 13 (by kernel_rfl) (by decide);have g1 := (HCY.out x (hbr.trans hR)).2.2;simp only [List.take_succ_cons, List.take_zero, frameF, Act.put, List.setIfInBounds_toArray, List.set_cons_zero, List.set_cons_succ];exact stepF_val (by first | rfl | simp [Region.wanted, yielded, *]) (by go_simp <;> omega) ⟨rfl, rfl⟩
   ·intro v x1 hR hpost hall;have h14 : v 14 = .slice yA' yn.length yc' := hall 14 (by decide) (by decide);clear hall;simp only [List.drop_succ_cons, List.drop_zero, List.take_succ_cons, List.take_zero, frameF, Act.put, List.setIfInBounds_toArray, List.set_cons_zero, List.set_cons_succ, Nat.zero_add, Nat.reduceAdd, h14];generalize v 9 = vSp at *;have hb0x := hbr.trans hR
    go_wp2_with (at_builtin; refine wpAppS strE tyStrs rfl _ _ rfl hpost (HYN.out _ hb0x) rfl rfl hb0x.size (by rw [List.length_append]; have := HLEN.out; unfold big; omega) ?_; intro v3 w2 hown3 hb3 hk3)
    have hb02 := hb0x.trans hb3;have HO3 := lH hown3;clear hown3 hk3 hb3 hpost hb0x hR hC1
    go_upto_region 7 with fail
    refine wfl 13 (fun nR x => Below w2.heap.size w2 x) (fun x x' => Below x.heap.size x x')
     [eqv (.slice (some ⟨bv, ov, none⟩) vs.length c'),
      eqv (iv (k : Int)),
      eqv (.pointer (some ⟨bv, ov + k * 3, none⟩)),
      eqv (.pointer (some ⟨bv, ov + k * 3, none⟩)),
      eqv (iv (n : Int)),
      eqv (.slice (some ⟨bv, ov, none⟩) vs.length c'),
      eqv (iv (k : Int)),
      eqv (.pointer (some ⟨bv, ov + k * 3, none⟩)),
      eqv (.pointer (some ⟨bv, ov + k * 3 + 1, none⟩)),
      eqv (.slice yA yo.length yc),
      eqv (iv (yo.length : Int)),
      eqv (iv ((n : Int) + (yo.length : Int))),
      eqv (iv ((n : Int) + (yo.length : Int)))]
     (Below.refl _ w2).drew ?_ ?_
    ·simp only [List.take_succ_cons, List.take_zero, HopL]
     repeat' apply And.intro
     ·refine fvr fun x hR kk rr _ => ?_
      have := rho0 rr 1;clear rr kk;exact ev0
     ·refine fvr fun x hR kk rr _ => ?_
      have := rho0 rr 11;clear rr kk;exact ev0
     ·refine fvr fun x hR kk rr _ => ?_
      have := rho rr 35 (kk.at 0);have := rho rr 36 (kk.at 1);clear rr kk;exact ev0
     ·refine fvr fun x hR kk rr _ => ?_
      have := rho rr 37 (kk.at 2);clear rr kk;exact ev0
     ·refine fvr fun x hR kk rr _ => ?_
      have := rho rr 38 (kk.at 3);clear rr kk;have g1 := (HCY.out x (hb02.next hR nL)).1;exact ev0
     ·refine fvr fun x hR kk rr _ => ?_
      have := rho0 rr 1;clear rr kk;exact ev0
     ·refine fvr fun x hR kk rr _ => ?_
      have := rho0 rr 11;clear rr kk;exact ev0
     ·refine fvr fun x hR kk rr _ => ?_
      have := rho rr 40 (kk.at 5);have := rho rr 41 (kk.at 6);clear rr kk;exact ev0
     ·refine fvr fun x hR kk rr _ => ?_
      have := rho rr 42 (kk.at 7);clear rr kk;exact ev0
     ·refine fvr fun x hR kk rr _ => ?_
      have := rho rr 43 (kk.at 8);clear rr kk;have g1 := (HCY.out x (hb02.next hR nL)).2.1;exact ev0
     ·refine fvr fun x hR kk rr _ => ?_
      have := rho rr 44 (kk.at 9);clear rr kk;exact ev0
     ·refine fvr fun x hR kk rr _ => ?_
      have := rho rr 39 (kk.at 4);have := rho rr 45 (kk.at 10);clear rr kk;exact ev0
     ·refine fvr fun x hR kk rr _ => ?_
      have := rho rr 46 (kk.at 11);clear rr kk;exact ev0
     ·trivial
    ·intro v nR x4 hnR hR hall;have h12 : v 12 = iv ((n : Int) + (yo.length : Int)) := hall 12 (by decide);clear hall hnR;simp only [List.drop_succ_cons, List.drop_zero, List.take_succ_cons, List.take_zero, frameF, Act.put, List.setIfInBounds_toArray, List.set_cons_zero, List.set_cons_succ, Nat.zero_add, Nat.reduceAdd, h12];have hb04 := hb02.next hR nL;have HO4 := lH (HO3.out.below hR);(go_wp2_with fail);go_roundw
     case rel => exact ⟨k + 1, n + yo.length, (out ++ yb) ++ yn, by omega, by omega, by go_num, by go_num, HR2, HC3, HO4, hb04⟩
     case measure => simp [intOf]; omega
   ·exact HO.out.below (Below.refl _ wr).drew
  ·have hki : ¬ (k : Int) < (vs.length : Int) := (by omega);have hr := HR.out;rw [List.drop_eq_nil_of_le (by rw [List.length_map]; omega), File.hasGo] at hr;obtain ⟨X1, n1, yb, hyb, hybl, _, hsy, hC1⟩ := cut_run' (i := p) (x := hi) hac hp hh (hsa.below hbr);rw [← hyb] at hr;have HR2 := lH hr;have hol : out.length ≤ 2000 := by have := congrArg List.length hr; rw [List.length_append] at this; omega
   clear hr HR hyb
   go_wp2_with (at_builtin; refine wpAppS strE tyStrs rfl _ _ rfl HO.out hsy rfl rfl hbr.size (by unfold big; omega) ?_; intro v3 w2 hown3 hb3 hk3)
   go_ret;exact ⟨_, rfl, by rw [← HR2.out]; exact hown3, hbr.trans hb3⟩
end Fl
end
section
namespace File
def rowsOf (c : List (Edit ByteArray)) : List (List ByteArray) := c.flatMap fun x => [x.old, x.new]
theorem rows_lines (c : List (Edit ByteArray)) : (rowsOf c).flatMap id = allLines c := by
 induction c with
 | nil => rfl
 | cons x c ih =>
  unfold rowsOf allLines at ih ⊢;rw [List.flatMap_cons, List.flatMap_append, ih, List.flatMap_cons];simp
theorem worst_snoc (l : List (List ByteArray)) (x : List ByteArray) : worst (l ++ [x]) = worse (worst l) (lined x) := by unfold worst; rw [List.foldl_append]; rfl
theorem lined_cases (l : List ByteArray) : lined l = 0 ∨ lined l = 10 ∨ lined l = 11 := by unfold lined; split <;> (try split) <;> simp
theorem ordered_take : ∀ {c : List (Edit ByteArray)} {k : Nat} {x y : Edit ByteArray}, c[k]? = some x → c[k + 1]? = some y → ordered (c.take (k + 2)) = (ordered (c.take (k + 1)) && !decide (y.at_ ≤ x.at_ + (x.old.length : Int)))
 | [], _, _, _, h, _ => by simp at h
 | [_], 0, _, _, _, h => by simp at h
 | [_], k + 1, _, _, h, _ => by simp at h
 | a :: b :: r, 0, x, y, h1, h2 => by
  simp at h1 h2;subst h1 h2;simp [ordered]
 | a :: b :: r, k + 1, x, y, h1, h2 => by
  have ih := ordered_take (c := b :: r) (k := k) (x := x) (y := y) (by simpa using h1) (by simpa using h2);simp only [List.take_succ_cons] at ih ⊢;unfold ordered;rw [ih, Bool.and_assoc]
theorem ordered_false : ∀ {c : List (Edit ByteArray)} {k : Nat} {x y : Edit ByteArray}, c[k]? = some x → c[k + 1]? = some y → y.at_ ≤ x.at_ + (x.old.length : Int) → ordered c = false
 | [], _, _, _, h, _, _ => by simp at h
 | [_], 0, _, _, _, h, _ => by simp at h
 | [_], k + 1, _, _, h, _, _ => by simp at h
 | a :: b :: r, 0, x, y, h1, h2, h => by
  simp at h1 h2;subst h1 h2;simp [ordered, h]
 | a :: b :: r, k + 1, x, y, h1, h2, h => by
  unfold ordered;rw [ordered_false (c := b :: r) (k := k) (x := x) (y := y) (by simpa using h1) (by simpa using h2) h, Bool.and_false]
theorem ordered_one {c : List (Edit ByteArray)} (h : c.length ≤ 1) : ordered c = true := by
 match c, h with
 | [], _ => rfl
 | [_], _ => rfl
 | _ :: _ :: _, h => simp at h
theorem all_false {α : Type} {p : α → Bool} {c : List α} {k : Nat} {x : α} (h : c[k]? = some x) (hp : p x = false) : c.all p = false := by
 cases hc : c.all p with
 | false => rfl
 | true => exact absurd (List.all_eq_true.1 hc x (List.mem_of_getElem? h)) (by rw [hp]; decide)
theorem all_take {α : Type} {p : α → Bool} {c : List α} {k : Nat} {x : α} (h : c[k]? = some x) (ht : (c.take k).all p = true) (hp : p x = true) : (c.take (k + 1)).all p = true := by
 obtain ⟨hk, rfl⟩ := List.getElem?_eq_some_iff.1 h;rw [List.take_succ_eq_append_getElem hk, List.all_append, ht];simp [hp]
end File
namespace Fl
open Go.RowKit
set_option maxHeartbeats 8000000 in
theorem rcc_spec (A : Option Addr) (vs : List EdV) (c : Nat) (w : World) (hm : vs.length ≤ 1000) (hs : Sl edE w A vs) (hok : ∀ r ∈ vs, EdOk w r) (hb1 : ∀ r ∈ vs, r.old.length ≤ big ∧ r.new.length ≤ big) :
  Calls Tryz.prog 49 #[.slice A vs.length c] w fun e w' => e = .returned (iv (File.checkChange (vs.map EdV.ed))) ∧ Below w.heap.size w w' := by
 obtain ⟨C, hC⟩ : ∃ C, C = vs.map EdV.ed := ⟨_, rfl⟩;have HC := lH hC;obtain ⟨ans, hans⟩ : ∃ ans, ans = File.checkChange C := ⟨_, rfl⟩;rw [← hC, ← hans];have HA := lH hans;have HAT : Hid (∀ (k : Nat) (r : EdV), vs[k]? = some r → C[k]? = some r.ed) := lH fun k r h => by rw [hC, List.getElem?_map, h]; rfl
 have HCL : Hid (C.length = vs.length) := lH (by rw [hC, List.length_map]);have HB : Hid (∀ r ∈ vs, r.old.length ≤ big ∧ r.new.length ≤ big) := lH hb1;have HOK := lH hok;unfold big at HB;clear hans hC hb1 hok
 go_enter Tryz.func49, Tryz.ntmps49
 (go_wp2_with fail)
 go_loopw [3] (fun v wr => ∃ k : Nat, k ≤ vs.length ∧ v = iv (k : Int) ∧ Hid ((C.take k).all File.atOk = true) ∧ w = wr) (fun v _ => vs.length - (intOf v).toNat)
 case atStart => exact ⟨0, Nat.zero_le _, rfl, rfl, rfl⟩
 case round =>
  obtain ⟨k, hk, rfl, HK, rfl⟩ := hrel
  by_cases hlt : k < vs.length
  ·have hki : (k : Int) < (vs.length : Int) := (by omega);obtain ⟨b, o, r, rfl, hb, hr, hc0, _, _⟩ := Sl.atEd hs hlt;have HE := lH (HAT.out k r hr);clear hr
   by_cases h0 : r.at_ < 0
   ·have hF : Hid (ans = 3) := lH (by
     rw [HA.out]; unfold File.checkChange;rw [File.all_false HE.out (by unfold File.atOk File.inr; rw [decide_eq_false (show ¬ 0 ≤ r.ed.at_ from (by show ¬ 0 ≤ r.at_; omega))]; rfl)]; rfl)
    (go_wp2_with fail);go_ret;exact ⟨ret_eq (by rw [hF.out]; rfl), rB⟩
   ·by_cases h24 : r.at_ > 24
    ·have hF : Hid (ans = 3) := lH (by
      rw [HA.out]; unfold File.checkChange;rw [File.all_false HE.out (by unfold File.atOk File.inr; rw [decide_eq_false (show ¬ r.ed.at_ ≤ 24 from (by show ¬ r.at_ ≤ 24; omega)), Bool.and_false])]; rfl)
     (go_wp2_with fail);go_ret;exact ⟨ret_eq (by rw [hF.out]; rfl), rB⟩
    ·have HK2 : Hid ((C.take (k + 1)).all File.atOk = true) := lH (File.all_take HE.out HK.out (by unfold File.atOk File.inr; rw [decide_eq_true (show 0 ≤ r.ed.at_ from (by show 0 ≤ r.at_; omega)), decide_eq_true (show r.ed.at_ ≤ 24 from (by show r.at_ ≤ 24; omega))]; rfl));(go_wp2_with fail);go_roundw
     case rel => exact ⟨k + 1, by omega, by go_num, HK2, trivial⟩
     case measure => simp [intOf]; omega
  ·have hki : ¬ (k : Int) < (vs.length : Int) := (by omega);have HAO : Hid (C.all File.atOk = true) := lH (by have := HK.out; rwa [List.take_of_length_le (by rw [HCL.out]; omega)] at this);clear HK;(go_wp2_with fail)
   go_loopw [4] (fun v wx => ∃ k : Nat, k ≤ vs.length ∧ v = iv (k : Int) ∧ Hid ((C.take k).all File.szOk = true) ∧ Below w.heap.size w wx) (fun v _ => vs.length - (intOf v).toNat)
   case atStart => exact ⟨0, Nat.zero_le _, rfl, rfl, rB⟩
   case round =>
    obtain ⟨k, hk, rfl, HK, hbx⟩ := hrel
    by_cases hlt2 : k < vs.length
    ·have hki2 : (k : Int) < (vs.length : Int) := (by omega);obtain ⟨b, o, r, hAb, hb, hr, hc0, hc1, hc2⟩ := Sl.atEd (hs.below hbx) hlt2;subst hAb;have HE := lH (HAT.out k r hr);have hrb := HB.out r (mem_at hr);clear hr;have ew : IntKind.i64.wrap ((r.old.length : Int) + (r.new.length : Int)) = (r.old.length : Int) + (r.new.length : Int) := IntWalk.i64_in _ (by omega)
     go_upto_region 10 with fail
     have hbB : Below wr.heap.size wr (wr.alloc (.cells #[Value.int .i64 r.at_, .slice r.A r.old.length r.c, .slice r.A' r.new.length r.c'] 152)) := rB.alloc nL _;have hB : Blk (wr.alloc (.cells #[Value.int .i64 r.at_, .slice r.A r.old.length r.c, .slice r.A' r.new.length r.c'] 152)) wr.heap.size 152 #[iv r.at_, .slice r.A r.old.length r.c, .slice r.A' r.new.length r.c'] := Blk.new _ _ _;generalize wr.alloc (.cells #[Value.int .i64 r.at_, .slice r.A r.old.length r.c, .slice r.A' r.new.length r.c'] 152) = wb at *;have hbb := hbx.next hbB nL;have r0 := hB.cell 0;have r1 := hB.cell 1;have r2 := hB.cell 2;have r3 := hB.lt;clear hbB hB hc0 hc1 hc2 hb;generalize wr.heap.size = gP at *;have HSZ : Hid (File.szOk r.ed = (decide (r.old.length ≤ 24) && (decide (r.new.length ≤ 24) && decide (0 < r.old.length + r.new.length)))) := rfl
     by_cases hg1 : (r.old.length : Int) > 24
     ·have hF : Hid (ans = 2) := lH (by
       rw [HA.out]; unfold File.checkChange;rw [if_pos HAO.out, File.all_false HE.out (by rw [HSZ.out, decide_eq_false (by omega)]; rfl)]; rfl)
      (go_wp2_with fail);go_ret;exact ⟨ret_eq (by rw [hF.out]; rfl), hbb⟩
     ·by_cases hg2 : (r.new.length : Int) > 24
      ·have hF : Hid (ans = 2) := lH (by
        rw [HA.out]; unfold File.checkChange;rw [if_pos HAO.out, File.all_false HE.out (by rw [HSZ.out, decide_eq_false (show ¬ r.new.length ≤ 24 by omega), Bool.false_and, Bool.and_false])]; rfl)
       (go_wp2_with fail);go_ret;exact ⟨ret_eq (by rw [hF.out]; rfl), hbb⟩
      ·by_cases hg3 : r.old.length + r.new.length = 0
       ·have hF : Hid (ans = 2) := lH (by
         rw [HA.out]; unfold File.checkChange;rw [if_pos HAO.out, File.all_false HE.out (by rw [HSZ.out, decide_eq_false (show ¬ 0 < r.old.length + r.new.length by omega), Bool.and_false, Bool.and_false])]; rfl)
        have hz : ((r.old.length : Int) + (r.new.length : Int) == 0) = true := by rw [beq_iff_eq]; omega
        have hz2 : (r.old.length : Int) + (r.new.length : Int) = 0 := (by omega);have ho0 : r.old.length = 0 := (by omega);have hn0 : r.new.length = 0 := (by omega);clear hg3;(go_wp2_with fail);go_ret;exact ⟨ret_eq (by rw [hF.out]; rfl), hbb⟩
       ·have hz : ((r.old.length : Int) + (r.new.length : Int) == 0) = false := by rw [beq_eq_false_iff_ne]; omega
        have hz2 : ¬ (r.old.length : Int) + (r.new.length : Int) = 0 := (by omega);have HK2 : Hid ((C.take (k + 1)).all File.szOk = true) := lH (File.all_take HE.out HK.out (by rw [HSZ.out, decide_eq_true (by omega), decide_eq_true (by omega), decide_eq_true (by omega)]; rfl));(go_wp2_with fail);go_roundw
        case rel => exact ⟨k + 1, by omega, by go_num, HK2, hbb⟩
        case measure => simp [intOf]; omega
    ·have hki2 : ¬ (k : Int) < (vs.length : Int) := (by omega);have HSO : Hid (C.all File.szOk = true) := lH (by have := HK.out; rwa [List.take_of_length_le (by rw [HCL.out]; omega)] at this);clear HK;(go_wp2_with fail);have HW0 : Hid ((0 : Int) = File.worst (File.rowsOf (C.take 0))) := rfl
     go_loopw [6, 7] (fun v6 v7 wy => ∃ (k : Nat) (e : Int), k ≤ vs.length ∧ v7 = iv (k : Int) ∧ v6 = iv e ∧ Hid (e = File.worst (File.rowsOf (C.take k))) ∧ Below w.heap.size w wy) (fun _ v7 _ => vs.length - (intOf v7).toNat)
     case atStart => exact ⟨0, 0, Nat.zero_le _, rfl, rfl, HW0, hbx⟩
     case round =>
      clear hbx HW0 hki2;obtain ⟨k, e, hk, rfl, rfl, HE, hby⟩ := hrel
      by_cases hlt3 : k < vs.length
      ·have hki3 : (k : Int) < (vs.length : Int) := (by omega);obtain ⟨b, o, r, hAb, hb, hr, hc0, hc1, hc2⟩ := Sl.atEd hs hlt3;subst hAb;have HR := lH (HAT.out k r hr);have HCY : Hid (∀ W, Below w.heap.size w W → W.cell? ⟨b, o + k * 3 + 1, none⟩ = some (.slice r.A r.old.length r.c) ∧ W.cell? ⟨b, o + k * 3 + 2, none⟩ = some (.slice r.A' r.new.length r.c')) := lH fun W h => (Sl.cellEd hs hr W h).2
       have HL1 : Hid (∀ W, Below w.heap.size w W → Calls Tryz.prog 87 #[.slice r.A r.old.length r.c] W fun e w' => e = .returned (iv (File.lined r.old)) ∧ Below W.heap.size W w') := lH fun W h => rlines_spec r.A r.old r.c W (by have := HB.out r (mem_at hr); unfold big; omega) ((HOK.out r (mem_at hr)).old.below h)
       have HL2 : Hid (∀ W, Below w.heap.size w W → Calls Tryz.prog 87 #[.slice r.A' r.new.length r.c'] W fun e w' => e = .returned (iv (File.lined r.new)) ∧ Below W.heap.size W w') := lH fun W h => rlines_spec r.A' r.new r.c' W (by have := HB.out r (mem_at hr); unfold big; omega) ((HOK.out r (mem_at hr)).new.below h)
       have HTK : Hid (File.rowsOf (C.take (k + 1)) = File.rowsOf (C.take k) ++ [r.old, r.new]) := lH (by
        obtain ⟨hk2, hce⟩ := List.getElem?_eq_some_iff.1 HR.out;unfold File.rowsOf;rw [List.take_succ_eq_append_getElem hk2, List.flatMap_append, hce]; rfl)
       clear hr hc0 hc1 hc2;have HE0 : Hid (e = File.worst (File.rowsOf (C.take k) ++ [r.old, r.new].take 0)) := lH (by rw [HE.out]; simp);(go_wp2_with fail)
       go_loopw [6, 8] (fun v6 v8 wz => ∃ (t : Nat) (e : Int), t ≤ 2 ∧ v8 = iv (t : Int) ∧ v6 = iv e ∧ Hid (e = File.worst (File.rowsOf (C.take k) ++ [r.old, r.new].take t)) ∧ Below w.heap.size w wz) (fun _ v8 _ => 2 - (intOf v8).toNat)
       case atStart => exact ⟨0, e, by omega, rfl, rfl, HE0, hby⟩
       case round =>
        clear hby HE0 HE;obtain ⟨t, e, ht, rfl, rfl, HE, hbz⟩ := hrel;obtain ⟨hc1, hc2⟩ := HCY.out wr hbz;have hbl : b < wr.heap.size := Nat.lt_of_lt_of_le hb hbz.size
        by_cases ht0 : t = 0
        ·subst ht0;have HN : Hid (File.worst (File.rowsOf (C.take k) ++ [r.old, r.new].take (0 + 1)) = File.worse e (File.lined r.old)) := lH (by rw [HE.out, show [r.old, r.new].take (0 + 1) = [r.old] from rfl, File.worst_snoc]; simp);(go_wp2_with fail);refine (HL1.out wr hbz).mono ?_;rintro e1 w2 ⟨rfl, hb2⟩;have hbz2 := hbz.next hb2 nL;have hlc := File.lined_cases r.old;obtain ⟨n, hn⟩ : ∃ n, n = File.lined r.old := ⟨_, rfl⟩;rw [← hn] at HN hlc;rw [← hn];have HN2 := HN.out;clear hn hc1 hc2 HN
         rcases hlc with rfl | rfl | rfl
         ·have HN3 := lH (HN2.trans (show File.worse e 0 = e from rfl)).symm;clear HN2;(go_wp2_with fail);go_roundw
          case rel => exact ⟨1, e, by omega, by go_num, rfl, HN3, hbz2⟩
          case measure => simp [intOf]
         ·have HN3 := lH (HN2.trans (show File.worse e 10 = 10 from rfl)).symm;clear HN2;(go_wp2_with fail);go_roundw
          case rel => exact ⟨1, 10, by omega, by go_num, rfl, HN3, hbz2⟩
          case measure => simp [intOf]
         ·by_cases he0 : e = 0
          ·have HN3 := lH (HN2.trans (show File.worse e 11 = 11 by unfold File.worse; rw [if_neg (by decide), if_pos ⟨rfl, he0⟩])).symm;clear HN2;have he1 : (e == 0) = true := by rw [he0]; rfl
           (go_wp2_with fail);go_roundw
           case rel => exact ⟨1, 11, by omega, by go_num, rfl, HN3, hbz2⟩
           case measure => simp [intOf]
          ·have HN3 := lH (HN2.trans (show File.worse e 11 = e by unfold File.worse; rw [if_neg (by decide), if_neg (fun h => he0 h.2)])).symm;clear HN2;have he1 : (e == 0) = false := by rw [beq_eq_false_iff_ne]; exact he0
           (go_wp2_with fail);go_roundw
           case rel => exact ⟨1, e, by omega, by go_num, rfl, HN3, hbz2⟩
           case measure => simp [intOf]
        ·by_cases ht1 : t = 1
         ·subst ht1;have HN : Hid (File.worst (File.rowsOf (C.take k) ++ [r.old, r.new].take (1 + 1)) = File.worse e (File.lined r.new)) := lH (by rw [HE.out, show [r.old, r.new].take (1 + 1) = [r.old] ++ [r.new] from rfl, ← List.append_assoc, File.worst_snoc]; rfl);clear ht0;(go_wp2_with fail);refine (HL2.out wr hbz).mono ?_;rintro e1 w2 ⟨rfl, hb2⟩;have hbz2 := hbz.next hb2 nL;have hlc := File.lined_cases r.new;obtain ⟨n, hn⟩ : ∃ n, n = File.lined r.new := ⟨_, rfl⟩;rw [← hn] at HN hlc;rw [← hn];have HN2 := HN.out;clear hn hc1 hc2 HN
          rcases hlc with rfl | rfl | rfl
          ·have HN3 := lH (HN2.trans (show File.worse e 0 = e from rfl)).symm;clear HN2;(go_wp2_with fail);go_roundw
           case rel => exact ⟨2, e, by omega, by go_num, rfl, HN3, hbz2⟩
           case measure => simp [intOf]
          ·have HN3 := lH (HN2.trans (show File.worse e 10 = 10 from rfl)).symm;clear HN2;(go_wp2_with fail);go_roundw
           case rel => exact ⟨2, 10, by omega, by go_num, rfl, HN3, hbz2⟩
           case measure => simp [intOf]
          ·by_cases he0 : e = 0
           ·have HN3 := lH (HN2.trans (show File.worse e 11 = 11 by unfold File.worse; rw [if_neg (by decide), if_pos ⟨rfl, he0⟩])).symm;clear HN2;have he1 : (e == 0) = true := by rw [he0]; rfl
            (go_wp2_with fail);go_roundw
            case rel => exact ⟨2, 11, by omega, by go_num, rfl, HN3, hbz2⟩
            case measure => simp [intOf]
           ·have HN3 := lH (HN2.trans (show File.worse e 11 = e by unfold File.worse; rw [if_neg (by decide), if_neg (fun h => he0 h.2)])).symm;clear HN2;have he1 : (e == 0) = false := by rw [beq_eq_false_iff_ne]; exact he0
            (go_wp2_with fail);go_roundw
            case rel => exact ⟨2, e, by omega, by go_num, rfl, HN3, hbz2⟩
            case measure => simp [intOf]
         ·have ht2 : t = 2 := (by omega);subst ht2;have HE3 : Hid (e = File.worst (File.rowsOf (C.take (k + 1)))) := lH (by rw [HTK.out]; exact HE.out);clear ht0 ht1 HE hc1 hc2;(go_wp2_with fail);go_roundw
          case rel => exact ⟨k + 1, e, by omega, by go_num, rfl, HE3, hbz⟩
          case measure => simp [intOf]; omega
      ·have hki3 : ¬ (k : Int) < (vs.length : Int) := (by omega)
       have HWE : Hid (e = File.lined (File.allLines C)) := lH (by
        have := HE.out
        rwa [List.take_of_length_le (by rw [HCL.out]; omega), File.worst_eq, File.rows_lines] at this)
       by_cases he0 : e = 0
       ·subst he0
        have HAN : Hid (ans = if File.ordered C then 0 else 4) := lH (by
         rw [HA.out]; unfold File.checkChange;rw [if_pos HAO.out, if_pos HSO.out, if_pos HWE.out.symm])
        have HO1 : Hid (File.ordered (C.take 1) = true) := lH (File.ordered_one (by simp; omega));clear HE HWE;(go_wp2_with fail)
        go_loopw [11] (fun v wz => ∃ k j : Nat, k = j + 1 ∧ j ≤ vs.length ∧ v = iv (k : Int) ∧ Hid (File.ordered (C.take k) = true) ∧ Below w.heap.size w wz) (fun v _ => vs.length + 1 - (intOf v).toNat)
        case atStart => exact ⟨1, 0, rfl, Nat.zero_le _, rfl, HO1, hby⟩
        case round =>
         clear hby HO1;obtain ⟨k, j, hkj, hj, rfl, HO, hbz⟩ := hrel
         by_cases hlt5 : k < vs.length
         ·have hki5 : (k : Int) < (vs.length : Int) := (by omega);obtain ⟨b, o, z, hAb, hb, hx, _, _, _⟩ := Sl.atEd hs (show j < vs.length by omega);subst hAb;obtain ⟨b', o', y, hAb, _, hy, _, _, _⟩ := Sl.atEd hs hlt5;injection hAb with hAb;injection hAb with e1 e2 _;subst e1 e2;have HCX : Hid (∀ W, Below w.heap.size w W → W.cell? ⟨b, o + j * 3, none⟩ = some (iv z.at_) ∧ W.cell? ⟨b, o + j * 3 + 1, none⟩ = some (.slice z.A z.old.length z.c) ∧ W.cell? ⟨b, o + k * 3, none⟩ = some (iv y.at_)) := lH fun W h => ⟨(Sl.cellEd hs hx W h).1, (Sl.cellEd hs hx W h).2.1, (Sl.cellEd hs hy W h).1⟩
          have HX := lH (HAT.out j z hx);have HY : Hid (C[j + 1]? = some y.ed) := lH (by rw [← hkj]; exact HAT.out k y hy);have hxb := HB.out z (mem_at hx)
          have hxa : -1 ≤ z.at_ ∧ z.at_ ≤ 24 := by
           have := List.all_eq_true.1 HAO.out z.ed (List.mem_of_getElem? HX.out);unfold File.atOk File.inr at this;rw [Bool.and_eq_true, decide_eq_true_eq, decide_eq_true_eq] at this;have h1 : 0 ≤ z.at_ := this.1;have h2 : z.at_ ≤ 24 := this.2;omega
          have ewk : IntKind.i64.wrap ((k : Int) - 1) = (j : Int) := by rw [show (k : Int) - 1 = (j : Int) by omega]; exact IntWalk.i64_in _ (by omega)
          have ews : IntKind.i64.wrap (z.at_ + (z.old.length : Int)) = z.at_ + (z.old.length : Int) := IntWalk.i64_in _ (by omega);have hji : (j : Int) < (vs.length : Int) := (by omega);obtain ⟨q, hq⟩ : ∃ q, decide (y.at_ ≤ z.at_ + (z.old.length : Int)) = q := ⟨_, rfl⟩;have HQ := lH hq;have HKJ := lH hkj;have hkj2 : k ≤ j + 1 := (by omega);clear hx hy hkj
          go_upto_region 30 with fail
          refine wfl 20 (fun nR x => Below wr.heap.size wr x) (fun x x' => Below x.heap.size x x')
           [eqv (.slice (some ⟨b, o, none⟩) vs.length c),
            eqv (iv (k : Int)),
            eqv (.pointer (some ⟨b, o + k * 3, none⟩)),
            eqv (.pointer (some ⟨b, o + k * 3, none⟩)),
            eqv (iv y.at_),
            eqv (.slice (some ⟨b, o, none⟩) vs.length c),
            eqv (iv (k : Int)),
            eqv (iv (j : Int)),
            eqv (.pointer (some ⟨b, o + j * 3, none⟩)),
            eqv (.pointer (some ⟨b, o + j * 3, none⟩)),
            eqv (iv z.at_),
            eqv (.slice (some ⟨b, o, none⟩) vs.length c),
            eqv (iv (k : Int)),
            eqv (iv (j : Int)),
            eqv (.pointer (some ⟨b, o + j * 3, none⟩)),
            eqv (.pointer (some ⟨b, o + j * 3 + 1, none⟩)),
            eqv (.slice z.A z.old.length z.c),
            eqv (iv (z.old.length : Int)),
            eqv (iv (z.at_ + (z.old.length : Int))),
            eqv (.bool q)]
           (Below.refl _ wr).drew ?_ ?_
          ·simp only [List.take_succ_cons, List.take_zero, HopL]
           repeat' apply And.intro
           ·refine fvr fun x hR kk rr _ => ?_
            have := rho0 rr 0;clear rr kk;exact ev0
           ·refine fvr fun x hR kk rr _ => ?_
            have := rho0 rr 11;clear rr kk;exact ev0
           ·refine fvr fun x hR kk rr _ => ?_
            have := rho rr 106 (kk.at 0);have := rho rr 107 (kk.at 1);clear rr kk;exact ev0
           ·refine fvr fun x hR kk rr _ => ?_
            have := rho rr 108 (kk.at 2);clear rr kk;exact ev0
           ·refine fvr fun x hR kk rr _ => ?_
            have := rho rr 109 (kk.at 3);clear rr kk;have g1 := (HCX.out x (hbz.next hR nL)).2.2;exact ev0
           ·refine fvr fun x hR kk rr _ => ?_
            have := rho0 rr 0;clear rr kk;exact ev0
           ·refine fvr fun x hR kk rr _ => ?_
            have := rho0 rr 11;clear rr kk;exact ev0
           ·refine fvr fun x hR kk rr _ => ?_
            have := rho rr 112 (kk.at 6);clear rr kk;exact ev0
           ·refine fvr fun x hR kk rr _ => ?_
            have := rho rr 111 (kk.at 5);have := rho rr 113 (kk.at 7);clear rr kk;exact ev0
           ·refine fvr fun x hR kk rr _ => ?_
            have := rho rr 114 (kk.at 8);clear rr kk;exact ev0
           ·refine fvr fun x hR kk rr _ => ?_
            have := rho rr 115 (kk.at 9);clear rr kk;have g1 := (HCX.out x (hbz.next hR nL)).1;exact ev0
           ·refine fvr fun x hR kk rr _ => ?_
            have := rho0 rr 0;clear rr kk;exact ev0
           ·refine fvr fun x hR kk rr _ => ?_
            have := rho0 rr 11;clear rr kk;exact ev0
           ·refine fvr fun x hR kk rr _ => ?_
            have := rho rr 118 (kk.at 12);clear rr kk;exact ev0
           ·refine fvr fun x hR kk rr _ => ?_
            have := rho rr 117 (kk.at 11);have := rho rr 119 (kk.at 13);clear rr kk;exact ev0
           ·refine fvr fun x hR kk rr _ => ?_
            have := rho rr 120 (kk.at 14);clear rr kk;exact ev0
           ·refine fvr fun x hR kk rr _ => ?_
            have := rho rr 121 (kk.at 15);clear rr kk;have g1 := (HCX.out x (hbz.next hR nL)).2.1;exact ev0
           ·refine fvr fun x hR kk rr _ => ?_
            have := rho rr 122 (kk.at 16);clear rr kk;exact ev0
           ·refine fvr fun x hR kk rr _ => ?_
            have := rho rr 116 (kk.at 10);have := rho rr 123 (kk.at 17);clear rr kk;exact ev0
           ·refine fvr fun x hR kk rr _ => ?_
            have := rho rr 110 (kk.at 4);have := rho rr 124 (kk.at 18);clear rr kk;exact ev0
           ·trivial
          ·intro v nR x1 hnR hR hall;have h19 : v 19 = .bool q := hall 19 (by decide);clear hall hnR;simp only [List.drop_succ_cons, List.drop_zero, List.take_succ_cons, List.take_zero, frameF, Act.put, List.setIfInBounds_toArray, List.set_cons_zero, List.set_cons_succ, Nat.zero_add, Nat.reduceAdd, h19];have hbz2 := hbz.next hR nL;clear hq hR hbz
           cases q
           ·have HO2 : Hid (File.ordered (C.take (k + 1)) = true) := lH (by
             rw [HKJ.out, File.ordered_take HX.out HY.out, ← HKJ.out, HO.out, show decide (y.ed.at_ ≤ z.ed.at_ + (z.ed.old.length : Int)) = false from HQ.out]; rfl)
            (go_wp2_with fail);go_roundw
            case rel => exact ⟨k + 1, k, rfl, by omega, by go_num, HO2, hbz2⟩
            case measure => simp [intOf]; omega
           ·have hF : Hid (ans = 4) := lH (by
             rw [HAN.out, File.ordered_false HX.out HY.out (of_decide_eq_true (show decide (y.ed.at_ ≤ z.ed.at_ + (z.ed.old.length : Int)) = true from HQ.out))]; rfl)
            (go_wp2_with fail);go_ret;exact ⟨ret_eq (by rw [hF.out]; rfl), hbz2⟩
         ·have hki5 : ¬ (k : Int) < (vs.length : Int) := (by omega)
          have hF : Hid (ans = 0) := lH (by
           have := HO.out;rw [List.take_of_length_le (by rw [HCL.out]; omega)] at this;rw [HAN.out, this]; rfl)
          (go_wp2_with fail);go_ret;exact ⟨ret_eq (by rw [hF.out]; rfl), hbz⟩
       ·have hF : Hid (ans = e) := lH (by
         rw [HA.out]; unfold File.checkChange;rw [if_pos HAO.out, if_pos HSO.out, if_neg (by rw [← HWE.out]; exact he0), HWE.out])
        have he1 : (e != 0) = true := by rw [bne_iff_ne]; exact he0
        clear HE HWE;(go_wp2_with fail);go_ret;exact ⟨ret_eq (by rw [hF.out]; rfl), hby⟩
end Fl
end
section
namespace File
theorem cut_next {f : List ByteArray} {p q : Nat} {s : ByteArray} (h : p ≤ q) (hs : f[q]? = some s) : cut f p (q + 1) = cut f p q ++ [s] := by
 obtain ⟨hq, rfl⟩ := List.getElem?_eq_some_iff.1 hs;rw [← cut_cut h (Nat.le_succ q)]
 congr 1
 unfold cut;rw [List.drop_eq_getElem_cons hq, show q + 1 - q = 1 by omega];rfl
theorem byOf_take {c : List (Edit ByteArray)} {k : Nat} {x : Edit ByteArray} (h : c[k]? = some x) : byOf (c.take (k + 1)) = byOf (c.take k) + ((x.new.length : Int) - (x.old.length : Int)) := by
 obtain ⟨hk, rfl⟩ := List.getElem?_eq_some_iff.1 h;rw [List.take_succ_eq_append_getElem hk, byOf_snoc]
theorem byOf_le {K : Nat} : ∀ {c : List (Edit ByteArray)}, (∀ x ∈ c, x.old.length ≤ K ∧ x.new.length ≤ K) → -((c.length * K : Nat) : Int) ≤ byOf c ∧ byOf c ≤ ((c.length * K : Nat) : Int)
 | [], _ => by simp [byOf]
 | x :: r, h => by
  have ih := byOf_le (c := r) fun y hy => h y (List.mem_cons_of_mem _ hy)
  have hx := h x (by simp);have : ((x :: r).length * K : Nat) = r.length * K + K := by simp [Nat.add_mul]
  rw [this];unfold byOf;omega
end File
namespace Fl
open Go.RowKit
set_option maxHeartbeats 8000000 in
theorem rmake_spec (F : Option Addr) (f : List ByteArray) (cf : Nat) (A : Option Addr) (vs : List EdV) (c : Nat) (w : World) (hF : f.length ≤ 30) (hfc : f.length ≤ cf) (hsF : Sl strE w F f) (hm : vs.length ≤ 1000) (hs : Sl edE w A vs) (hok : ∀ r ∈ vs, EdOk w r) (hch : File.ChOk (vs.map EdV.ed)) :
  Calls Tryz.prog 54 #[.slice F f.length cf, .slice A vs.length c] w fun e w' => ∃ v, e = .returned (.tuple #[v, iv (File.refMake f (vs.map EdV.ed)).2]) ∧ Own strE 9 w.heap.size w' v (File.refMake f (vs.map EdV.ed)).1 ∧ Below w.heap.size w w' := by
 obtain ⟨ans, hans⟩ : ∃ ans, ans = File.refMake f (vs.map EdV.ed) := ⟨_, rfl⟩;rw [← hans];obtain ⟨R, hR⟩ : ∃ R, R = File.makeGo f 0 (vs.map EdV.ed) := ⟨_, rfl⟩;have HA1 : Hid (R = none → ans = ([], 7)) := lH fun h => by rw [hans]; unfold File.refMake; rw [← hR, h]
 have HA2 : Hid (∀ l, R = some l → ans = if 24 < l.length then ([], 2) else (l, 0)) := lH fun l h => by rw [hans]; unfold File.refMake; rw [← hR, h]
 have HSM : Hid (∀ r ∈ vs, 0 ≤ r.at_ ∧ r.at_ ≤ 24 ∧ r.old.length ≤ 24 ∧ r.new.length ≤ 24) := lH fun r hr => ⟨(hch.at_ r.ed (List.mem_map_of_mem hr)).1, (hch.at_ r.ed (List.mem_map_of_mem hr)).2, hch.old r.ed (List.mem_map_of_mem hr), hch.new r.ed (List.mem_map_of_mem hr)⟩
 have HCH := lH (File.ch_chain hch);have HOK := lH hok;have HR : Hid ((File.makeGo f 0 ((vs.map EdV.ed).drop 0)).map (([] : List ByteArray) ++ ·) = R) := lH (by rw [hR, List.drop_zero]; cases File.makeGo f 0 (vs.map EdV.ed) <;> rfl);clear hans hR hch hok
 go_enter Tryz.func54, Tryz.ntmps54
 (go_wp2_with fail)
 go_loopw [6, 7, 8] (fun u v7 v8 wr => ∃ (k p : Nat) (out : List ByteArray), k ≤ vs.length ∧ p ≤ f.length ∧ v7 = iv (p : Int) ∧ v8 = iv (k : Int) ∧ out.length ≤ 54 * k ∧ Hid ((File.makeGo f p ((vs.map EdV.ed).drop k)).map (out ++ ·) = R) ∧ Hid (File.Chain p ((vs.map EdV.ed).drop k)) ∧ Hid (Own strE 9 w.heap.size wr u out) ∧ Below w.heap.size w wr) (fun _ _ v8 _ => vs.length - (intOf v8).toNat)
 case atStart => exact ⟨0, 0, [], Nat.zero_le _, Nat.zero_le _, rfl, rfl, Nat.le_refl _, HR, HCH, Own.nil, rB⟩
 case round =>
  clear HR HCH;obtain ⟨k, p, out, hk, hp, rfl, rfl, hol, HR, HCH, HO, hbr⟩ := hrel
  by_cases hlt : k < vs.length
  ·have hki : (k : Int) < (vs.length : Int) := (by omega);obtain ⟨bv, ov, y, rfl, hbv, hy, hc0, hc1, hc2⟩ := Sl.atEd (hs.below hbr) hlt;have hys := HSM.out y (mem_at hy);have HYO : Hid (∀ W, Below w.heap.size w W → Sl strE W y.A y.old) := lH fun W h => (HOK.out y (mem_at hy)).old.below h
   have HYN : Hid (∀ W, Below w.heap.size w W → Sl strE W y.A' y.new) := lH fun W h => (HOK.out y (mem_at hy)).new.below h
   have hr := HR.out;have hc := HCH.out;rw [drop_ed hy] at hr hc;unfold File.makeGo at hr;obtain ⟨hcc1, hcc2⟩ := hc;obtain ⟨ya, yA, yc, yo, yA', yc', yn⟩ := y;simp only at hys HYO HYN hc0 hc1 hc2;obtain ⟨n, rfl⟩ : ∃ n : Nat, ya = (n : Int) := ⟨ya.toNat, by omega⟩;have hr : (if ((n : Int) ≤ (f.length : Int) ∧ File.fitGo f n yo = true) then (File.makeGo f (n + yo.length) ((vs.map EdV.ed).drop (k + 1))).map (fun l => File.cut f p n ++ (yn ++ l)) else none).map (out ++ ·) = R := hr;have hpn : p ≤ n := by have : (p : Int) ≤ (n : Int) := hcc1; omega
   have HC3 : Hid (File.Chain (n + yo.length) ((vs.map EdV.ed).drop (k + 1))) := lH (hcc2.weaken (Nat.le_succ _));have HNO : Hid (¬ ((n : Int) ≤ (f.length : Int) ∧ File.fitGo f n yo = true) → ans = ([], 7)) := lH fun h => HA1.out (by rw [← hr, if_neg h]; rfl)
   have HYES : Hid (((n : Int) ≤ (f.length : Int) ∧ File.fitGo f n yo = true) → (File.makeGo f (n + yo.length) ((vs.map EdV.ed).drop (k + 1))).map (((out ++ File.cut f p n) ++ yn) ++ ·) = R) := lH fun h => by
    rw [← hr, if_pos h, Option.map_map]
    congr 1
    funext l
    simp
   clear hr hcc1 hcc2 HR HCH hy;(go_wp2_with fail);have hbB : Below wr.heap.size wr (wr.alloc (.cells #[iv (n : Int), .slice yA yo.length yc, .slice yA' yn.length yc'] 152)) := rB.alloc nL _;have hB : Blk (wr.alloc (.cells #[iv (n : Int), .slice yA yo.length yc, .slice yA' yn.length yc'] 152)) wr.heap.size 152 #[iv (n : Int), .slice yA yo.length yc, .slice yA' yn.length yc'] := Blk.new _ _ _;generalize wr.alloc (.cells #[iv (n : Int), .slice yA yo.length yc, .slice yA' yn.length yc'] 152) = wb at *;have hbb := hbr.next hbB nL;have HO1 := lH (HO.out.below hbB);have HB1 := lH hB;generalize wr.heap.size = gP at *;clear hbB hB hc0 hc1 hc2 HO hbr
   go_loopw [6, 7] (fun u6 v7 wx => ∃ q : Nat, p ≤ q ∧ q ≤ n ∧ q ≤ f.length ∧ v7 = iv (q : Int) ∧ Hid (Own strE 9 w.heap.size wx u6 (out ++ File.cut f p q)) ∧ Hid (Blk wx gP 152 #[iv (n : Int), .slice yA yo.length yc, .slice yA' yn.length yc']) ∧ Below w.heap.size w wx) (fun _ v7 _ => f.length - (intOf v7).toNat)
   case atStart => exact ⟨p, Nat.le_refl _, hpn, hp, rfl, by rw [show File.cut f p p = [] by unfold File.cut; simp, List.append_nil]; exact HO1, HB1, hbb⟩
   case round =>
    clear HO1 HB1 hbb;obtain ⟨q, hpq, hqn, hqf, rfl, HO, HB, hbx⟩ := hrel;have hB := HB.out;have hg0 := hB.cell 0;have hgl := hB.lt;have hcl := File.cut_len f p q;clear hB
    by_cases hqn2 : q < n
    ·have hqi : (q : Int) < (n : Int) := (by omega)
     by_cases hqf2 : q < f.length
     ·have hfi : (q : Int) < (f.length : Int) := (by omega);obtain ⟨b2, off2, s, hA2, hb2', hs2, hd2⟩ := Sl.atS (hsF.below hbx) hqf2;subst hA2;have HCN : Hid ((out ++ File.cut f p q) ++ [s] = out ++ File.cut f p (q + 1)) := lH (by rw [File.cut_next hpq hs2, List.append_assoc]);have hlen : (out ++ File.cut f p q).length + 1 ≤ big := by rw [List.length_append]; unfold big; omega
      clear hs2
      go_wp2_with (at_builtin; refine wpApp1 strE tyStrs rfl _ _ rfl HO.out s rfl rfl rfl hbx.size hlen ?_; intro v2 w2 hown2 hb2 hk2)
      have HO2 : Hid (Own strE 9 w.heap.size w2 v2 (out ++ File.cut f p (q + 1))) := lH (by rw [← HCN.out]; exact hown2);have HB2 : Hid (Blk w2 gP 152 #[iv (n : Int), .slice yA yo.length yc, .slice yA' yn.length yc']) := lH ((hk2 _ hgl (ownNeBlk HO.out HB.out (by decide))).trans HB.out);have hb02 := hbx.trans hb2;clear hown2 hk2 hb2 HO HB hlen hcl;(go_wp2_with fail);go_roundw
      case rel => exact ⟨q + 1, by omega, by omega, by omega, by go_num, HO2, HB2, hb02⟩
      case measure => simp [intOf]; omega
     ·have hfi : ¬ (q : Int) < (f.length : Int) := (by omega);have HX : Hid (ans = ([], 7)) := lH (HNO.out fun h => by omega);(go_wp2_with fail);go_ret2;exact ⟨.slice none 0 0, by rw [HX.out]; rfl, by rw [HX.out]; exact Own.nil, hbx⟩
    ·obtain rfl : q = n := by omega
     have hqi : ¬ (q : Int) < (q : Int) := (by omega);have HF0 : Hid (File.fitGo f (q + 0) (yo.drop 0) = File.fitGo f q yo) := rfl;(go_wp2_with fail);generalize wr = w5 at *
     go_loopw [7, 10] (fun v7 v10 wz => ∃ j t : Nat, Hid (t = q + j) ∧ j ≤ yo.length ∧ t ≤ f.length ∧ v7 = iv (t : Int) ∧ v10 = iv (j : Int) ∧ Hid (File.fitGo f t (yo.drop j) = File.fitGo f q yo) ∧ Below w5.heap.size w5 wz) (fun _ v10 _ => yo.length - (intOf v10).toNat)
     case atStart => exact ⟨0, q, rfl, Nat.zero_le _, hqf, rfl, rfl, HF0, rB⟩
     case round =>
      clear HF0;obtain ⟨j, t, HT, hj, hqj, rfl, rfl, HFG, hbz⟩ := hrel;have hb0z := hbx.next hbz nL;have hB := HB.out.under hbz;have hg1 := hB.cell 1;have hg2 := hB.cell 2;have hgl2 := hB.lt;clear hB hgl hg0
      by_cases hjl : j < yo.length
      ·have hji : (j : Int) < (yo.length : Int) := (by omega);obtain ⟨b2, off2, s, hA2, hb2', hs2, hd2⟩ := Sl.atS (HYO.out _ hb0z) hjl;subst hA2;have hfg := HFG.out;rw [drop_at hs2, File.fitGo] at hfg;clear hs2 HFG
       by_cases hpf : t < f.length
       ·have hpi : ¬ (t : Int) ≥ (f.length : Int) := (by omega);have hpi2 : (t : Int) < (f.length : Int) := (by omega);obtain ⟨b3, off3, u, hA3, hb3', hu, hd3⟩ := Sl.atS (hsF.below hb0z) hpf;subst hA3;rw [hu] at hfg;have hsq := str_eq u s
        by_cases hus : u = s
        ·have hfg2 : File.fitGo f (t + 1) (yo.drop (j + 1)) = File.fitGo f q yo := by rw [← hfg, hus]; simp
         have HFG2 := lH hfg2;rw [decide_eq_true hus] at hsq;clear hfg hfg2 hus hu;(go_wp2_with fail)
         go_quiet (fail)
         have hqd : Below w5.heap.size w5 (wr.drewN nq) := ⟨hbz.os, hbz.tape, hbz.output, hbz.size, hbz.block⟩;generalize wr.drewN nq = wq at *;(go_wp2_with fail);go_roundw
         case rel => exact ⟨j + 1, t + 1, lH (by rw [HT.out]; omega), by omega, by omega, by go_num, by go_num, HFG2, hqd⟩
         case measure => simp [intOf]; omega
        ·have HX : Hid (ans = ([], 7)) := lH (HNO.out fun h => by
          rw [h.2, decide_eq_false (fun e => hus (Option.some.inj e)), Bool.false_and] at hfg
          cases hfg)
         rw [decide_eq_false hus] at hsq;clear hfg hus hu;(go_wp2_with fail)
         go_quiet (fail)
         have hqd : Below w5.heap.size w5 (wr.drewN nq) := ⟨hbz.os, hbz.tape, hbz.output, hbz.size, hbz.block⟩;generalize wr.drewN nq = wq at *;(go_wp2_with fail);go_ret2;exact ⟨.slice none 0 0, by rw [HX.out]; rfl, by rw [HX.out]; exact Own.nil, hbx.next hqd nL⟩
       ·have hpi : (t : Int) ≥ (f.length : Int) := (by omega)
        have HX : Hid (ans = ([], 7)) := lH (HNO.out fun h => by
         rw [h.2, List.getElem?_eq_none (by omega), decide_eq_false (by simp), Bool.false_and] at hfg
         cases hfg)
        clear hfg;(go_wp2_with fail)
        go_quiet (fail)
        have hqd : Below w5.heap.size w5 (wr.drewN nq) := ⟨hbz.os, hbz.tape, hbz.output, hbz.size, hbz.block⟩;generalize wr.drewN nq = wq at *;(go_wp2_with fail);go_ret2;exact ⟨.slice none 0 0, by rw [HX.out]; rfl, by rw [HX.out]; exact Own.nil, hbx.next hqd nL⟩
      ·have hji : ¬ (j : Int) < (yo.length : Int) := (by omega);have hfit : File.fitGo f q yo = true := by rw [← HFG.out, List.drop_eq_nil_of_le (by omega)]; rfl
       have htq : t = q + yo.length := by rw [HT.out]; omega
       have HR2 : Hid ((File.makeGo f t ((vs.map EdV.ed).drop (k + 1))).map (((out ++ File.cut f p q) ++ yn) ++ ·) = R) := lH (by rw [htq]; exact HYES.out ⟨by omega, hfit⟩);have HC4 : Hid (File.Chain t ((vs.map EdV.ed).drop (k + 1))) := lH (by rw [htq]; exact HC3.out);have HOz := HO.out.below hbz;have hlen : (out ++ File.cut f p q).length + yn.length ≤ big := by rw [List.length_append]; unfold big; omega
       have hol2 : (out ++ File.cut f p q ++ yn).length ≤ 54 * (k + 1) := by rw [List.length_append, List.length_append]; omega
       clear hfit htq HFG HNO HYES HC3
       go_wp2_with (at_builtin; refine wpAppS strE tyStrs rfl _ _ rfl HOz (HYN.out _ hb0z) rfl rfl hb0z.size hlen ?_; intro v3 w3 hown3 hb3 hk3)
       have HO3 := lH hown3;have hb03 := hb0z.trans hb3;clear hown3 hk3 hb3 HOz hlen;(go_wp2_with fail);go_roundw
       case rel => exact ⟨k + 1, t, _, by omega, hqj, rfl, by go_num, hol2, HR2, HC4, HO3, hb03⟩
       case measure => simp [intOf]; omega
  ·have hki : ¬ (k : Int) < (vs.length : Int) := (by omega);have hr := HR.out;rw [List.drop_eq_nil_of_le (by rw [List.length_map]; omega), File.makeGo] at hr;obtain ⟨X, nX, ys, hys, hyl, hsy, RC⟩ := cut_from hfc hp (hsF.below hbr);have hr : some (out ++ ys) = R := by rw [hys]; exact hr
   have hans := HA2.out _ hr.symm;have hlen : out.length + ys.length ≤ big := by unfold big; omega
   obtain ⟨L, hL⟩ : ∃ L, L = (out ++ ys).length := ⟨_, rfl⟩;rw [← hL] at hans;have HL := lH hL;have hL9 : L ≤ 100000 := by rw [hL, List.length_append]; omega
   by_cases h24 : 24 < L
   ·rw [if_pos h24] at hans;have h24i : (L : Int) > 24 := (by omega);have HX := lH hans;clear hL hr hys hans HR HCH
    go_wp2_with (at_builtin; refine wpAppS strE tyStrs rfl _ _ rfl HO.out hsy rfl rfl hbr.size hlen ?_; intro v3 w3 hown3 hb3 hk3; obtain ⟨A3, c3, e3, _, _⟩ := hown3.form; rw [← HL.out] at e3; subst e3)
    go_ret2;exact ⟨.slice none 0 0, by rw [HX.out]; rfl, by rw [HX.out]; exact Own.nil, hbr.trans hb3⟩
   ·rw [if_neg h24] at hans;have h24i : ¬ (L : Int) > 24 := (by omega);have HX := lH hans;clear hL hr hys hans HR HCH
    go_wp2_with (at_builtin; refine wpAppS strE tyStrs rfl _ _ rfl HO.out hsy rfl rfl hbr.size hlen ?_; intro v3 w3 hown3 hb3 hk3; obtain ⟨A3, c3, e3, _, _⟩ := hown3.form; rw [← HL.out] at e3; subst e3)
    go_ret2;exact ⟨_, by rw [HX.out]; rfl, by rw [HX.out]; exact hown3, hbr.trans hb3⟩
set_option maxHeartbeats 8000000 in
theorem rback_spec (A : Option Addr) (vs : List EdV) (c : Nat) (w : World) (hm : vs.length ≤ 1000) (hs : Sl edE w A vs) (hok : ∀ r ∈ vs, EdOk w r) (hch : File.ChOk (vs.map EdV.ed)) :
  Calls Tryz.prog 53 #[.slice A vs.length c] w fun e w' => ∃ v, e = .returned (.tuple #[v, iv (File.backAns (vs.map EdV.ed)).2]) ∧ ∃ us : List EdV, Own edE 152 w.heap.size w' v us ∧ us.map EdV.ed = (File.backAns (vs.map EdV.ed)).1 ∧ (∀ r ∈ us, EdOk w r) ∧ Below w.heap.size w w' := by
 obtain ⟨C, hC⟩ : ∃ C, C = vs.map EdV.ed := ⟨_, rfl⟩;have HAT : Hid (∀ (k : Nat) (r : EdV), vs[k]? = some r → C[k]? = some r.ed) := lH fun k r h => by rw [hC, List.getElem?_map, h]; rfl
 have HCL : Hid (C.length = vs.length) := lH (by rw [hC, List.length_map])
 have HBY : Hid (∀ k, k ≤ 1000 → -24000 ≤ File.byOf (C.take k) ∧ File.byOf (C.take k) ≤ 24000) := lH fun k hk => by
  have := File.byOf_le (K := 24) (c := C.take k) fun x hx => by
   have hx := List.mem_of_mem_take hx;rw [hC] at hx;exact ⟨hch.old x hx, hch.new x hx⟩
  have hl : (C.take k).length ≤ 1000 := by rw [List.length_take]; omega
  omega
 have HSM : Hid (∀ r ∈ vs, 0 ≤ r.at_ ∧ r.at_ ≤ 24 ∧ r.old.length ≤ 24 ∧ r.new.length ≤ 24) := lH fun r hr => ⟨(hch.at_ r.ed (List.mem_map_of_mem hr)).1, (hch.at_ r.ed (List.mem_map_of_mem hr)).2, hch.old r.ed (List.mem_map_of_mem hr), hch.new r.ed (List.mem_map_of_mem hr)⟩
 rw [← hC];obtain ⟨ans, hans⟩ : ∃ ans, ans = File.backAns C := ⟨_, rfl⟩;rw [← hans];obtain ⟨R, hR⟩ : ∃ R, R = File.backTry 0 C := ⟨_, rfl⟩;have hz : File.checkChange C = 0 := by rw [hC]; exact File.ch_zero hch
 have HA1 : Hid (R = none → ans = ([], 3)) := lH fun h => by rw [hans]; unfold File.backAns; rw [if_pos hz, ← hR, h]
 have HA2 : Hid (∀ l, R = some l → ans = (l, 0)) := lH fun l h => by rw [hans]; unfold File.backAns; rw [if_pos hz, ← hR, h]
 have HOK := lH hok
 have HR : Hid ((File.backTry (File.byOf (C.take 0)) (C.drop 0)).map ((([] : List EdV).map EdV.ed) ++ ·) = R) := lH (by
  rw [hR, List.drop_zero, show File.byOf (C.take 0) = 0 by rw [List.take_zero]; rfl]
  cases File.backTry 0 C <;> rfl)
 clear hans hR hch hok hC hz
 go_enter Tryz.func53, Tryz.ntmps53
 (go_wp2_with fail)
 go_loopw [4, 5] (fun u v5 wr => ∃ (k : Nat) (us : List EdV), k ≤ vs.length ∧ v5 = iv (k : Int) ∧ us.length ≤ k ∧ Hid ((File.backTry (File.byOf (C.take k)) (C.drop k)).map (us.map EdV.ed ++ ·) = R) ∧ Hid (Own edE 152 w.heap.size wr u us) ∧ Hid (∀ r ∈ us, EdOk w r) ∧ Below w.heap.size w wr) (fun _ v5 _ => vs.length - (intOf v5).toNat)
 case atStart => exact ⟨0, [], Nat.zero_le _, rfl, Nat.le_refl _, HR, Own.nil, lH (fun _ h => by cases h), rB⟩
 case round =>
  clear HR;obtain ⟨k, us, hk, rfl, hul, HR, HO, HE, hbr⟩ := hrel
  by_cases hlt : k < vs.length
  ·have hki : (k : Int) < (vs.length : Int) := (by omega);obtain ⟨bv, ov, y, rfl, hbv, hy, hc0, _, _⟩ := Sl.atEd (hs.below hbr) hlt;have HCY : Hid (∀ W, Below w.heap.size w W → W.cell? ⟨bv, ov + k * 3, none⟩ = some (iv y.at_) ∧ W.cell? ⟨bv, ov + k * 3 + 1, none⟩ = some (.slice y.A y.old.length y.c) ∧ W.cell? ⟨bv, ov + k * 3 + 2, none⟩ = some (.slice y.A' y.new.length y.c')) := lH (Sl.cellEd hs hy);have hys := HSM.out y (mem_at hy);have HYK : Hid (EdOk w y) := lH (HOK.out y (mem_at hy));have HYC := lH (HAT.out k y hy);have hr := HR.out;rw [drop_at HYC.out] at hr;unfold File.backTry at hr;have HTK := lH (File.byOf_take HYC.out);obtain ⟨ya, yA, yc, yo, yA', yc', yn⟩ := y;simp only at hys HCY HYK HTK hc0;have hr : (if 24 < ya + File.byOf (C.take k) then none else (File.backTry (File.byOf (C.take k) + ((yn.length : Int) - (yo.length : Int))) (C.drop (k + 1))).map ((⟨ya + File.byOf (C.take k), yn, yo⟩ : File.Edit ByteArray) :: ·)).map (us.map EdV.ed ++ ·) = R := hr
   have HR1 := lH hr;have HM0 : Hid (ya = ya + File.byOf (C.take 0)) := lH (by rw [List.take_zero]; show ya = ya + 0; omega);clear hr HR hy;(go_wp2_with fail);generalize wr = w2 at *
   go_loopw [6, 7] (fun v6 v7 wz => ∃ (j : Nat) (m : Int), j ≤ k ∧ v6 = iv m ∧ v7 = iv (j : Int) ∧ -24000 ≤ m ∧ m ≤ 24024 ∧ Hid (m = ya + File.byOf (C.take j)) ∧ Below w2.heap.size w2 wz) (fun _ v7 _ => k - (intOf v7).toNat)
   case atStart => exact ⟨0, ya, Nat.zero_le _, rfl, rfl, by omega, by omega, HM0, rB⟩
   case round =>
    clear HM0;obtain ⟨j, m, hj, rfl, rfl, hm1, hm2, HM, hbz⟩ := hrel;have hb0z := hbr.next hbz nL;have HOz := lH (HO.out.below hbz)
    by_cases hjk : j < k
    ·have hji : (j : Int) < (k : Int) := (by omega);obtain ⟨b', o', z, hAb, hb', hz, hd0, hd1, hd2⟩ := Sl.atEd (hs.below hb0z) (show j < vs.length by omega);injection hAb with hAb;injection hAb with e1 e2 _;subst e1 e2;have hzs := HSM.out z (mem_at hz);have hm3 := HM.out;have hbt := File.byOf_take (HAT.out j z hz);have hbd := HBY.out (j + 1) (by omega)
     have HM2 : Hid (m + (z.new.length : Int) - (z.old.length : Int) = ya + File.byOf (C.take (j + 1))) := lH (by
      rw [hbt, hm3]; show _ = ya + (_ + ((z.new.length : Int) - (z.old.length : Int))); omega)
     have hm4 := HM2.out;have hm5 : -24000 ≤ m + (z.new.length : Int) - (z.old.length : Int) := (by omega);have hm6 : m + (z.new.length : Int) - (z.old.length : Int) ≤ 24024 := (by omega);have hjl : (j : Int) < (vs.length : Int) := (by omega);have ew1 : IntKind.i64.wrap (m + (z.new.length : Int)) = m + (z.new.length : Int) := IntWalk.i64_in _ (by omega);have ew2 : IntKind.i64.wrap (m + (z.new.length : Int) - (z.old.length : Int)) = m + (z.new.length : Int) - (z.old.length : Int) := IntWalk.i64_in _ (by omega);clear hz hm3 hm4 hbt hbd HM hc0;(go_wp2_with fail)
     go_quiet (fail)
     have hqd : Below w2.heap.size w2 (wr.drewN nq) := ⟨hbz.os, hbz.tape, hbz.output, hbz.size, hbz.block⟩;generalize wr.drewN nq = wq at *;(go_wp2_with fail);go_roundw
     case rel => exact ⟨j + 1, m + (z.new.length : Int) - (z.old.length : Int), by omega, by go_num, by go_num, hm5, hm6, HM2, hqd⟩
     case measure => simp [intOf]; omega
    ·have hji : ¬ (j : Int) < (k : Int) := (by omega);have hmj : m = ya + File.byOf (C.take k) := by rw [HM.out, show j = k by omega]
     have hr := HR1.out;rw [← hmj] at hr
     by_cases h24 : 24 < m
     ·rw [if_pos h24] at hr;have HX : Hid (ans = ([], 3)) := lH (HA1.out hr.symm);have h24i : m > 24 := h24;clear hr hmj HM;(go_wp2_with fail);go_ret2;exact ⟨.slice none 0 0, by rw [HX.out]; rfl, [], Own.nil, by rw [HX.out]; rfl, (fun _ h => by cases h), hb0z⟩
     ·rw [if_neg h24] at hr;have h24i : ¬ m > 24 := h24;obtain ⟨Y, hY⟩ : ∃ Y : EdV, Y = ⟨m, yA', yc', yn, yA, yc, yo⟩ := ⟨_, rfl⟩;have HYO : Hid (EdOk w Y) := lH (by rw [hY]; exact ⟨HYK.out.new, HYK.out.old, HYK.out.nc, HYK.out.oc⟩);have HYD : Hid (([.int .i64 m, .slice yA' yn.length yc', .slice yA yo.length yc] : List Value) = [Y].flatMap edE.cells) := lH (by rw [hY]; rfl)
      have HR2 : Hid ((File.backTry (File.byOf (C.take (k + 1))) (C.drop (k + 1))).map ((us ++ [Y]).map EdV.ed ++ ·) = R) := lH (by
       rw [HTK.out, ← hr, Option.map_map]
       congr 1
       funext l
       rw [hY];simp [EdV.ed])
      have HE2 : Hid (∀ r ∈ us ++ [Y], EdOk w r) := lH fun r hr => by
       rcases List.mem_append.1 hr with hr | hr
       ·exact HE.out r hr
       ·rw [List.mem_singleton.1 hr]; exact HYO.out
      clear hr hmj HM hY HR1;generalize wr = w5 at *
      go_upto_region 12 with fail
      refine wfl 14 (fun nR x => Below w5.heap.size w5 x) (fun x x' => Below x.heap.size x x')
       [eqv u4,
        eqv (iv m),
        eqv (.slice (some ⟨bv, ov, none⟩) vs.length c),
        eqv (iv (k : Int)),
        eqv (.pointer (some ⟨bv, ov + k * 3, none⟩)),
        eqv (.pointer (some ⟨bv, ov + k * 3 + 2, none⟩)),
        eqv (.slice yA' yn.length yc'),
        eqv (.slice (some ⟨bv, ov, none⟩) vs.length c),
        eqv (iv (k : Int)),
        eqv (.pointer (some ⟨bv, ov + k * 3, none⟩)),
        eqv (.pointer (some ⟨bv, ov + k * 3 + 1, none⟩)),
        eqv (.slice yA yo.length yc),
        eqv (.agg #[iv m, .slice yA' yn.length yc', .slice yA yo.length yc]),
        fun _ u x => ∃ A1, u = .slice A1 1 1 ∧ Sl edE x A1 [Y]]
       (Below.refl _ w5).drew ?_ ?_
      ·simp only [List.take_succ_cons, List.take_zero, HopL]
       repeat' apply And.intro
       ·refine fvr fun x hR kk rr _ => ?_
        have := rho0 rr 4;clear rr kk;exact ev0
       ·refine fvr fun x hR kk rr _ => ?_
        have := rho0 rr 6;clear rr kk;exact ev0
       ·refine fvr fun x hR kk rr _ => ?_
        have := rho0 rr 0;clear rr kk;exact ev0
       ·refine fvr fun x hR kk rr _ => ?_
        have := rho0 rr 5;clear rr kk;exact ev0
       ·refine fvr fun x hR kk rr _ => ?_
        have := rho rr 43 (kk.at 2);have := rho rr 44 (kk.at 3);clear rr kk;exact ev0
       ·refine fvr fun x hR kk rr _ => ?_
        have := rho rr 45 (kk.at 4);clear rr kk;exact ev0
       ·refine fvr fun x hR kk rr _ => ?_
        have := rho rr 46 (kk.at 5);clear rr kk;have g1 := (HCY.out x (hb0z.next hR nL)).2.2;exact ev0
       ·refine fvr fun x hR kk rr _ => ?_
        have := rho0 rr 0;clear rr kk;exact ev0
       ·refine fvr fun x hR kk rr _ => ?_
        have := rho0 rr 5;clear rr kk;exact ev0
       ·refine fvr fun x hR kk rr _ => ?_
        have := rho rr 48 (kk.at 7);have := rho rr 49 (kk.at 8);clear rr kk;exact ev0
       ·refine fvr fun x hR kk rr _ => ?_
        have := rho rr 50 (kk.at 9);clear rr kk;exact ev0
       ·refine fvr fun x hR kk rr _ => ?_
        have := rho rr 51 (kk.at 10);clear rr kk;have g1 := (HCY.out x (hb0z.next hR nL)).2.1;exact ev0
       ·refine fvr fun x hR kk rr _ => ?_
        have := rho rr 42 (kk.at 1);have := rho rr 47 (kk.at 6);have := rho rr 52 (kk.at 11);clear rr kk;exact ev0
       ·refine fvr (hs := fun _ _ _ _ h hS => (by obtain ⟨A1, e0, o1⟩ := h; exact ⟨A1, e0, o1.below hS⟩)) fun x hR kk rr _ => ?_
        have e53 := rho rr 53 (kk.at 12);clear rr kk;exact stepE_new (u := .slice (some ⟨x.heap.size, 0, none⟩) 1 1) (w' := x.alloc (.cells #[iv m, .slice yA' yn.length yc', .slice yA yo.length yc] 152)) (wanted_none rfl) (by go_simp) ⟨⟨_, rfl, Sl.fresh edE x _ _ [Y] HYD.out (by simp [maxLen])⟩, rB.alloc nL _, hR.alloc hR.size _⟩
       ·trivial
      ·intro v nR x1 hnR hR hall;have h0 : v 0 = u4 := hall 0 (by decide);obtain ⟨A1, h13, o1⟩ := hall 13 (by decide);clear hall hnR;simp only [List.drop_succ_cons, List.drop_zero, List.take_succ_cons, List.take_zero, frameF, Act.put, List.setIfInBounds_toArray, List.set_cons_zero, List.set_cons_succ, Nat.zero_add, Nat.reduceAdd, h0, h13];have hb0x := hb0z.next hR nL;have HO1 := lH (HOz.out.below hR)
       go_wp2_with (at_builtin; refine wpAppS edE tyEdR rfl _ _ rfl HO1.out o1 rfl rfl hb0x.size (by simp; unfold big; omega) ?_; intro v3 w3 hown3 hb3 hk3)
       have HO3 := lH hown3;have hb03 := hb0x.trans hb3;clear hown3 hk3 hb3 HO1 HOz o1;(go_wp2_with fail);go_roundw
       case rel => exact ⟨k + 1, us ++ [Y], by omega, by go_num, by simp; omega, HR2, HO3, HE2, hb03⟩
       case measure => simp [intOf]; omega
  ·have hki : ¬ (k : Int) < (vs.length : Int) := (by omega);have hr := HR.out;rw [List.drop_eq_nil_of_le (by rw [HCL.out]; omega)] at hr;have HX : Hid (ans = (us.map EdV.ed, 0)) := lH (HA2.out _ (by rw [← hr]; simp [File.backTry]));clear hr HR;(go_wp2_with fail);go_ret2;exact ⟨_, by rw [HX.out]; rfl, us, HO.out, by rw [HX.out], HE.out, hbr⟩
end Fl
end
end Go.Proofs.YtblgkmdadholmabGreatDoor
