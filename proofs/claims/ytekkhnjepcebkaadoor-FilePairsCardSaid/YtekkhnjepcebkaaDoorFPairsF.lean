/- FilePairs: the walk. Condition: the library's table of powers of ten lies as the program's text lays it. -/
import Derived.Test.YtekkhnjepcebkaaDoorRefFh
import Derived.Test.YtekkhnjepcebkaaDoorKitEq
import Derived.Test.YtekkhnjepcebkaaDoorFlY
import Derived.Test.YtekkhnjepcebkaaDoorFrameF
import Derived.Test.YtekkhnjepcebkaaDoorFrameG
set_option linter.unusedVariables false
set_option linter.unusedSimpArgs false
namespace Go.Proofs.YtekkhnjepcebkaaDoor
namespace Fl
open Go.RowKit Go.Shelf
set_option maxRecDepth 100000
theorem great2row (A : Option Addr) (f : List ByteArray) (c : Nat) (A' : Option Addr) (g : List ByteArray) (c' : Nat) (w : World) (hfc : f.length ≤ c) (hgc : g.length ≤ c') (hs : Sl strE w A f) (hs' : Sl strE w A' g) :
    Calls Tryd.prog 4 #[.slice (some ⟨w.heap.size, 0, none⟩) 2 2] (w.alloc (.cells #[.slice A f.length c, .slice A' g.length c'] 22)) fun e w' => e = .returned (.bool (G.greatF f || G.greatF g)) ∧ Below w.heap.size w w' := by
  have hb : Below w.heap.size w (w.alloc (.cells #[.slice A f.length c, .slice A' g.length c'] 22)) := (Below.refl _ _).alloc (Nat.le_refl _) _
  have h1 := Sl.fresh (rwE ByteArray) w 22 #[.slice A f.length c, .slice A' g.length c'] [⟨A, c, f⟩, ⟨A', c', g⟩] rfl (by simp [maxLen])
  have := great_spec (some ⟨w.heap.size, 0, none⟩) [⟨A, c, f⟩, ⟨A', c', g⟩] 2 (w.alloc (.cells #[.slice A f.length c, .slice A' g.length c'] 22)) (by simp [big]) h1 (fun r hr => by
    simp only [List.mem_cons, List.not_mem_nil, or_false] at hr
    rcases hr with rfl | rfl
    · exact ⟨hs.below hb, hfc⟩
    · exact ⟨hs'.below hb, hgc⟩)
  refine this.mono ?_
  rintro e w' ⟨rfl, hb'⟩
  exact ⟨by simp, hb.next hb' (Nat.le_refl _)⟩
theorem great_no {f : List ByteArray} (h : G.greatF f = false) : f.length ≤ 30 ∧ ∀ s ∈ f, s.size ≤ 60 := by
  unfold G.greatF at h
  rw [Bool.or_eq_false_iff] at h
  obtain ⟨h1, h2⟩ := h
  rw [decide_eq_false_iff_not] at h1
  rw [List.any_eq_false] at h2
  refine ⟨by omega, fun s hs => ?_⟩
  have := h2 s hs
  simp only [G.longS, decide_eq_true_eq] at this
  omega
def longR (r : Rw Int) : Bool := decide (30 < (r.xs.length : Int))
theorem pairs1_spec (r : Rw Int) (w : World) : Calls Tryd.prog 6 #[rwv r] w fun e w' => e = .returned (.bool (longR r)) ∧ w = w' := by
  obtain ⟨A, c, xs⟩ := r
  simp only [rwv]
  go_enter Tryd.func6, Tryd.ntmps6
  go_wp2
  go_ret
  exact ⟨rfl, rfl⟩
theorem longPredR (w : World) (l : List (Rw Int)) : IsPred Tryd.prog w 6 #[] rwv l longR :=
  ⟨callFunc_run (by kernel_rfl), fun x _ w' _ => (pairs1_spec x w').mono fun _ _ h => ⟨h.1, by rw [← h.2]; exact Below.refl _ _⟩⟩
theorem fieldsRat : ((Tryd.prog).fieldsOf 35).toList.map (fun f => (f.name, f.type, f.offset)) = [("Num", 3, 0), ("Den", 3, 1)] := by kernel_rfl
theorem eqRat (a b c d : Int) (w : World) : (Op.equalIn 10000 35 (.agg #[iv a, iv b]) (.agg #[iv c, iv d])).run Tryd.prog w = .ok (a == c && b == d) w := by
  have hh := run_equalIn_agg (P := Tryd.prog) w 9999 35 #[iv a, iv b] #[iv c, iv d] (by kernel_rfl) (by kernel_rfl)
  rw [hh]
  have h3 : ∀ (x y : Int) (d : Nat), (Op.equalIn (d + 1) 3 (iv x) (iv y)).run Tryd.prog w = .ok (x == y) w := fun x y d => run_equalIn_int w d _ _ _ _ _ Tryd.underlying3
  have hf := fieldsRat
  have hlen : ((Tryd.prog).fieldsOf 35).toList.length = 2 := by have := congrArg List.length hf; simpa using this
  obtain ⟨f0, f1, hl⟩ := len2 _ hlen
  rw [hl] at hf ⊢
  simp only [List.map_cons, List.map_nil, List.cons.injEq, Prod.mk.injEq, and_true] at hf
  obtain ⟨⟨n0, t0, o0⟩, ⟨n1, t1, o1⟩⟩ := hf
  have hp0 : ∀ a b : Int, (part 3 #[iv a, iv b] 0).run Tryd.prog w = .ok (iv a) w := fun _ _ => by kernel_rfl
  have hp1 : ∀ a b : Int, (part 3 #[iv a, iv b] 1).run Tryd.prog w = .ok (iv b) w := fun _ _ => by kernel_rfl
  simp only [Op.eqFields, n0, n1, t0, t1, o0, o1]
  by_cases h1 : a = c <;> by_cases h2 : b = d <;>
    simp [hp0, hp1, h3, Result.andThen, h1, h2, Sem.run_bind]
set_option maxHeartbeats 1000000 in
theorem levels_bad (A : Option Addr) (a : List ByteArray) (c : Nat) (A' : Option Addr) (b : List ByteArray) (c' : Nat) (w : World) (ha : a.length ≤ big) (hb : b.length ≤ big) (hsa : Sl strE w A a) (hsb : Sl strE w A' b) (h : errOf a b ≠ 0) :
    Calls Tryd.prog 17 #[.slice A a.length c, .slice A' b.length c'] w fun e w' => e = .returned (.tuple #[.slice none 0 0, iv (errOf a b)]) ∧ Below w.heap.size w w' := by
  have HB : Hid (Calls Tryd.prog 38 #[.slice A a.length c, .slice A' b.length c'] w fun e w' => e = .returned (iv (errOf a b)) ∧ Below w.heap.size w w') := Lib.hid (both_spec A a c A' b c' w ha hb hsa hsb)
  obtain ⟨r, hr⟩ : ∃ r, r = errOf a b := ⟨_, rfl⟩
  rw [← hr] at HB h
  rw [← hr]
  have hne : (r != 0) = true := by simpa using h
  clear hr h
  go_enter Tryd.func17, Tryd.ntmps17
  go_wp2_with fail
  refine HB.out.mono ?_
  rintro e w1 ⟨rfl, hb1⟩
  go_wp2_with fail
  go_ret2
  exact ⟨rfl, hb1⟩
set_option maxHeartbeats 16000000 in
theorem filepairs_law (A : Option Addr) (a : List ByteArray) (c : Nat) (A' : Option Addr) (b : List ByteArray) (c' : Nat) (B : Option Addr) (rs : List (Rw Int)) (d : Nat) (w : World) (hac : a.length ≤ c) (hbc : b.length ≤ c')
    (hsa : Sl strE w A a) (hsb : Sl strE w A' b) (hsr : Sl (rwE Int) w B rs) (hrr : RowsR intE w rs) (ht : Tab w) :
    Calls Tryd.prog 3 #[.slice A a.length c, .slice A' b.length c', .slice B rs.length d] w fun e w' => e = .returned (.bool true) ∧ Below w.heap.size w w' := by
  have HT := Lib.hid ht
  have HAW : Hid (∀ W, Below w.heap.size w W → Calls Tryd.prog 7 #[] W fun e w' => e = .returned (.bool true) ∧ Below W.heap.size W w') := Lib.hid fun W h => awake_spec W (HT.out.below h)
  have HGR := Lib.hid (great2row A a c A' b c' w hac hbc hsa hsb)
  clear ht
  obtain ⟨gr, hgr⟩ : ∃ gr, gr = (G.greatF a || G.greatF b) := ⟨_, rfl⟩
  rw [← hgr] at HGR
  cases gr
  · obtain ⟨hga, hgb⟩ := Bool.or_eq_false_iff.1 hgr.symm
    obtain ⟨ha30, _⟩ := great_no hga
    obtain ⟨hb30, _⟩ := great_no hgb
    clear hgr hga hgb
    by_cases hl30 : 30 < rs.length
    · have hli : (30 : Int) < (rs.length : Int) := by omega
      clear hl30
      go_enter Tryd.func3, Tryd.ntmps3
      go_wp2_with fail
      refine HGR.out.mono ?_
      rintro e w1 ⟨rfl, hb1⟩
      go_wp2_with fail
      refine (HAW.out _ hb1).mono ?_
      rintro _ wz ⟨rfl, hbz⟩
      go_wp2_with fail
      go_ret
      exact ⟨rfl, (hb1).next hbz (Nat.le_refl _)⟩
    · have hli : ¬ (30 : Int) < (rs.length : Int) := by omega
      have HCT := Lib.hid fun W (h : Below w.heap.size w W) => containsRw B rs d 6 #[] longR W (by unfold big; omega) (hsr.below h) (longPredR W rs)
      obtain ⟨an, han⟩ : ∃ an, an = rs.any longR := ⟨_, rfl⟩
      rw [← han] at HCT
      cases an
      · have hrow : ∀ r ∈ rs, r.xs.length ≤ 30 := fun r hr => by
          have := List.any_eq_false.1 han.symm r hr
          simp only [longR, decide_eq_true_eq] at this
          omega
        have hba : a.length ≤ big := by unfold big; omega
        have hbb : b.length ≤ big := by unfold big; omega
        have hbr : rs.length ≤ big := by unfold big; omega
        have hbrs : ∀ r ∈ rs, r.xs.length ≤ big := fun r hr => by have := hrow r hr; unfold big; omega
        clear han hl30
        go_enter Tryd.func3, Tryd.ntmps3
        go_wp2_with fail
        refine HGR.out.mono ?_
        rintro e w1 ⟨rfl, hb1⟩
        go_wp2_with fail
        refine (HCT.out w1 hb1).mono ?_
        rintro e w2 ⟨rfl, hb2⟩
        have hb02 := hb1.next hb2 (Nat.le_refl _)
        clear HGR HCT
        go_wp2_with fail
        refine (dupS A a c w2 hba (hsa.below hb02)).mono ?_
        rintro e w3 ⟨v, rfl, ho1, hb3⟩
        obtain ⟨M1, m1, rfl, hm1, _⟩ := ho1.form
        have hb03 := hb02.next hb3 (Nat.le_refl _)
        go_wp2_with fail
        refine (dupS A' b c' w3 hbb (hsb.below hb03)).mono ?_
        rintro e w4 ⟨v, rfl, ho2, hb4⟩
        obtain ⟨M2, m2, rfl, hm2, _⟩ := ho2.form
        have hb04 := hb03.next hb4 (Nat.le_refl _)
        go_wp2_with fail
        refine (dupRowsI B rs d w4 hbr (hsr.below hb04) (fun r hr => ⟨(hrr r hr).1.below hb04, hbrs r hr⟩)).mono ?_
        rintro e w5 ⟨v, ls, rfl, ho3, hls, hr3, hb5⟩
        obtain ⟨M3, m3, rfl, hm3, _⟩ := ho3.form
        have hb05 := hb04.next hb5 (Nat.le_refl _)
        have HS1 := Lib.hid fun W (h : Below w5.heap.size w5 W) => ho1.sl.below (hb4.next (hb5.next h (Nat.le_refl _)) (Nat.le_refl _))
        have HS2 := Lib.hid fun W (h : Below w5.heap.size w5 W) => ho2.sl.below (hb5.next h (Nat.le_refl _))
        have HS3 := Lib.hid fun W (h : Below w5.heap.size w5 W) => ho3.sl.below h
        have HR3 : Hid (∀ W, Below w5.heap.size w5 W → RowsR intE W ls) := Lib.hid fun W h r hr => ⟨(hr3 r hr).1.sl.below h, (hr3 r hr).2⟩
        have hbl : ls.length ≤ big := by have := congrArg List.length hls; rw [List.length_map, List.length_map] at this; omega
        have hbls : ∀ r ∈ ls, r.xs.length ≤ big := fun r hr => by
          have : r.xs ∈ rs.map Rw.xs := by rw [← hls]; exact List.mem_map_of_mem hr
          obtain ⟨r', hr', he⟩ := List.mem_map.1 this
          rw [← he]; exact hbrs r' hr'
        have HSA := Lib.hid fun W (h : Below w5.heap.size w5 W) => hsa.below (hb05.next h (Nat.le_refl _))
        have HSB := Lib.hid fun W (h : Below w5.heap.size w5 W) => hsb.below (hb05.next h (Nat.le_refl _))
        have HSR := Lib.hid fun W (h : Below w5.heap.size w5 W) => hsr.below (hb05.next h (Nat.le_refl _))
        have HRR : Hid (∀ W, Below w5.heap.size w5 W → RowsR intE W rs) := Lib.hid fun W h => hrr.below (hb05.next h (Nat.le_refl _))
        have HEA : Hid (∀ W, Below w5.heap.size w5 W → Calls Tryd.prog 19 #[.slice M1 a.length m1, .slice A a.length c] W fun e w' => e = .returned (.bool true) ∧ Below W.heap.size W w') := Lib.hid fun W h => by
          have := equalS M1 a m1 A a c W hba (HS1.out W h) hba (HSA.out W h)
          rwa [decide_eq_true rfl] at this
        have HEB : Hid (∀ W, Below w5.heap.size w5 W → Calls Tryd.prog 19 #[.slice M2 b.length m2, .slice A' b.length c'] W fun e w' => e = .returned (.bool true) ∧ Below W.heap.size W w') := Lib.hid fun W h => by
          have := equalS M2 b m2 A' b c' W hbb (HS2.out W h) hbb (HSB.out W h)
          rwa [decide_eq_true rfl] at this
        have HEL : Hid (∀ W, Below w5.heap.size w5 W → Calls Tryd.prog 20 #[.slice M3 ls.length m3, .slice B rs.length d] W fun e w' => e = .returned (.bool true) ∧ Below W.heap.size W w') := Lib.hid fun W h => by
          have := eqRowsI M3 ls m3 B rs d W hbl (HS3.out W h) hbr (HSR.out W h) (fun r hr => ⟨(HR3.out W h r hr).1, hbls r hr⟩) (fun r hr => ⟨(HRR.out W h r hr).1, hbrs r hr⟩)
          rwa [decide_eq_true hls] at this
        have HCA := Lib.hid fun W (h : Below w5.heap.size w5 W) => rcheck_spec A a c W hba (HSA.out W h)
        have HCB := Lib.hid fun W (h : Below w5.heap.size w5 W) => rcheck_spec A' b c' W hbb (HSB.out W h)
        clear hsa hsb hsr hrr ho1 ho2 ho3 hr3 hb1 hb2 hb3 hb4 hb5 hb02 hb03 hb04
        by_cases hca : File.check a = 0
        · rw [hca] at HCA
          by_cases hcb : File.check b = 0
          · rw [hcb] at HCB
            have herr : errOf a b = 0 := by unfold errOf; rw [if_pos hca]; exact hcb
            have ga := good_of_check hca
            have gb := good_of_check hcb
            have hc24 := ga.many
            have hd24 := gb.many
            have hLl : (File.common a b).length ≤ 24 := by rw [File.common_length]; exact Nat.le_trans (File.lcs_most _ _) hc24
            have hlc := File.common_length a b
            have HRC := Lib.hid fun W (h : Below w5.heap.size w5 W) => rcommon_spec A a c A' b c' W hc24 hd24 hac hbc (HSA.out W h) (HSB.out W h)
            have HRA := Lib.hid fun W (h : Below w5.heap.size w5 W) => ralike_spec A a c A' b c' W hc24 hd24 herr (HSA.out W h) (HSB.out W h)
            have HRB := Lib.hid fun W (h : Below w5.heap.size w5 W) => rbound_spec A a c A' b c' B rs d W hc24 hd24 hbr hbrs (HSA.out W h) (HSB.out W h) (HSR.out W h) (HRR.out W h)
            have HCM := Lib.hid fun W (h : Below w5.heap.size w5 W) => Common_spec M1 a m1 M2 b m2 W hba hbb (HS1.out _ h) (HS2.out _ h)
            have HAL := Lib.hid fun W (h : Below w5.heap.size w5 W) => Alike_spec M1 a m1 M2 b m2 W hba hbb (HS1.out _ h) (HS2.out _ h)
            have HBD := Lib.hid fun W (h : Below w5.heap.size w5 W) => Bound_spec M1 a m1 M2 b m2 M3 ls m3 W hba hbb hbl hbls hm1 hm2 hm3 (HS1.out _ h) (HS2.out _ h) (HS3.out _ h) (HR3.out _ h)
            have HLV := Lib.hid fun W (h : Below w5.heap.size w5 W) => levels_good M1 a m1 M2 b m2 W ga gb (HS1.out _ h) (HS2.out _ h)
            have HRB2 := Lib.hid fun W (h : Below w5.heap.size w5 W) (V : Option Addr) (lv : List (Rw Int)) (cv : Nat) (hq : lv.map Rw.xs = File.levs a b) (h1 : Sl (rwE Int) W V lv) (h2 : RowsR intE W lv) => rbound_spec A a c A' b c' V lv cv W hc24 hd24 (by have := congrArg List.length hq; rw [List.length_map, File.levs_len] at this; unfold big; omega) (fun r hr => by
              have : r.xs ∈ File.levs a b := by rw [← hq]; exact List.mem_map_of_mem hr
              obtain ⟨i, _, hi⟩ := List.mem_map.1 this
              rw [← hi, File.rowL_len]; unfold big; omega) (HSA.out W h) (HSB.out W h) h1 h2
            have hbl2 := bound_levs herr hc24
            simp only [herr, if_true, hls] at HCM HBD
            simp only [ref_bound herr] at HRB HRB2
            obtain ⟨⟨bx, be⟩, hB⟩ : ∃ z, z = boundOf a b (rs.map Rw.xs) := ⟨_, rfl⟩
            simp only [← hB] at HRB HBD
            obtain ⟨⟨p, q, e2⟩, hAk⟩ : ∃ z, z = alikeOf a b := ⟨_, rfl⟩
            simp only [← hAk] at HRA HAL
            have HBL2 := Lib.hid hbl2
            obtain ⟨L, hL⟩ : ∃ L, L = File.common a b := ⟨_, rfl⟩
            simp only [← hL] at HRC HCM hLl hlc
            have HLC := Lib.hid hlc
            have hLb : L.length ≤ big := by unfold big; omega
            have hbe : (be != be) = false := by simp
            have hbxx : (bx != bx) = false := by simp
            have he2 : (e2 != e2) = false := by simp
            have heq1 : ∀ w, (Op.equalIn 10000 35 (.agg #[iv p, iv q]) (.agg #[iv p, iv q])).run Tryd.prog w = .ok true w := fun w => by rw [eqRat]; simp
            clear hB hAk hL hbl2 hlc hca hcb hls herr ga gb
            go_wp2_with fail
            refine (HCA.out w5 (Below.refl _ _)).mono ?_
            rintro e w6 ⟨rfl, hb6⟩
            go_wp2_with fail
            refine (HCB.out w6 hb6).mono ?_
            rintro e w7 ⟨rfl, hb7⟩
            have hb57 := hb6.next hb7 (Nat.le_refl _)
            clear HCA HCB
            have hR8 : Below w7.heap.size w7 (w7.alloc (.cells #[Value.int .i64 0, Value.int .i64 0] 35)) := (Below.refl _ _).alloc (Nat.le_refl _) _
            have hB8 : Blk (w7.alloc (.cells #[Value.int .i64 0, Value.int .i64 0] 35)) w7.heap.size 35 #[iv 0, iv 0] := Blk.new _ _ _
            have hb58 := hb57.next hR8 (Nat.le_refl _)
            go_upto_region 12 with fail
            generalize w7.alloc (.cells #[Value.int .i64 0, Value.int .i64 0] 35) = w8 at *
            have hgl := hB8.lt
            go_wp2_with fail
            refine (HRC.out w8 hb58).mono ?_
            rintro e w9 ⟨v9, rfl, ho9, hb9⟩
            obtain ⟨A9, c9, rfl, _, _⟩ := ho9.form
            have hb59 := hb58.next hb9 (Nat.le_refl _)
            have hb79 := hR8.next hb9 (Nat.le_refl _)
            have hB9 := hB8.under hb9
            go_wp2_with fail
            refine (HRA.out w9 hb59).mono ?_
            rintro e w10 ⟨rfl, hb10⟩
            have hB10 := hB9.under hb10
            have ho10 := ho9.below hb10
            have hb710 := hb79.next hb10 (Nat.le_refl _)
            have r0 := hB10.cell 0
            have r1 := hB10.cell 1
            have f0 := hB10.frozen 0
            have f1 := hB10.frozen 1
            have hl10 := hB10.lt
            have HB11 : Hid (Blk ((w10.setCell ⟨w7.heap.size, 0, none⟩ (iv p)).setCell ⟨w7.heap.size, 1, none⟩ (iv q)) w7.heap.size 35 #[iv p, iv q]) := Lib.hid ((hB10.set_ 0 (iv p)).set_ 1 (iv q))
            have HO11 : Hid (Own pairE 46 w8.heap.size ((w10.setCell ⟨w7.heap.size, 0, none⟩ (iv p)).setCell ⟨w7.heap.size, 1, none⟩ (iv q)) (.slice A9 L.length c9) L) := Lib.hid ((ho10.setCell (p := ⟨w7.heap.size, 0, none⟩) hgl _).setCell (p := ⟨w7.heap.size, 1, none⟩) hgl _)
            have hb711 : Below w7.heap.size w7 ((w10.setCell ⟨w7.heap.size, 0, none⟩ (iv p)).setCell ⟨w7.heap.size, 1, none⟩ (iv q)) := (hb710.setCell (p := ⟨w7.heap.size, 0, none⟩) (Nat.le_refl _) _).setCell (p := ⟨w7.heap.size, 1, none⟩) (Nat.le_refl _) _
            go_upto_region 14 with fail
            clear r0 r1 f0 f1 hB8 hB9 hB10 ho9 ho10 hb79 hb710 hb9 hb10 HRC HRA
            generalize (w10.setCell ⟨w7.heap.size, 0, none⟩ (iv p)).setCell ⟨w7.heap.size, 1, none⟩ (iv q) = w11 at *
            have hb511 := hb57.next hb711 (Nat.le_refl _)
            generalize w7.heap.size = g7 at *
            generalize w8.heap.size = g8 at *
            go_wp2_with fail
            refine (HRB.out w11 hb511).mono ?_
            rintro e w12 ⟨rfl, hb12⟩
            have hb512 := hb511.next hb12 (Nat.le_refl _)
            go_wp2_with fail
            refine (HCM.out w12 hb512).mono ?_
            rintro e w13 ⟨v13, rfl, ho13, hb13⟩
            obtain ⟨A13, c13, rfl, _, _⟩ := ho13.form
            have hb513 := hb512.next hb13 (Nat.le_refl _)
            have hb1113 := hb12.next hb13 (Nat.le_refl _)
            go_wp2_with fail
            refine (HAL.out w13 hb513).mono ?_
            rintro e w14 ⟨rfl, hb14⟩
            have hb514 := hb513.next hb14 (Nat.le_refl _)
            have hb1114 := hb1113.next hb14 (Nat.le_refl _)
            have ho14 := ho13.below hb14
            have hbX : Below w14.heap.size w14 (w14.alloc (.cells #[iv p, iv q] 35)) := (Below.refl _ _).alloc (Nat.le_refl _) _
            have hX : Blk (w14.alloc (.cells #[iv p, iv q] 35)) w14.heap.size 35 #[iv p, iv q] := Blk.new _ _ _
            go_upto_region 17 with fail
            generalize w14.alloc (.cells #[iv p, iv q] 35) = w15 at *
            have hb515 := hb514.next hbX (Nat.le_refl _)
            have hb1115 := hb1114.next hbX (Nat.le_refl _)
            have ho15 := ho14.below hbX
            generalize w14.heap.size = g14 at *
            clear HRB HCM HAL ho13 ho14 hb511 hb512 hb513 hb514 hb1113 hb1114 hb12 hb13 hb14 hbX
            go_wp2_with fail
            refine (HBD.out w15 hb515).mono ?_
            rintro e w16 ⟨rfl, hb16⟩
            have hb516 := hb515.next hb16 (Nat.le_refl _)
            go_wp2_with fail
            refine (HLV.out w16 hb516).mono ?_
            rintro e w17 ⟨v17, lv, rfl, ho17, hr17, hq17, hb17⟩
            obtain ⟨A17, c17, rfl, hc17, _⟩ := ho17.form
            have hb517 := hb516.next hb17 (Nat.le_refl _)
            have hb1517 := hb16.next hb17 (Nat.le_refl _)
            have hb1117 := hb1115.next hb1517 (Nat.le_refl _)
            have hP1 := eqAr A13 L c13 A9 L c9 w17 hLb (ho15.below hb1517).sl hLb (HO11.out.below hb1117).sl
            rw [decide_eq_true rfl] at hP1
            have HP2 := Lib.hid fun W (h : Below w17.heap.size w17 W) => HEA.out W (hb517.next h (Nat.le_refl _))
            have HP3 := Lib.hid fun W (h : Below w17.heap.size w17 W) => HEB.out W (hb517.next h (Nat.le_refl _))
            have HP4 := Lib.hid fun W (h : Below w17.heap.size w17 W) => HEL.out W (hb517.next h (Nat.le_refl _))
            have HD := Lib.hid (HB11.out.under hb1117)
            have HY := Lib.hid (hX.under hb1517)
            have HP5 := Lib.hid fun W (h : Below w17.heap.size w17 W) => HRB2.out W (hb517.next h (Nat.le_refl _)) A17 lv c17 hq17 (ho17.sl.below h) (fun r hr => ⟨(hr17 r hr).1.sl.below h, (hr17 r hr).2⟩)
            simp only [hq17, HBL2.out] at HP5
            clear HBD HLV HRB2 ho15 HO11 HB11 hX ho17 hr17 hq17 hb515 hb516 hb1115 hb1517 hb1117 hb16 hb17
            go_wp2_with fail
            refine hP1.mono ?_
            rintro e w18 ⟨rfl, hb18⟩
            have d0 := (HD.out.under hb18).cell 0
            have d1 := (HD.out.under hb18).cell 1
            have y0 := (HY.out.under hb18).cell 0
            have y1 := (HY.out.under hb18).cell 1
            have hdl := (HD.out.under hb18).lt
            have hyl := (HY.out.under hb18).lt
            go_wp2_with fail
            refine (HP2.out w18 hb18).mono ?_
            rintro e w19 ⟨rfl, hb19⟩
            have hb1719 := hb18.next hb19 (Nat.le_refl _)
            clear d0 d1 y0 y1 hdl hyl hP1
            go_wp2_with fail
            refine (HP3.out w19 hb1719).mono ?_
            rintro e w20 ⟨rfl, hb20⟩
            have hb1720 := hb1719.next hb20 (Nat.le_refl _)
            go_wp2_with fail
            refine (HP4.out w20 hb1720).mono ?_
            rintro e w21 ⟨rfl, hb21⟩
            have hb1721 := hb1720.next hb21 (Nat.le_refl _)
            go_wp2_with fail
            refine (HP5.out w21 hb1721).mono ?_
            rintro e w22 ⟨rfl, hb22⟩
            have hb1722 := hb1721.next hb22 (Nat.le_refl _)
            have hb022 := hb05.next (hb517.next hb1722 (Nat.le_refl _)) (Nat.le_refl _)
            have hll : ((L.length : Int) == (L.length : Int)) = true := by simp
            rw [← HLC.out]
            go_wp2_with fail
            refine (HAW.out _ hb022).mono ?_
            rintro _ wz ⟨rfl, hbz⟩
            go_wp2_with fail
            go_ret
            exact ⟨rfl, (hb022).next hbz (Nat.le_refl _)⟩
          · have hE0 : errOf a b ≠ 0 := by unfold errOf; rw [if_pos hca]; exact hcb
            have heE : errOf a b = File.check b := by unfold errOf; rw [if_pos hca]
            rw [← heE] at HCB
            go_wp2_with fail
            refine (HCA.out w5 (Below.refl _ _)).mono ?_
            rintro e w6 ⟨rfl, hb6⟩
            go_wp2_with fail
            refine (HCB.out w6 hb6).mono ?_
            rintro e w7 ⟨rfl, hb7⟩
            clear HCA HCB hca hcb heE
            -- from here on: world w7, hb0 : x : Below w w7, the error E ≠ 0
            have hb57 := hb6.next hb7 (Nat.le_refl _)
            have hR8 : Below (w7).heap.size w7 ((w7).alloc (.cells #[Value.int .i64 0, Value.int .i64 0] 35)) := (Below.refl _ _).alloc (Nat.le_refl _) _
            have hB8 : Blk ((w7).alloc (.cells #[Value.int .i64 0, Value.int .i64 0] 35)) (w7).heap.size 35 #[iv 0, iv 0] := Blk.new _ _ _
            have hb58 := hb57.next hR8 (Nat.le_refl _)
            have HCM := Common_spec M1 a m1 M2 b m2 ((w7).alloc (.cells #[Value.int .i64 0, Value.int .i64 0] 35)) hba hbb (HS1.out _ hb58) (HS2.out _ hb58)
            rw [if_neg hE0] at HCM
            have HAL := Lib.hid fun W (h : Below w5.heap.size w5 W) => Alike_spec M1 a m1 M2 b m2 W hba hbb (HS1.out _ h) (HS2.out _ h)
            have HBD := Lib.hid fun W (h : Below w5.heap.size w5 W) => Bound_spec M1 a m1 M2 b m2 M3 ls m3 W hba hbb hbl hbls hm1 hm2 hm3 (HS1.out _ h) (HS2.out _ h) (HS3.out _ h) (HR3.out _ h)
            have HLV := Lib.hid fun W (h : Below w5.heap.size w5 W) => levels_bad M1 a m1 M2 b m2 W hba hbb (HS1.out _ h) (HS2.out _ h) hE0
            have hal : alikeOf a b = (0, 0, errOf a b) := by unfold alikeOf; rw [if_neg hE0]
            have hbo : boundOf a b (ls.map Rw.xs) = (0, errOf a b) := by unfold boundOf; rw [if_neg hE0]
            simp only [hal] at HAL
            simp only [hbo] at HBD
            obtain ⟨E, hE⟩ : ∃ E, E = errOf a b := ⟨_, rfl⟩
            rw [← hE] at HCM hE0
            simp only [← hE] at HAL HBD HLV
            have hEq : (E != E) = false := by simp
            have hEn : (E != 0) = true := by simpa using hE0
            have hEz : (E == 0) = false := by simpa using hE0
            rw [← hE]; clear hE hal hbo; go_upto_region 15 with fail
            generalize (w7).alloc (.cells #[Value.int .i64 0, Value.int .i64 0] 35) = w8 at *
            go_wp2_with fail
            refine HCM.mono ?_
            rintro e w9 ⟨v9, rfl, ho9, hb9⟩
            obtain ⟨A9, c9, rfl, _, _⟩ := ho9.form
            have hb59 := hb58.next hb9 (Nat.le_refl _)
            have hB9 := hB8.under hb9
            go_wp2_with fail
            refine (HAL.out w9 hb59).mono ?_
            rintro e w10 ⟨rfl, hb10⟩
            have hb510 := hb59.next hb10 (Nat.le_refl _)
            have hB10 := hB9.under hb10
            have ho10 := ho9.below hb10
            have hbX : Below w10.heap.size w10 (w10.alloc (.cells #[iv 0, iv 0] 35)) := (Below.refl _ _).alloc (Nat.le_refl _) _
            have hX : Blk (w10.alloc (.cells #[iv 0, iv 0] 35)) w10.heap.size 35 #[iv 0, iv 0] := Blk.new _ _ _
            go_upto_region 17 with fail
            generalize w10.alloc (.cells #[iv 0, iv 0] 35) = w11 at *
            have hb511 := hb510.next hbX (Nat.le_refl _)
            have hB11 := hB10.under hbX
            have ho11 := ho10.below hbX
            go_wp2_with fail
            refine (HBD.out w11 hb511).mono ?_
            rintro e w12 ⟨rfl, hb12⟩
            have hb512 := hb511.next hb12 (Nat.le_refl _)
            go_wp2_with fail
            refine (HLV.out w12 hb512).mono ?_
            rintro e w13 ⟨rfl, hb13⟩
            have hb513 := hb512.next hb13 (Nat.le_refl _)
            have hb1113 := hb12.next hb13 (Nat.le_refl _)
            have hP1 := eqAr A9 [] c9 none [] 0 w13 (by simp [big]) (ho11.below hb1113).sl (by simp [big]) Sl.nil
            have hP2 := Lib.hid fun W (h : Below w13.heap.size w13 W) => HEA.out W (hb513.next h (Nat.le_refl _))
            have hP3 := Lib.hid fun W (h : Below w13.heap.size w13 W) => HEB.out W (hb513.next h (Nat.le_refl _))
            have hP4 := Lib.hid fun W (h : Below w13.heap.size w13 W) => HEL.out W (hb513.next h (Nat.le_refl _))
            have hD := hB11.under hb1113
            have hY := hX.under hb1113
            simp only [decide_true, List.length_nil] at hP1
            go_wp2_with fail
            refine hP1.mono ?_
            rintro e w14 ⟨rfl, hb14⟩
            have hD4 := hD.under hb14
            have hY4 := hY.under hb14
            have d0 := hD4.cell 0
            have d1 := hD4.cell 1
            have y0 := hY4.cell 0
            have y1 := hY4.cell 1
            have hdl := hD4.lt
            have hyl := hY4.lt
            have heq1 : ∀ w, (Op.equalIn 10000 35 (.agg #[iv 0, iv 0]) (.agg #[iv 0, iv 0])).run Tryd.prog w = .ok true w := fun w => by rw [eqRat]; rfl
            go_wp2_with fail
            refine (hP2.out w14 hb14).mono ?_
            rintro e w15 ⟨rfl, hb15⟩
            have hb1315 := hb14.next hb15 (Nat.le_refl _)
            clear d0 d1 y0 y1
            go_wp2_with fail
            refine (hP3.out w15 hb1315).mono ?_
            rintro e w16 ⟨rfl, hb16⟩
            have hb1316 := hb1315.next hb16 (Nat.le_refl _)
            go_wp2_with fail
            refine (hP4.out w16 hb1316).mono ?_
            rintro e w17 ⟨rfl, hb17⟩
            have hb517 := hb513.next (hb1316.next hb17 (Nat.le_refl _)) (Nat.le_refl _)
            have hb017 := hb05.next hb517 (Nat.le_refl _)
            go_wp2_with fail
            refine (HAW.out _ hb017).mono ?_
            rintro _ wz ⟨rfl, hbz⟩
            go_wp2_with fail
            go_ret
            exact ⟨rfl, (hb017).next hbz (Nat.le_refl _)⟩
        · have hE0 : errOf a b ≠ 0 := by unfold errOf; rw [if_neg hca]; exact hca
          have heE : errOf a b = File.check a := by unfold errOf; rw [if_neg hca]
          rw [← heE] at HCA
          go_wp2_with fail
          refine (HCA.out w5 (Below.refl _ _)).mono ?_
          rintro e w7 ⟨rfl, hb7⟩
          clear HCA HCB hca heE
          -- from here on: world w7, hb0 : x : Below w w7, the error E ≠ 0
          have hb57 := hb7
          have hR8 : Below (w7).heap.size w7 ((w7).alloc (.cells #[Value.int .i64 0, Value.int .i64 0] 35)) := (Below.refl _ _).alloc (Nat.le_refl _) _
          have hB8 : Blk ((w7).alloc (.cells #[Value.int .i64 0, Value.int .i64 0] 35)) (w7).heap.size 35 #[iv 0, iv 0] := Blk.new _ _ _
          have hb58 := hb57.next hR8 (Nat.le_refl _)
          have HCM := Common_spec M1 a m1 M2 b m2 ((w7).alloc (.cells #[Value.int .i64 0, Value.int .i64 0] 35)) hba hbb (HS1.out _ hb58) (HS2.out _ hb58)
          rw [if_neg hE0] at HCM
          have HAL := Lib.hid fun W (h : Below w5.heap.size w5 W) => Alike_spec M1 a m1 M2 b m2 W hba hbb (HS1.out _ h) (HS2.out _ h)
          have HBD := Lib.hid fun W (h : Below w5.heap.size w5 W) => Bound_spec M1 a m1 M2 b m2 M3 ls m3 W hba hbb hbl hbls hm1 hm2 hm3 (HS1.out _ h) (HS2.out _ h) (HS3.out _ h) (HR3.out _ h)
          have HLV := Lib.hid fun W (h : Below w5.heap.size w5 W) => levels_bad M1 a m1 M2 b m2 W hba hbb (HS1.out _ h) (HS2.out _ h) hE0
          have hal : alikeOf a b = (0, 0, errOf a b) := by unfold alikeOf; rw [if_neg hE0]
          have hbo : boundOf a b (ls.map Rw.xs) = (0, errOf a b) := by unfold boundOf; rw [if_neg hE0]
          simp only [hal] at HAL
          simp only [hbo] at HBD
          obtain ⟨E, hE⟩ : ∃ E, E = errOf a b := ⟨_, rfl⟩
          rw [← hE] at HCM hE0
          simp only [← hE] at HAL HBD HLV
          have hEq : (E != E) = false := by simp
          have hEn : (E != 0) = true := by simpa using hE0
          have hEz : (E == 0) = false := by simpa using hE0
          rw [← hE]; clear hE hal hbo; go_upto_region 15 with fail
          generalize (w7).alloc (.cells #[Value.int .i64 0, Value.int .i64 0] 35) = w8 at *
          go_wp2_with fail
          refine HCM.mono ?_
          rintro e w9 ⟨v9, rfl, ho9, hb9⟩
          obtain ⟨A9, c9, rfl, _, _⟩ := ho9.form
          have hb59 := hb58.next hb9 (Nat.le_refl _)
          have hB9 := hB8.under hb9
          go_wp2_with fail
          refine (HAL.out w9 hb59).mono ?_
          rintro e w10 ⟨rfl, hb10⟩
          have hb510 := hb59.next hb10 (Nat.le_refl _)
          have hB10 := hB9.under hb10
          have ho10 := ho9.below hb10
          have hbX : Below w10.heap.size w10 (w10.alloc (.cells #[iv 0, iv 0] 35)) := (Below.refl _ _).alloc (Nat.le_refl _) _
          have hX : Blk (w10.alloc (.cells #[iv 0, iv 0] 35)) w10.heap.size 35 #[iv 0, iv 0] := Blk.new _ _ _
          go_upto_region 17 with fail
          generalize w10.alloc (.cells #[iv 0, iv 0] 35) = w11 at *
          have hb511 := hb510.next hbX (Nat.le_refl _)
          have hB11 := hB10.under hbX
          have ho11 := ho10.below hbX
          go_wp2_with fail
          refine (HBD.out w11 hb511).mono ?_
          rintro e w12 ⟨rfl, hb12⟩
          have hb512 := hb511.next hb12 (Nat.le_refl _)
          go_wp2_with fail
          refine (HLV.out w12 hb512).mono ?_
          rintro e w13 ⟨rfl, hb13⟩
          have hb513 := hb512.next hb13 (Nat.le_refl _)
          have hb1113 := hb12.next hb13 (Nat.le_refl _)
          have hP1 := eqAr A9 [] c9 none [] 0 w13 (by simp [big]) (ho11.below hb1113).sl (by simp [big]) Sl.nil
          have hP2 := Lib.hid fun W (h : Below w13.heap.size w13 W) => HEA.out W (hb513.next h (Nat.le_refl _))
          have hP3 := Lib.hid fun W (h : Below w13.heap.size w13 W) => HEB.out W (hb513.next h (Nat.le_refl _))
          have hP4 := Lib.hid fun W (h : Below w13.heap.size w13 W) => HEL.out W (hb513.next h (Nat.le_refl _))
          have hD := hB11.under hb1113
          have hY := hX.under hb1113
          simp only [decide_true, List.length_nil] at hP1
          go_wp2_with fail
          refine hP1.mono ?_
          rintro e w14 ⟨rfl, hb14⟩
          have hD4 := hD.under hb14
          have hY4 := hY.under hb14
          have d0 := hD4.cell 0
          have d1 := hD4.cell 1
          have y0 := hY4.cell 0
          have y1 := hY4.cell 1
          have hdl := hD4.lt
          have hyl := hY4.lt
          have heq1 : ∀ w, (Op.equalIn 10000 35 (.agg #[iv 0, iv 0]) (.agg #[iv 0, iv 0])).run Tryd.prog w = .ok true w := fun w => by rw [eqRat]; rfl
          go_wp2_with fail
          refine (hP2.out w14 hb14).mono ?_
          rintro e w15 ⟨rfl, hb15⟩
          have hb1315 := hb14.next hb15 (Nat.le_refl _)
          clear d0 d1 y0 y1
          go_wp2_with fail
          refine (hP3.out w15 hb1315).mono ?_
          rintro e w16 ⟨rfl, hb16⟩
          have hb1316 := hb1315.next hb16 (Nat.le_refl _)
          go_wp2_with fail
          refine (hP4.out w16 hb1316).mono ?_
          rintro e w17 ⟨rfl, hb17⟩
          have hb517 := hb513.next (hb1316.next hb17 (Nat.le_refl _)) (Nat.le_refl _)
          have hb017 := hb05.next hb517 (Nat.le_refl _)
          go_wp2_with fail
          refine (HAW.out _ hb017).mono ?_
          rintro _ wz ⟨rfl, hbz⟩
          go_wp2_with fail
          go_ret
          exact ⟨rfl, (hb017).next hbz (Nat.le_refl _)⟩
      · clear han
        go_enter Tryd.func3, Tryd.ntmps3
        go_wp2_with fail
        refine HGR.out.mono ?_
        rintro e w1 ⟨rfl, hb1⟩
        go_wp2_with fail
        refine (HCT.out w1 hb1).mono ?_
        rintro e w2 ⟨rfl, hb2⟩
        have hb02 := hb1.next hb2 (Nat.le_refl _)
        go_wp2_with fail
        refine (HAW.out _ hb02).mono ?_
        rintro _ wz ⟨rfl, hbz⟩
        go_wp2_with fail
        go_ret
        exact ⟨rfl, (hb02).next hbz (Nat.le_refl _)⟩
  · clear hgr
    go_enter Tryd.func3, Tryd.ntmps3
    go_wp2_with fail
    refine HGR.out.mono ?_
    rintro e w1 ⟨rfl, hb1⟩
    go_wp2_with fail
    refine (HAW.out _ hb1).mono ?_
    rintro _ wz ⟨rfl, hbz⟩
    go_wp2_with fail
    go_ret
    exact ⟨rfl, (hb1).next hbz (Nat.le_refl _)⟩
end Fl
end Go.Proofs.YtekkhnjepcebkaaDoor
-- FilePairs holds. No condition.
namespace Go.Proofs.YtekkhnjepcebkaaDoor.fpairs
open Go.ChangeShapes Go.WideShapes Go.ChangeAt Go.RowKit
set_option maxRecDepth 100000

theorem contract (H : Type) (enc : TypeId × Value → H) (W : World) (base : Nat) (args : Array Value) (ds gs : List (DataW H)) (before : List MemPlace)
    (hval : ∀ (j : Nat) t v, Tryd.f3.params[j]? = some t → args[j]? = some v → Value.okWide Tryd.prog W .any base t v)
    (hW : DataW.Whole enc Tryd.prog Tryd.f3.params.toList Rows.filePairsSpec.vars false W args.toList ds gs before) (hL : laidMetH Tryd.prog Rows.filePairsRow.laid W) :
    Calls Tryd.prog 3 args W fun e W' => ∃ v, e = .returned v ∧ Rows.filePairsSpec.post enc Tryd.prog Tryd.f3 false true false false W args v W' := by
  have hW' := hW
  obtain ⟨p, q, hA0, hV, he, hfz, hnd⟩ := hW
  have hA : DataW.TrodAll enc Tryd.prog W 0 (fun _ => true) true Tryd.f3.params.toList args.toList ds p := hA0
  rw [Tryd.params3] at hA hval
  obtain ⟨v0, vs0, d0, ds0, p0, q0, hargs, rfl, rfl, h0, r0⟩ := trodAll_cons hA
  obtain ⟨v1, vs1, d1, ds1, p1, q1, rfl, rfl, rfl, h1, r1⟩ := trodAll_cons r0
  obtain ⟨v2, vs2, d2, ds2, p2, q2, rfl, rfl, rfl, h2, r2⟩ := trodAll_cons r1
  obtain ⟨rfl, rfl, rfl⟩ := trodAll_nil r2
  obtain rfl : args = #[v0, v1, v2] := by cases args; simp_all
  obtain ⟨rfl, rfl⟩ := trodVars_none hV
  obtain ⟨A, a, c, rfl, hc, hm, hs⟩ := openStrs (hval 0 _ v0 rfl rfl) h0
  obtain ⟨A', b, c', rfl, hc', hm', hs'⟩ := openStrs (hval 1 _ v1 rfl rfl) h1
  obtain ⟨B, rs, d, rfl, hd, hm2, hsr, hrr, _⟩ := openRowsI (hval 2 _ v2 rfl rfl) h2
  refine (Fl.filepairs_law A a c A' b c' B rs d W hc hc' hs hs' hsr hrr (tab_of hL)).mono fun e W' ⟨he', hb⟩ => ?_
  subst he'
  exact ⟨_, rfl, law_post (by rw [Tryd.params3]; decide) rfl rfl Tryd.underlying4 hW' hb rfl rfl rfl⟩
theorem reads (os : Os) {H : Type} (enc : TypeId × Value → H) : ∃ places, DataW.whole enc Tryd.prog ((laidWorld os).forCall (fun _ _ => 0) ⟨#[], #[.slice none 0 0, .slice none 0 0, .slice none 0 0], []⟩).memory Tryd.f3.params.toList Rows.filePairsSpec.vars false #[Value.slice none 0 0, Value.slice none 0 0, Value.slice none 0 0].toList 8 = some ([.nil, .nil, .nil], [], places) :=
  ⟨[], by kernel_rfl⟩
theorem lifted (os : Os) (started : os.Started) (H : Type) (enc : TypeId × Value → H) (F : Stop.Interp) :
    ReturnsInHanded {} Tryd.checked os 3 .any ((OpenSpec.ofChange Rows.filePairsSpec).preRow enc Tryd.prog Tryd.f3 Rows.filePairsRow.domain false Rows.filePairsRow.laid) (((OpenSpec.ofChange Rows.filePairsSpec).at F).post enc Tryd.prog Tryd.f3 false true false false) := by
  obtain ⟨places, hx⟩ := reads os enc
  refine returnsInHanded_of_row (C := Tryd.checked) (s := OpenSpec.ofChange Rows.filePairsSpec) own started (by kernel_rfl) Tryd.func3
    (witness_row_at (enc := enc) (C := Tryd.checked) false (laidWorld os) #[.slice none 0 0, .slice none 0 0, .slice none 0 0] rfl (by kernel_rfl) (by kernel_rfl) (by kernel_rfl)
      (OpenSpec.preRow_of_cond 8 hx (by kernel_rfl) (fun k hk => by cases hk) (by kernel_rfl) (laid_met os _))) ?_
  intro W base args ds gs before hval hW _ _ _ hL _ _
  exact contract H enc W base args ds gs before hval hW hL
theorem said : Rows.FilePairsSaid :=
  OpenClaim.holds_of_cond 3 Tryd.f3 rfl rfl rfl rfl rfl rfl rfl ⟨rfl, rfl, rfl, rfl, rfl⟩ rfl rfl rfl rfl rfl (by kernel_rfl) Tryd.func3 (by kernel_rfl)
    (of_decide_eq_true (by kernel_rfl)) (by unfold Func.isWrapper; first | (rw [if_pos (by decide +kernel)]; kernel_rfl) | (rw [if_neg (by decide +kernel)]; exact ⟨rfl, rfl⟩))
    (fun os started H enc _ F => by rw [OpenClaim.pre_eq_preRow]; exact lifted os started H enc F)
theorem plain (f : FuncId) (fn : Func) (hf : Tryd.pinned.checked.prog.funcNamed "petersham/petershamlaw11.FilePairs" = some f) (hfn : Tryd.pinned.checked.prog.funcs[f]? = some fn) :
    false = Tryd.pinned.checked.prog.looks [] ∧ ∀ (j : Nat) t, fn.params[j]? = some t → Tryd.pinned.checked.prog.wantsStandIn t = false := by
  obtain rfl : f = 3 := Option.some.inj ((show Tryd.prog.funcNamed "petersham/petershamlaw11.FilePairs" = some 3 by kernel_rfl).symm.trans hf) |>.symm
  obtain rfl : fn = Tryd.f3 := (Option.some.inj (Tryd.func3.symm.trans hfn)).symm
  refine ⟨by kernel_rfl, fun j t ht => ?_⟩
  rw [Tryd.params3] at ht
  have ht' := Array.mem_of_getElem? ht
  simp at ht'
  rcases ht' with rfl | rfl
  · exact (show Tryd.prog.wantsStandIn 22 = false by kernel_rfl)
  · exact (show Tryd.prog.wantsStandIn 23 = false by kernel_rfl)
/-- THE CARD. -/
theorem card : Rows.FilePairsCardSaid :=
  Claim7.holds_tied_plain_at .later [] _ _ _ _ said (fun _ h => by cases h) (by kernel_rfl) (fun _ h => by cases h) filePairs_row_tie rfl ⟨rfl, rfl⟩ (by kernel_rfl) rfl plain (by kernel_rfl)
end Go.Proofs.YtekkhnjepcebkaaDoor.fpairs
