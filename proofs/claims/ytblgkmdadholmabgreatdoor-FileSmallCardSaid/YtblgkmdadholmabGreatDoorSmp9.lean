/- What the proof of the claim's theorem uses, part 9. The conditions stand in each statement. -/
import Derived.Test.YtblgkmdadholmabGreatDoorSmp8
set_option linter.unusedVariables false
set_option linter.unusedSimpArgs false
set_option maxRecDepth 100000
namespace Go.Proofs.YtblgkmdadholmabGreatDoor
section
namespace File
def preRow (a b : List ByteArray) (i : Nat) : List Int := (List.range (b.length + 1)).map fun j => ((pre a b i j : Nat) : Int)
theorem preRow_len (a b : List ByteArray) (i : Nat) : (preRow a b i).length = b.length + 1 := by simp [preRow]
theorem preRow_at (a b : List ByteArray) (i : Nat) {j : Nat} (h : j < b.length + 1) : (preRow a b i)[j]? = some ((pre a b i j : Nat) : Int) := by simp [preRow, List.getElem?_map, List.getElem?_range h]
theorem preRow_zero (a b : List ByteArray) : preRow a b 0 = List.replicate (b.length + 1) 0 := by
 apply List.ext_getElem?;intro j
 by_cases h : j < b.length + 1
 ·rw [preRow_at a b 0 h, List.getElem?_replicate, if_pos h, pre_zero]; rfl
 ·rw [List.getElem?_eq_none (by rw [preRow_len]; omega), List.getElem?_eq_none (by simp; omega)]
end File
namespace Fl
open Go.RowKit
def Run (a b : List ByteArray) (i j : Nat) (ys : List Int) : Prop := ys.length = b.length + 1 ∧ ∀ q, q ≤ j → q ≤ b.length → ys[q]? = some ((File.pre a b (i + 1) q : Nat) : Int)
theorem Run.start (a b : List ByteArray) (i : Nat) : Run a b i 0 (List.replicate (b.length + 1) 0) := ⟨List.length_replicate, fun q h _ => by
 have : q = 0 := (by omega);subst this;rw [List.getElem?_replicate, if_pos (by omega), File.pre_none]; rfl⟩
theorem Run.next {a b : List ByteArray} {i j : Nat} {ys : List Int} (h : Run a b i j ys) {m : Int} (hj : j < b.length) (hm : m = ((File.pre a b (i + 1) (j + 1) : Nat) : Int)) : Run a b i (j + 1) (ys.set (j + 1) m) := by
 obtain ⟨h1, h2⟩ := h;refine ⟨by rw [List.length_set]; exact h1, fun q hq hb => ?_⟩
 by_cases he : q = j + 1
 ·subst he; rw [List.getElem?_set_self (by omega), hm]
 ·rw [List.getElem?_set_ne (by omega)]; exact h2 q (by omega) hb
theorem Run.full {a b : List ByteArray} {i : Nat} {ys : List Int} (h : Run a b i b.length ys) : ys = File.preRow a b (i + 1) := by
 obtain ⟨h1, h2⟩ := h;apply List.ext_getElem?;intro q
 by_cases hq : q < b.length + 1
 ·rw [h2 q (by omega) (by omega), File.preRow_at a b (i + 1) hq]
 ·rw [List.getElem?_eq_none (by omega), List.getElem?_eq_none (by rw [File.preRow_len]; omega)]
set_option maxHeartbeats 8000000 in
theorem most_spec (A : Option Addr) (a : List ByteArray) (c : Nat) (A' : Option Addr) (b : List ByteArray) (c' : Nat) (w : World) (ha : a.length ≤ 24) (hb : b.length ≤ 24) (hsa : Sl strE w A a) (hsb : Sl strE w A' b) :
  Calls Tryz.prog 92 #[.slice A a.length c, .slice A' b.length c'] w fun e w' => e = .returned (iv (File.lcs a b : Nat)) ∧ Below w.heap.size w w' := by
 go_enter Tryz.func92, Tryz.ntmps92
 go_wp2_with (at_make; refine wpMakeN intE tyInts 0 zero_int rfl _ _ rfl (b.length + 1) rfl rfl (by unfold big; omega) ?_; intro w1 hown1 hb1)
 have hb1' := hb1
 go_loopw [5, 6, 7, 8] (fun u i _ _ wr => ∃ (k g : Nat), k ≤ a.length ∧ i = iv k ∧ u = .slice (some ⟨g, 0, none⟩) (b.length + 1) (b.length + 1) ∧ Hid (Own intE 3 w.heap.size wr (.slice (some ⟨g, 0, none⟩) (b.length + 1) (b.length + 1)) (File.preRow a b k)) ∧ Below w.heap.size w wr) (fun _ i _ _ _ => a.length - (intOf i).toNat)
 case atStart => exact ⟨0, w.heap.size, by omega, rfl, rfl, lH (by rw [File.preRow_zero]; exact hown1), hb1⟩
 case round =>
  obtain ⟨i, g, hi, rfl, rfl, HO, hbr⟩ := hrel
  by_cases hlt : i < a.length
  ·have hii : (i : Int) < (a.length : Int) := (by omega)
   go_wp2_with (at_make; refine wpMakeN intE tyInts 0 zero_int rfl _ _ rfl (b.length + 1) rfl rfl (by unfold big; omega) ?_; intro w4 hown4 hb4)
   have HO4 := lH (HO.out.below hb4);have hgl := Own.lt HO.out g rfl;have hb04 := hbr.next hb4 nL;have hown4' := lH hown4;generalize wr.heap.size = g2 at *;have hg2 := (Own.lt hown4 g2 rfl).2;clear hown1 hb1' hown4 HO hb4 hb1
   go_loopw [8] (fun v wx => ∃ (j : Nat) (ys : List Int), j ≤ b.length ∧ v = iv j ∧ Hid (Run a b i j ys) ∧ Hid (Own intE 3 g2 wx (.slice (some ⟨g2, 0, none⟩) (b.length + 1) (b.length + 1)) ys) ∧ Only g2 w4 wx) (fun v _ => b.length - (intOf v).toNat)
   case atStart => exact ⟨0, _, by omega, rfl, lH (Run.start a b i), hown4', Only.refl _ _⟩
   case round =>
    obtain ⟨j, ys, hj, rfl, HR, HY, hon⟩ := hrel;have hbx := hb04.trans (hon.below.mono (by have := hb04.size; omega))
    by_cases hjl : j < b.length
    ·have hjj : (j : Int) < (b.length : Int) := (by omega);have hOg := Only.own hon HO4.out (by simp [Value.ownBlock]; omega);obtain ⟨X0, hX0⟩ : ∃ X0, X0 = File.pre a b i j := ⟨_, rfl⟩;obtain ⟨X1, hX1⟩ : ∃ X1, X1 = File.pre a b i (j + 1) := ⟨_, rfl⟩;obtain ⟨Y0, hY0⟩ : ∃ Y0, Y0 = File.pre a b (i + 1) j := ⟨_, rfl⟩;obtain ⟨_, _, v0, e0, _, gl0, hv0, hc0, _⟩ := ownI hOg (k := j) (by rw [File.preRow_len]; omega);obtain ⟨_, _, v1, e1, _, _, hv1, hc1, _⟩ := ownI hOg (k := j + 1) (by rw [File.preRow_len]; omega);rw [File.preRow_at a b i (by omega), ← hX0] at hv0;rw [File.preRow_at a b i (by omega), ← hX1] at hv1;have hyl : ys.length = b.length + 1 := HR.out.1;obtain ⟨_, _, v2, e2, _, gl2, hv2, hc2, hf2⟩ := ownI HY.out (k := j) (by omega);rw [HR.out.2 j nL (by omega), ← hY0] at hv2;injection e0 with e0 _ _;injection e0 with e0;injection e0 with e0 _ _;injection e1 with e1 _ _;injection e1 with e1
     injection e1 with e1 _ _;injection e2 with e2 _ _;injection e2 with e2;injection e2 with e2 _ _;subst e0 e1 e2;have hv0 := (Option.some.inj hv0).symm;have hv1 := (Option.some.inj hv1).symm;have hv2 := (Option.some.inj hv2).symm;subst hv0 hv1 hv2
     have HX : Hid (∀ x, Below wr.heap.size wr x → x.cell? ⟨g, j, none⟩ = some (iv (X0 : Int)) ∧ x.cell? ⟨g, j + 1, none⟩ = some (iv (X1 : Int)) ∧ x.cell? ⟨g2, j, none⟩ = some (iv (Y0 : Int))) := lH fun x h =>
      ⟨(h.cell (p := ⟨g, j, none⟩) gl0).trans hc0, (h.cell (p := ⟨g, j + 1, none⟩) gl0).trans hc1, (h.cell (p := ⟨g2, j, none⟩) gl2).trans hc2⟩
     have hXb : X0 ≤ 24 ∧ X1 ≤ 24 ∧ Y0 ≤ 25 := ⟨by rw [hX0]; have := File.pre_le a b i j; omega, by rw [hX1]; have := File.pre_le a b i (j + 1); omega, by rw [hY0]; have := File.pre_le a b (i + 1) j; omega⟩;obtain ⟨ba, oa, sa, rfl, hba, hxa, hca⟩ := Sl.atS (hsa.below hbx) hlt;obtain ⟨bb, ob, sb, rfl, hbb, hxb, hcb⟩ := Sl.atS (hsb.below hbx) hjl;have HST := File.pre_step hxa hxb;rw [← hX0, ← hX1, ← hY0] at HST;have HST := lH HST
     have HSA : Hid (∀ x, Below w.heap.size w x → x.cell? ⟨ba, oa + i, none⟩ = some (.string sa)) := lH fun W h => by
      obtain ⟨_, _, s2, hA', _, hx2, hc2⟩ := Sl.atS (hsa.below h) hlt;injection hA' with hA';injection hA' with e1 e2 _;subst e1; subst e2;rw [hxa] at hx2;rw [hc2, Option.some.inj hx2]
     have HSB : Hid (∀ x, Below w.heap.size w x → x.cell? ⟨bb, ob + j, none⟩ = some (.string sb)) := lH fun W h => by
      obtain ⟨_, _, s2, hA', _, hx2, hc2⟩ := Sl.atS (hsb.below h) hjl;injection hA' with hA';injection hA' with e1 e2 _;subst e1; subst e2;rw [hxb] at hx2;rw [hc2, Option.some.inj hx2]
     obtain ⟨q, hq⟩ : ∃ q, (sa.toList == sb.toList) = q := ⟨_, rfl⟩;have HQ : Hid (q = decide (sa = sb)) := lH (by rw [← hq, str_eq]);have hsx := hon.below.size;have ewj : IntKind.i64.wrap ((j : Int) + 1) = (j : Int) + 1 := IntWalk.i64_in _ (by omega);have ewx : IntKind.i64.wrap ((X0 : Int) + 1) = (X0 : Int) + 1 := IntWalk.i64_in _ (by omega);clear hc0 hc1 hc2 hOg hX0 hX1 hY0 hxa hxb hca hcb hown4'
     go_upto_region 9 with fail
     refine wfl 14 (fun nR x => Below wr.heap.size wr x) (fun x x' => Below x.heap.size x x')
      [eqv (.slice (some ⟨g2, 0, none⟩) (b.length + 1) (b.length + 1)),
       eqv (iv (j : Int)),
       eqv (iv ((j : Int) + 1)),
       eqv (.slice (some ⟨g, 0, none⟩) (b.length + 1) (b.length + 1)),
       eqv (iv (j : Int)),
       eqv (iv ((j : Int) + 1)),
       eqv (.pointer (some ⟨g, j + 1, none⟩)),
       eqv (iv (X1 : Int)),
       eqv (.slice (some ⟨g2, 0, none⟩) (b.length + 1) (b.length + 1)),
       eqv (iv (j : Int)),
       eqv (.pointer (some ⟨g2, j, none⟩)),
       eqv (iv (Y0 : Int)),
       eqv (iv (max (X1 : Int) (Y0 : Int))),
       eqv (.pointer (some ⟨g2, j + 1, none⟩))]
      (Below.refl _ wr).drew ?_ ?_
     ·simp only [List.take_succ_cons, List.take_zero, HopL]
      repeat' apply And.intro
      ·refine fvr fun x hR kk rr _ => ?_
       have := rho0 rr 7;clear rr kk;exact ev0
      ·refine fvr fun x hR kk rr _ => ?_
       have := rho0 rr 8;clear rr kk;exact ev0
      ·refine fvr fun x hR kk rr _ => ?_
       have := rho rr 30 (kk.at 1);clear rr kk;exact ev0
      ·refine fvr fun x hR kk rr _ => ?_
       have := rho0 rr 5;clear rr kk;exact ev0
      ·refine fvr fun x hR kk rr _ => ?_
       have := rho0 rr 8;clear rr kk;exact ev0
      ·refine fvr fun x hR kk rr _ => ?_
       have := rho rr 33 (kk.at 4);clear rr kk;exact ev0
      ·refine fvr fun x hR kk rr _ => ?_
       have := rho rr 32 (kk.at 3);have := rho rr 34 (kk.at 5);clear rr kk;exact ev0
      ·refine fvr fun x hR kk rr _ => ?_
       have := rho rr 35 (kk.at 6);clear rr kk;have g1 := (HX.out x hR).2.1;exact ev0
      ·refine fvr fun x hR kk rr _ => ?_
       have := rho0 rr 7;clear rr kk;exact ev0
      ·refine fvr fun x hR kk rr _ => ?_
       have := rho0 rr 8;clear rr kk;exact ev0
      ·refine fvr fun x hR kk rr _ => ?_
       have := rho rr 37 (kk.at 8);have := rho rr 38 (kk.at 9);clear rr kk;exact ev0
      ·refine fvr fun x hR kk rr _ => ?_
       have := rho rr 39 (kk.at 10);clear rr kk;have g1 := (HX.out x hR).2.2;exact ev0
      ·refine fvr fun x hR kk rr _ => ?_
       have := rho rr 36 (kk.at 7);have := rho rr 40 (kk.at 11);clear rr kk;exact ev0
      ·refine fvr fun x hR kk rr _ => ?_
       have := rho rr 29 (kk.at 0);have := rho rr 31 (kk.at 2);clear rr kk;exact ev0
      ·trivial
     ·intro v nR x1 hnR hR hall;have h12 : v 12 = iv (max (X1 : Int) (Y0 : Int)) := hall 12 (by decide);have h13 : v 13 = .pointer (some ⟨g2, j + 1, none⟩) := hall 13 (by decide);clear hall hnR;simp only [List.drop_succ_cons, List.drop_zero, List.take_succ_cons, List.take_zero, frameF, Act.put, List.setIfInBounds_toArray, List.set_cons_zero, List.set_cons_succ, Nat.zero_add, Nat.reduceAdd, h12, h13];have hY1 := HY.out.below hR;have hY2 := setI hY1 (k := j + 1) (by omega) (max (X1 : Int) (Y0 : Int))
      have hf1 : ∀ o, x1.frozen? ⟨g2, o, none⟩ = false := by
       obtain ⟨_, _, _, e3, _, _, _, _, hf3⟩ := ownI hY1 (k := j) (by omega);injection e3 with e3 _ _;injection e3 with e3;injection e3 with e3 _ _;subst e3;exact hf3
      have hg1 : g2 < x1.heap.size := Nat.lt_of_lt_of_le gl2 hR.size
      have hc1 : ∃ u, x1.cell? ⟨g2, j + 1, none⟩ = some u := by
       obtain ⟨_, _, u, e3, _, _, _, hcc, _⟩ := ownI hY1 (k := j + 1) (by omega);injection e3 with e3 _ _;injection e3 with e3;injection e3 with e3 _ _;subst e3;exact ⟨_, hcc⟩
      obtain ⟨u1, hc1⟩ := hc1;have hon1 : Only g2 w4 (x1.setCell ⟨g2, j + 1, none⟩ (iv (max (X1 : Int) (Y0 : Int)))) := (hon.next hR (by omega)).trans (Only.set_ g2 (j + 1) _ _)
      have hX2 : Hid (∀ x, Below (x1.setCell ⟨g2, j + 1, none⟩ (iv (max (X1 : Int) (Y0 : Int)))).heap.size (x1.setCell ⟨g2, j + 1, none⟩ (iv (max (X1 : Int) (Y0 : Int)))) x → x.cell? ⟨g, j, none⟩ = some (iv (X0 : Int))) := lH fun x h => by
       rw [h.cell (p := ⟨g, j, none⟩) (by simp [World.setCell]; have := hR.size; omega), World.cell?_of_block (w := x1) (Below.heap_setCell x1 ⟨g2, j + 1, none⟩ _ g (by simp; omega))];exact (HX.out x1 hR).1
      have hbx1 : Below w.heap.size w (x1.setCell ⟨g2, j + 1, none⟩ (iv (max (X1 : Int) (Y0 : Int)))) := hb04.trans (hon1.below.mono (by have := hb04.size; omega));have hl1 : g2 < (x1.setCell ⟨g2, j + 1, none⟩ (iv (max (X1 : Int) (Y0 : Int)))).heap.size := by simp [World.setCell]; exact hg1
      have HX2 := hX2;clear hX2 HX hY1;obtain ⟨M, hM⟩ : ∃ M : Nat, max (X1 : Int) (Y0 : Int) = (M : Int) := ⟨max X1 Y0, by omega⟩;rw [hM] at hY2 hon1 HX2 hbx1 hl1;rw [hM];have HM : Hid (M = max X1 Y0) := lH (by omega);have hMb : M ≤ 25 := (by omega);clear hM;have HY2 := lH hY2;clear hY2 HY
      go_upto_region 10 with fail
      generalize x1.setCell ⟨g2, j + 1, none⟩ (iv (M : Int)) = w5 at *;have gq1 := HSA.out w5 (hbx1.next rB nL);have gq2 := HSB.out w5 (hbx1.next rB nL)
      go_quiet (fail)
      ·have hR := below_q w5 nq;generalize w5.drewN nq = x2 at *;clear gq1 gq2;have hon2 := hon1.next hR (by omega);have HY3 := lH (HY2.out.below hR);have HX3 : Hid (∀ x, Below x2.heap.size x2 x → x.cell? ⟨g, j, none⟩ = some (iv (X0 : Int))) := lH fun x h => HX2.out x (hR.next h nL)
       clear HX2 HY2;have hl2 : g2 < x2.heap.size := Nat.lt_of_lt_of_le hl1 hR.size;have hysl : (ys.set (j + 1) (M : Int)).length = (b.length + 1) := by rw [List.length_set]; exact hyl
       cases q
       ·have HR2 : Hid (Run a b i (j + 1) (ys.set (j + 1) (M : Int))) := lH (HR.out.next hjl (by
         have h5 := HQ.out;have h6 := HST.out;rw [if_neg (by simpa using h5)] at h6;have := HM.out;omega))
        (go_wp2_with fail);go_roundw
        case rel => exact ⟨j + 1, _, by omega, by go_num, HR2, HY3, hon2⟩
        case measure => simp [intOf]; omega
       ·have HZ : Hid (∀ x, Below x2.heap.size x2 x → x.cell? ⟨g2, j + 1, none⟩ = some (iv (M : Int))) := lH fun x h => by
         obtain ⟨_, _, v3, e3, _, gl3, hv3, hc3, _⟩ := ownI HY3.out (k := j + 1) (by omega);injection e3 with e3 _ _;injection e3 with e3;injection e3 with e3 _ _;subst e3;rw [List.getElem?_set_self (by omega)] at hv3;have hv3 := (Option.some.inj hv3).symm;subst hv3;exact (h.cell (p := ⟨g2, j + 1, none⟩) gl3).trans hc3
        go_upto_region 11 with fail
        refine wfl 15 (fun nR x => Below x2.heap.size x2 x) (fun x x' => Below x.heap.size x x')
         [eqv (.slice (some ⟨g2, 0, none⟩) (b.length + 1) (b.length + 1)),
          eqv (iv (j : Int)),
          eqv (iv ((j : Int) + 1)),
          eqv (.slice (some ⟨g2, 0, none⟩) (b.length + 1) (b.length + 1)),
          eqv (iv (j : Int)),
          eqv (iv ((j : Int) + 1)),
          eqv (.pointer (some ⟨g2, j + 1, none⟩)),
          eqv (iv (M : Int)),
          eqv (.slice (some ⟨g, 0, none⟩) (b.length + 1) (b.length + 1)),
          eqv (iv (j : Int)),
          eqv (.pointer (some ⟨g, j, none⟩)),
          eqv (iv (X0 : Int)),
          eqv (iv ((X0 : Int) + 1)),
          eqv (iv (max (M : Int) ((X0 : Int) + 1))),
          eqv (.pointer (some ⟨g2, j + 1, none⟩))]
         (Below.refl _ x2).drew ?_ ?_
        ·simp only [List.take_succ_cons, List.take_zero, HopL]
         repeat' apply And.intro
         ·refine fvr fun x hR kk rr _ => ?_
          have := rho0 rr 7;clear rr kk;exact ev0
         ·refine fvr fun x hR kk rr _ => ?_
          have := rho0 rr 8;clear rr kk;exact ev0
         ·refine fvr fun x hR kk rr _ => ?_
          have := rho rr 53 (kk.at 1);clear rr kk;exact ev0
         ·refine fvr fun x hR kk rr _ => ?_
          have := rho0 rr 7;clear rr kk;exact ev0
         ·refine fvr fun x hR kk rr _ => ?_
          have := rho0 rr 8;clear rr kk;exact ev0
         ·refine fvr fun x hR kk rr _ => ?_
          have := rho rr 56 (kk.at 4);clear rr kk;exact ev0
         ·refine fvr fun x hR kk rr _ => ?_
          have := rho rr 55 (kk.at 3);have := rho rr 57 (kk.at 5);clear rr kk;exact ev0
         ·refine fvr fun x hR kk rr _ => ?_
          have := rho rr 58 (kk.at 6);clear rr kk;have g1 := HZ.out x hR;exact ev0
         ·refine fvr fun x hR kk rr _ => ?_
          have := rho0 rr 5;clear rr kk;exact ev0
         ·refine fvr fun x hR kk rr _ => ?_
          have := rho0 rr 8;clear rr kk;exact ev0
         ·refine fvr fun x hR kk rr _ => ?_
          have := rho rr 60 (kk.at 8);have := rho rr 61 (kk.at 9);clear rr kk;exact ev0
         ·refine fvr fun x hR kk rr _ => ?_
          have := rho rr 62 (kk.at 10);clear rr kk;have g1 := HX3.out x hR;exact ev0
         ·refine fvr fun x hR kk rr _ => ?_
          have := rho rr 63 (kk.at 11);clear rr kk;exact ev0
         ·refine fvr fun x hR kk rr _ => ?_
          have := rho rr 59 (kk.at 7);have := rho rr 64 (kk.at 12);clear rr kk;exact ev0
         ·refine fvr fun x hR kk rr _ => ?_
          have := rho rr 52 (kk.at 0);have := rho rr 54 (kk.at 2);clear rr kk;exact ev0
         ·trivial
        ·intro v nR x3 hnR hR hall;have h13 : v 13 = iv (max (M : Int) ((X0 : Int) + 1)) := hall 13 (by decide);have h14 : v 14 = .pointer (some ⟨g2, j + 1, none⟩) := hall 14 (by decide);clear hall hnR;simp only [List.drop_succ_cons, List.drop_zero, List.take_succ_cons, List.take_zero, frameF, Act.put, List.setIfInBounds_toArray, List.set_cons_zero, List.set_cons_succ, Nat.zero_add, Nat.reduceAdd, h13, h14];have hY4 := HY3.out.below hR;have hY5 := setI hY4 (k := j + 1) (by omega) (max (M : Int) ((X0 : Int) + 1));rw [List.set_set] at hY5;have HY5 := lH hY5
         have hf3 : ∀ o, x3.frozen? ⟨g2, o, none⟩ = false := by
          obtain ⟨_, _, _, e3, _, _, _, _, hf3⟩ := ownI hY4 (k := j) (by omega);injection e3 with e3 _ _;injection e3 with e3;injection e3 with e3 _ _;subst e3;exact hf3
         have hc3 := HZ.out x3 hR;have hl3 : g2 < x3.heap.size := Nat.lt_of_lt_of_le hl2 hR.size;have hon3 : Only g2 w4 (x3.setCell ⟨g2, j + 1, none⟩ (iv (max (M : Int) ((X0 : Int) + 1)))) := (hon2.next hR (by omega)).trans (Only.set_ g2 (j + 1) _ _)
         have HR2 : Hid (Run a b i (j + 1) (ys.set (j + 1) (max (M : Int) ((X0 : Int) + 1)))) := lH (HR.out.next hjl (by
          have h5 := HQ.out;have h6 := HST.out;rw [if_pos (by simpa using h5)] at h6;have := HM.out;omega))
         clear hY4 hY5;(go_wp2_with fail);go_roundw
         case rel => exact ⟨j + 1, _, by omega, by go_num, HR2, HY5, hon3⟩
         case measure => simp [intOf]; omega
    ·have hjj : ¬ (j : Int) < (b.length : Int) := (by omega);have hje : j = b.length := (by omega)
     have hyr : ys = File.preRow a b (i + 1) := by
      have := HR.out;rw [hje] at this;exact this.full
     have hY := HY.out;rw [hyr] at hY;have hg2s := hb04.size;have HY2 := lH (hY.base (B' := w.heap.size) (by omega));clear hY hyr HR HY hje;(go_wp2_with fail);go_roundw
     case rel => exact ⟨i + 1, g2, by omega, by go_num, rfl, HY2, hbx⟩
     case measure => simp [intOf]; omega
  ·have hii : ¬ (i : Int) < (a.length : Int) := (by omega);have hie : i = a.length := (by omega);obtain ⟨_, _, v0, e0, _, gl0, hv0, hc0, _⟩ := ownI HO.out (k := b.length) (by rw [File.preRow_len]; omega);injection e0 with e0 _ _;injection e0 with e0;injection e0 with e0 _ _;subst e0;rw [File.preRow_at a b i (by omega), hie, File.pre_full] at hv0;have hv0 := (Option.some.inj hv0).symm;subst hv0;clear hie HO;(go_wp2_with fail);go_ret;exact ⟨rfl, hbr⟩
end Fl
end
section
namespace Fl
open Go.RowKit
theorem int_eq (p q : Int) : (p == q) = decide (p = q) := by rw [Bool.eq_iff_iff]; simp
theorem equalI (A : Option Addr) (xs : List Int) (c : Nat) (A' : Option Addr) (ys : List Int) (c' : Nat) (w : World) (hm : xs.length ≤ big) (hs : Sl intE w A xs) (hm' : ys.length ≤ big) (hs' : Sl intE w A' ys) :
  Calls Tryz.prog 102 #[.slice A xs.length c, .slice A' ys.length c'] w fun e w' => e = .returned (.bool (decide (xs = ys))) ∧ Below w.heap.size w w' := by
 unfold big at hm hm'
 by_cases hl : xs.length = ys.length
 ·have hl' : ((xs.length : Int) != (ys.length : Int)) = false := by simp [hl]
  have HL := lH hl;clear hl
  go_enter Tryz.func102, Tryz.ntmps102
  go_wp2
  go_loopw [5, 13] (fun _ i wr => ∃ (k : Nat), k ≤ xs.length ∧ i = iv k ∧ Hid (xs.take k = ys.take k) ∧ Below w.heap.size w wr) (fun _ i _ => xs.length - (intOf i).toNat)
  case atStart => exact ⟨0, by omega, rfl, rfl, rB⟩
  case round =>
   obtain ⟨k, hk, rfl, hf, hbw⟩ := hrel
   by_cases hlt : k < xs.length
   ·obtain ⟨b, off, p, rfl, hb, hp, hp0⟩ := Sl.atI (hs.below hbw) hlt;obtain ⟨b', off', q, rfl, hb', hq, hq0⟩ := Sl.atI (hs'.below hbw) (by have := HL.out; omega : k < ys.length);have hly : (k : Int) < (ys.length : Int) := by have := HL.out; omega
    have hlx : (k : Int) < (xs.length : Int) := (by omega);have heq := int_eq p q;have HP := lH hp;have HQ := lH hq;clear hp hq hs hs'
    by_cases hpq : p = q
    ·rw [decide_eq_true hpq] at heq;have HPQ := lH hpq;clear hpq
     go_wp2
     go_quiet (fail)
     have hqd : Below w.heap.size w (wr.drewN nq) := ⟨hbw.os, hbw.tape, hbw.output, hbw.size, hbw.block⟩;generalize wr.drewN nq = wq at *
     go_wp2
     go_roundw
     case rel => exact ⟨k + 1, by omega, by go_num, by
      show xs.take (k + 1) = ys.take (k + 1)
      rw [List.take_add_one, List.take_add_one, HP.out, HQ.out, HPQ.out, hf.out], hqd⟩
     case measure => simp [intOf]; omega
    ·rw [decide_eq_false hpq] at heq;have HPQ := lH hpq;clear hpq
     go_wp2
     go_quiet (fail)
     have hqd : Below w.heap.size w (wr.drewN nq) := ⟨hbw.os, hbw.tape, hbw.output, hbw.size, hbw.block⟩;generalize wr.drewN nq = wq at *
     go_wp2
     go_ret;exact ⟨ret_eq (by rw [decide_eq_false (take_ne' HP.out HQ.out HPQ.out)]; rfl), hqd⟩
   ·have he : xs = ys := by
     have := hf.out
     rwa [List.take_of_length_le (by omega), List.take_of_length_le (by have := HL.out; omega)] at this
    have HE := lH he;clear he
    go_wp2
    go_ret;exact ⟨ret_eq (by rw [decide_eq_true HE.out]; rfl), (by first | exact hbw | exact hbw.drew)⟩
 ·have hl' : ((xs.length : Int) != (ys.length : Int)) = true := by simp; omega
  go_enter Tryz.func102, Tryz.ntmps102
  go_wp2
  go_ret;exact ⟨ret_eq (by rw [decide_eq_false (fun h => hl (by rw [h]))]; rfl), rB⟩
theorem eqArr (a b c d : Int) (w : World) : (Op.equalIn 10000 75 (.agg #[iv a, iv b]) (.agg #[iv c, iv d])).run Tryz.prog w = .ok (a == c && b == d) w := by
 obtain ⟨i, hi⟩ : ∃ i, (Tryz.prog).info? 3 = some i := by
  obtain ⟨i, z, h1, _⟩ := tyInts.info;exact ⟨i, h1⟩
 rw [run_equalIn_array (P := Tryz.prog) w 9999 #[iv a, iv b] #[iv c, iv d] (t := 75) (e := 3) (n := 2) Tryz.underlying75 hi]
 have hc : (Tryz.prog).cellsOf 3 = 1 := by kernel_rfl
 have h3 : ∀ (x y : Int) (d : Nat), (Op.equalIn (d + 1) 3 (iv x) (iv y)).run Tryz.prog w = .ok (x == y) w := fun x y d => run_equalIn_int w d _ _ _ _ _ Tryz.underlying3
 have hp0 : ∀ a b : Int, (part 3 #[iv a, iv b] 0).run Tryz.prog w = .ok (iv a) w := fun _ _ => by kernel_rfl
 have hp1 : ∀ a b : Int, (part 3 #[iv a, iv b] 1).run Tryz.prog w = .ok (iv b) w := fun _ _ => by kernel_rfl
 rw [hc];have hr : List.range 2 = [0, 1] := rfl;rw [hr];simp only [Op.eqItems]
 by_cases h1 : a = c <;> by_cases h2 : b = d <;>
  simp [hp0, hp1, h3, Result.andThen, h1, h2, Sem.run_bind]
theorem eqArrD (p q : Nat × Nat) (w : World) : (Op.equalIn 10000 75 (.agg #[iv (p.1 : Int), iv (p.2 : Int)]) (.agg #[iv (q.1 : Int), iv (q.2 : Int)])).run Tryz.prog w = .ok (decide (p = q)) w := by
 obtain ⟨a, b⟩ := p;obtain ⟨c, d⟩ := q;rw [eqArr]
 congr 1
 by_cases h1 : a = c <;> by_cases h2 : b = d <;> simp [h1, h2] <;> omega
theorem equalAr (A : Option Addr) (xs : List (Nat × Nat)) (c : Nat) (A' : Option Addr) (ys : List (Nat × Nat)) (c' : Nat) (w : World) (hm : xs.length ≤ big) (hs : Sl pairE w A xs) (hm' : ys.length ≤ big) (hs' : Sl pairE w A' ys) :
  Calls Tryz.prog 100 #[.slice A xs.length c, .slice A' ys.length c'] w fun e w' => e = .returned (.bool (decide (xs = ys))) ∧ Below w.heap.size w w' := by
 unfold big at hm hm'
 by_cases hl : xs.length = ys.length
 ·have hl' : ((xs.length : Int) != (ys.length : Int)) = false := by simp [hl]
  have HL := lH hl;clear hl
  go_enter Tryz.func100, Tryz.ntmps100
  go_wp2
  go_loopw [5, 13] (fun _ i wr => ∃ (k : Nat), k ≤ xs.length ∧ i = iv k ∧ Hid (xs.take k = ys.take k) ∧ Below w.heap.size w wr) (fun _ i _ => xs.length - (intOf i).toNat)
  case atStart => exact ⟨0, by omega, rfl, rfl, rB⟩
  case round =>
   obtain ⟨k, hk, rfl, hf, hbw⟩ := hrel
   by_cases hlt : k < xs.length
   ·obtain ⟨b, off, p, rfl, hb, hp, hp0, hp1⟩ := Sl.atPr (hs.below hbw) hlt;obtain ⟨b', off', q, rfl, hb', hq, hq0, hq1⟩ := Sl.atPr (hs'.below hbw) (by have := HL.out; omega : k < ys.length);have hly : (k : Int) < (ys.length : Int) := by have := HL.out; omega
    have hlx : (k : Int) < (xs.length : Int) := (by omega);have heq := eqArrD p q;have HP := lH hp;have HQ := lH hq;clear hp hq hs hs'
    by_cases hpq : p = q
    ·rw [decide_eq_true hpq] at heq;have HPQ := lH hpq;clear hpq
     go_wp2
     go_region
     all_goals have hqd : Below w.heap.size w wr.drew := by first | exact hbw | exact hbw.drew
     go_wp2
     go_roundw
     case rel => exact ⟨k + 1, by omega, by go_num, by
      show xs.take (k + 1) = ys.take (k + 1)
      rw [List.take_add_one, List.take_add_one, HP.out, HQ.out, HPQ.out, hf.out], hqd⟩
     case measure => simp [intOf]; omega
    ·rw [decide_eq_false hpq] at heq;have HPQ := lH hpq;clear hpq
     go_wp2
     go_region
     all_goals have hqd : Below w.heap.size w wr.drew := by first | exact hbw | exact hbw.drew
     go_wp2
     go_ret;exact ⟨ret_eq (by rw [decide_eq_false (take_ne' HP.out HQ.out HPQ.out)]; rfl), hqd⟩
   ·have he : xs = ys := by
     have := hf.out
     rwa [List.take_of_length_le (by omega), List.take_of_length_le (by have := HL.out; omega)] at this
    have HE := lH he;clear he
    go_wp2
    go_ret;exact ⟨ret_eq (by rw [decide_eq_true HE.out]; rfl), (by first | exact hbw | exact hbw.drew)⟩
 ·have hl' : ((xs.length : Int) != (ys.length : Int)) = true := by simp; omega
  go_enter Tryz.func100, Tryz.ntmps100
  go_wp2
  go_ret;exact ⟨ret_eq (by rw [decide_eq_false (fun h => hl (by rw [h]))]; rfl), rB⟩
theorem eqAr (A : Option Addr) (xs : List (Nat × Nat)) (c : Nat) (A' : Option Addr) (ys : List (Nat × Nat)) (c' : Nat) (w : World) (hm : xs.length ≤ big) (hs : Sl pairE w A xs) (hm' : ys.length ≤ big) (hs' : Sl pairE w A' ys) :
  Calls Tryz.prog 45 #[.slice A xs.length c, .slice A' ys.length c'] w fun e w' => e = .returned (.bool (decide (xs = ys))) ∧ Below w.heap.size w w' := by
 go_enter Tryz.func45, Tryz.ntmps45
 go_wp2_with (go_at_call 100; refine (equalAr A xs c A' ys c' w hm hs hm' hs').mono ?_; rintro e w1 ⟨rfl, hb1⟩)
 go_ret;exact ⟨rfl, hb1⟩
theorem eqI (A : Option Addr) (xs : List Int) (c : Nat) (A' : Option Addr) (ys : List Int) (c' : Nat) (w : World) (hm : xs.length ≤ big) (hs : Sl intE w A xs) (hm' : ys.length ≤ big) (hs' : Sl intE w A' ys) :
  Calls Tryz.prog 66 #[.slice A xs.length c, .slice A' ys.length c'] w fun e w' => e = .returned (.bool (decide (xs = ys))) ∧ Below w.heap.size w w' := by
 go_enter Tryz.func66, Tryz.ntmps66
 go_wp2_with (go_at_call 102; refine (equalI A xs c A' ys c' w hm hs hm' hs').mono ?_; rintro e w1 ⟨rfl, hb1⟩)
 go_ret;exact ⟨rfl, hb1⟩
theorem dupI (A : Option Addr) (l : List Int) (c : Nat) (w : World) (hm : l.length ≤ big) (hs : Sl intE w A l) :
  Calls Tryz.prog 91 #[.slice A l.length c] w fun e w' => ∃ v, e = .returned v ∧ Own intE 3 w.heap.size w' v l ∧ Below w.heap.size w w' := by
 go_enter Tryz.func91, Tryz.ntmps91
 go_wp2_with (first
  | (at_make; refine wpMake0 intE tyInts rfl _ _ rfl l.length rfl rfl hm ?_; intro w1 hown1 hb1)
  | (at_builtin; refine wpAppS intE tyInts rfl _ _ rfl hown1 (hs.below hb1) rfl rfl hb1.size (by simpa using hm) ?_; intro v2 w2 hown2 hb2 _))
 go_ret;exact ⟨_, rfl, by simpa using hown2, hb1.trans hb2⟩
theorem equalRowsI (A : Option Addr) (xs : List (Rw Int)) (c : Nat) (A' : Option Addr) (ys : List (Rw Int)) (c' : Nat) (w : World) (hm : xs.length ≤ big) (hs : Sl (rwE Int) w A xs) (hm' : ys.length ≤ big) (hs' : Sl (rwE Int) w A' ys)
  (hx : ∀ r ∈ xs, Sl intE w r.A r.xs ∧ r.xs.length ≤ big) (hy : ∀ r ∈ ys, Sl intE w r.A r.xs ∧ r.xs.length ≤ big) :
  Calls Tryz.prog 101 #[.slice A xs.length c, .slice A' ys.length c', .func (.func 102) #[] #[]] w fun e w' => e = .returned (.bool (decide (xs.map Rw.xs = ys.map Rw.xs))) ∧ Below w.heap.size w w' := by
 unfold big at hm hm'
 by_cases hl : xs.length = ys.length
 ·have hl' : ((xs.length : Int) != (ys.length : Int)) = false := by simp [hl]
  have HL := lH hl;clear hl
  go_enter Tryz.func101, Tryz.ntmps101
  go_wp2
  go_loopw [7, 8, 9, 17] (fun _ _ _ i wr => ∃ (k : Nat), k ≤ xs.length ∧ i = iv k ∧ Hid ((xs.map Rw.xs).take k = (ys.map Rw.xs).take k) ∧ Below w.heap.size w wr) (fun _ _ _ i _ => xs.length - (intOf i).toNat)
  case atStart => exact ⟨0, by omega, rfl, rfl, rB⟩
  case round =>
   obtain ⟨k, hk, rfl, hf, hbw⟩ := hrel
   by_cases hlt : k < xs.length
   ·obtain ⟨b, off, x, rfl, hb, hx0, hc0⟩ := Sl.atRw (hs.below hbw) hlt;obtain ⟨b', off', y, rfl, hb', hy0, hd0⟩ := Sl.atRw (hs'.below hbw) (by have := HL.out; omega : k < ys.length);have hly : (k : Int) < (ys.length : Int) := by have := HL.out; omega
    have hlx : (k : Int) < (xs.length : Int) := (by omega);obtain ⟨ox, lx1⟩ := hx x (mem_at hx0);obtain ⟨oy, ly1⟩ := hy y (mem_at hy0);have HS := lH (equalI x.A x.xs x.c y.A y.xs y.c wr lx1 (ox.below hbw) ly1 (oy.below hbw));have HX : Hid ((xs.map Rw.xs)[k]? = some x.xs) := lH (by rw [List.getElem?_map, hx0]; rfl);have HY : Hid ((ys.map Rw.xs)[k]? = some y.xs) := lH (by rw [List.getElem?_map, hy0]; rfl);clear hx0 hy0 hs hs' hx hy ox oy
    by_cases hxy : x.xs = y.xs
    ·rw [decide_eq_true hxy] at HS;have HXY := lH hxy;clear hxy;(go_wp2_with fail);refine HS.out.mono ?_;rintro e w2 ⟨rfl, hb2⟩;(go_wp2_with fail);go_roundw
     case rel => exact ⟨k + 1, by omega, by go_num, by
      show (xs.map Rw.xs).take (k + 1) = (ys.map Rw.xs).take (k + 1)
      rw [List.take_add_one, List.take_add_one, HX.out, HY.out, HXY.out, hf.out], hbw.next hb2 nL⟩
     case measure => simp [intOf]; omega
    ·rw [decide_eq_false hxy] at HS;have HXY := lH hxy;clear hxy;(go_wp2_with fail);refine HS.out.mono ?_;rintro e w2 ⟨rfl, hb2⟩;(go_wp2_with fail);go_ret;exact ⟨ret_eq (by rw [decide_eq_false (take_ne' HX.out HY.out HXY.out)]; rfl), hbw.next hb2 nL⟩
   ·have he : xs.map Rw.xs = ys.map Rw.xs := by
     have := hf.out
     rwa [List.take_of_length_le (by rw [List.length_map]; omega), List.take_of_length_le (by rw [List.length_map]; have := HL.out; omega)] at this
    have HE := lH he;clear he
    go_wp2
    go_ret;exact ⟨ret_eq (by rw [decide_eq_true HE.out]; rfl), hbw⟩
 ·have hl' : ((xs.length : Int) != (ys.length : Int)) = true := by simp; omega
  go_enter Tryz.func101, Tryz.ntmps101
  go_wp2
  go_ret;exact ⟨ret_eq (by rw [decide_eq_false (fun h => hl (by have := congrArg List.length h; simpa using this))]; rfl), rB⟩
theorem eqRowsI (A : Option Addr) (xs : List (Rw Int)) (c : Nat) (A' : Option Addr) (ys : List (Rw Int)) (c' : Nat) (w : World) (hm : xs.length ≤ big) (hs : Sl (rwE Int) w A xs) (hm' : ys.length ≤ big) (hs' : Sl (rwE Int) w A' ys)
  (hx : ∀ r ∈ xs, Sl intE w r.A r.xs ∧ r.xs.length ≤ big) (hy : ∀ r ∈ ys, Sl intE w r.A r.xs ∧ r.xs.length ≤ big) :
  Calls Tryz.prog 46 #[.slice A xs.length c, .slice A' ys.length c'] w fun e w' => e = .returned (.bool (decide (xs.map Rw.xs = ys.map Rw.xs))) ∧ Below w.heap.size w w' := by
 go_enter Tryz.func46, Tryz.ntmps46
 (go_wp2_with fail);refine (equalRowsI A xs c A' ys c' w hm hs hm' hs' hx hy).mono ?_;rintro e w1 ⟨rfl, hb1⟩;(go_wp2_with fail);go_ret;exact ⟨rfl, hb1⟩
theorem tyRowsI : SlTy Tryz.prog 27 31 1 := slTy_of (z := .slice none 0 0) (bytes := 24) Tryz.underlying27 (by kernel_rfl) rfl (by decide)
set_option maxHeartbeats 1000000 in
theorem dupRowsI (A : Option Addr) (xs : List (Rw Int)) (c : Nat) (w : World) (hm : xs.length ≤ big) (hs : Sl (rwE Int) w A xs) (hx : ∀ r ∈ xs, Sl intE w r.A r.xs ∧ r.xs.length ≤ big) :
  Calls Tryz.prog 38 #[.slice A xs.length c] w fun e w' => ∃ v rs, e = .returned v ∧ Own (rwE Int) 31 w.heap.size w' v rs ∧ rs.map Rw.xs = xs.map Rw.xs ∧ (∀ r ∈ rs, Own intE 3 w.heap.size w' (.slice r.A r.xs.length r.c) r.xs ∧ r.xs.length ≤ r.c) ∧ Below w.heap.size w w' := by
 go_enter Tryz.func38, Tryz.ntmps38
 go_wp2_with (at_make; refine wpMake0 (rwE Int) tyRowsI rfl _ _ rfl xs.length rfl rfl hm ?_; intro w1 hown1 hb1)
 unfold big at hm;have hG1 := hb1.size
 go_loopw [3, 5, 11] (fun v _ i wr => ∃ (k : Nat) (rs : List (Rw Int)), k ≤ xs.length ∧ i = iv (k : Int) ∧ Hid (Own (rwE Int) 31 w.heap.size wr v rs) ∧ Hid (rs.map Rw.xs = (xs.map Rw.xs).take k) ∧ Hid (∀ r ∈ rs, Own intE 3 w.heap.size wr (.slice r.A r.xs.length r.c) r.xs ∧ r.xs.length ≤ r.c) ∧ Below w.heap.size w wr) (fun _ _ i _ => xs.length - (intOf i).toNat)
 case atStart => exact ⟨0, [], Nat.zero_le _, rfl, hown1, lH rfl, lH (fun r h => by cases h), hb1⟩
 case round =>
  obtain ⟨k, rs, hk, rfl, HO, HM, HR, hbr⟩ := hrel
  by_cases hlt : k < xs.length
  ·have hki : (k : Int) < (xs.length : Int) := (by omega);obtain ⟨b, off, x, rfl, hb, hx0, hc0⟩ := Sl.atRw (hs.below hbr) hlt;obtain ⟨hsx, hlx⟩ := hx x (mem_at hx0);have HD := lH (dupI x.A x.xs x.c wr hlx (hsx.below hbr));have HXK : Hid ((xs.map Rw.xs)[k]? = some x.xs) := lH (by rw [List.getElem?_map, hx0]; rfl);have hrl : rs.length = k := by have := congrArg List.length HM.out; rw [List.length_map, List.length_take, List.length_map] at this; omega
   have HRL := lH hrl;clear hx0 hsx hrl;(go_wp2_with fail);refine HD.out.mono ?_;rintro e w2 ⟨v2, rfl, ho2, hb2⟩;obtain ⟨X, cx, rfl, hcx, _⟩ := ho2.form;have hb02 := hbr.next hb2 nL;have HO2 := lH (HO.out.below hb2);have HR2 : Hid (∀ r ∈ rs, Own intE 3 w.heap.size w2 (.slice r.A r.xs.length r.c) r.xs ∧ r.xs.length ≤ r.c) := lH fun r hr => ⟨(HR.out r hr).1.below hb2, (HR.out r hr).2⟩
   have ho2 := lH (ho2.base hbr.size);clear HO HR HD
   go_wp2_with (at_builtin; refine wpApp1 (rwE Int) tyRowsI rfl _ _ rfl HO2.out (⟨X, cx, x.xs⟩ : Rw Int) rfl rfl rfl hb02.size (by have := HRL.out; unfold big; omega) ?_; intro v3 w3 hown3 hb3 hk3)
   have HR3 : Hid (∀ r ∈ rs ++ [(⟨X, cx, x.xs⟩ : Rw Int)], Own intE 3 w.heap.size w3 (.slice r.A r.xs.length r.c) r.xs ∧ r.xs.length ≤ r.c) := lH fun r hr => by
    have hrow : ∀ r' : Rw Int, Own intE 3 w.heap.size w2 (.slice r'.A r'.xs.length r'.c) r'.xs → Own intE 3 w.heap.size w3 (.slice r'.A r'.xs.length r'.c) r'.xs := fun r' ho => ho.keep (by have := hb3.size; omega) fun g hg => hk3 g (ho.lt g hg).2 (fun hv => Own.two HO2.out ho (by decide) hv hg)
    rcases List.mem_append.1 hr with hr | hr
    ·exact ⟨hrow r (HR2.out r hr).1, (HR2.out r hr).2⟩
    ·simp only [List.mem_singleton] at hr;subst hr;exact ⟨hrow _ ho2.out, hcx⟩
   have HM3 : Hid ((rs ++ [(⟨X, cx, x.xs⟩ : Rw Int)]).map Rw.xs = (xs.map Rw.xs).take (k + 1)) := lH (by rw [List.map_append, HM.out, List.take_add_one, HXK.out]; rfl);have HO3 := lH hown3;clear hown3 HO2 HR2 HM hk3;go_roundw
   case rel => exact ⟨k + 1, _, by omega, by go_num, HO3, HM3, HR3, hb02.trans hb3⟩
   case measure => simp [intOf]; omega
  ·have hki : ¬ (k : Int) < (xs.length : Int) := (by omega);have HM2 : Hid (rs.map Rw.xs = xs.map Rw.xs) := lH (by rw [HM.out, List.take_of_length_le (by rw [List.length_map]; omega)]);clear HM;(go_wp2_with fail);go_ret;exact ⟨_, rfl, rs, HO.out, HM2.out, HR.out, hbr⟩
theorem equalRowsS (A : Option Addr) (xs : List (Rw ByteArray)) (c : Nat) (A' : Option Addr) (ys : List (Rw ByteArray)) (c' : Nat) (w : World) (hm : xs.length ≤ big) (hs : Sl (rwE ByteArray) w A xs) (hm' : ys.length ≤ big) (hs' : Sl (rwE ByteArray) w A' ys)
  (hx : ∀ r ∈ xs, Sl strE w r.A r.xs ∧ r.xs.length ≤ big) (hy : ∀ r ∈ ys, Sl strE w r.A r.xs ∧ r.xs.length ≤ big) :
  Calls Tryz.prog 119 #[.slice A xs.length c, .slice A' ys.length c', .func (.func 26) #[] #[]] w fun e w' => e = .returned (.bool (decide (xs.map Rw.xs = ys.map Rw.xs))) ∧ Below w.heap.size w w' := by
 unfold big at hm hm'
 by_cases hl : xs.length = ys.length
 ·have hl' : ((xs.length : Int) != (ys.length : Int)) = false := by simp [hl]
  have HL := lH hl;clear hl
  go_enter Tryz.func119, Tryz.ntmps119
  go_wp2
  go_loopw [7, 8, 9, 17] (fun _ _ _ i wr => ∃ (k : Nat), k ≤ xs.length ∧ i = iv k ∧ Hid ((xs.map Rw.xs).take k = (ys.map Rw.xs).take k) ∧ Below w.heap.size w wr) (fun _ _ _ i _ => xs.length - (intOf i).toNat)
  case atStart => exact ⟨0, by omega, rfl, rfl, rB⟩
  case round =>
   obtain ⟨k, hk, rfl, hf, hbw⟩ := hrel
   by_cases hlt : k < xs.length
   ·obtain ⟨b, off, x, rfl, hb, hx0, hc0⟩ := Sl.atRw (hs.below hbw) hlt;obtain ⟨b', off', y, rfl, hb', hy0, hd0⟩ := Sl.atRw (hs'.below hbw) (by have := HL.out; omega : k < ys.length);have hly : (k : Int) < (ys.length : Int) := by have := HL.out; omega
    have hlx : (k : Int) < (xs.length : Int) := (by omega);obtain ⟨ox, lx1⟩ := hx x (mem_at hx0);obtain ⟨oy, ly1⟩ := hy y (mem_at hy0);have HS := lH (equalS x.A x.xs x.c y.A y.xs y.c wr lx1 (ox.below hbw) ly1 (oy.below hbw));have HX : Hid ((xs.map Rw.xs)[k]? = some x.xs) := lH (by rw [List.getElem?_map, hx0]; rfl);have HY : Hid ((ys.map Rw.xs)[k]? = some y.xs) := lH (by rw [List.getElem?_map, hy0]; rfl);clear hx0 hy0 hs hs' hx hy ox oy
    by_cases hxy : x.xs = y.xs
    ·rw [decide_eq_true hxy] at HS;have HXY := lH hxy;clear hxy;(go_wp2_with fail);refine HS.out.mono ?_;rintro e w2 ⟨rfl, hb2⟩;(go_wp2_with fail);go_roundw
     case rel => exact ⟨k + 1, by omega, by go_num, by
      show (xs.map Rw.xs).take (k + 1) = (ys.map Rw.xs).take (k + 1)
      rw [List.take_add_one, List.take_add_one, HX.out, HY.out, HXY.out, hf.out], hbw.next hb2 nL⟩
     case measure => simp [intOf]; omega
    ·rw [decide_eq_false hxy] at HS;have HXY := lH hxy;clear hxy;(go_wp2_with fail);refine HS.out.mono ?_;rintro e w2 ⟨rfl, hb2⟩;(go_wp2_with fail);go_ret;exact ⟨ret_eq (by rw [decide_eq_false (take_ne' HX.out HY.out HXY.out)]; rfl), hbw.next hb2 nL⟩
   ·have he : xs.map Rw.xs = ys.map Rw.xs := by
     have := hf.out
     rwa [List.take_of_length_le (by rw [List.length_map]; omega), List.take_of_length_le (by rw [List.length_map]; have := HL.out; omega)] at this
    have HE := lH he;clear he
    go_wp2
    go_ret;exact ⟨ret_eq (by rw [decide_eq_true HE.out]; rfl), hbw⟩
 ·have hl' : ((xs.length : Int) != (ys.length : Int)) = true := by simp; omega
  go_enter Tryz.func119, Tryz.ntmps119
  go_wp2
  go_ret;exact ⟨ret_eq (by rw [decide_eq_false (fun h => hl (by have := congrArg List.length h; simpa using this))]; rfl), rB⟩
theorem eqRowsS (A : Option Addr) (xs : List (Rw ByteArray)) (c : Nat) (A' : Option Addr) (ys : List (Rw ByteArray)) (c' : Nat) (w : World) (hm : xs.length ≤ big) (hs : Sl (rwE ByteArray) w A xs) (hm' : ys.length ≤ big) (hs' : Sl (rwE ByteArray) w A' ys)
  (hx : ∀ r ∈ xs, Sl strE w r.A r.xs ∧ r.xs.length ≤ big) (hy : ∀ r ∈ ys, Sl strE w r.A r.xs ∧ r.xs.length ≤ big) :
  Calls Tryz.prog 67 #[.slice A xs.length c, .slice A' ys.length c'] w fun e w' => e = .returned (.bool (decide (xs.map Rw.xs = ys.map Rw.xs))) ∧ Below w.heap.size w w' := by
 go_enter Tryz.func67, Tryz.ntmps67
 (go_wp2_with fail);refine (equalRowsS A xs c A' ys c' w hm hs hm' hs' hx hy).mono ?_;rintro e w1 ⟨rfl, hb1⟩;(go_wp2_with fail);go_ret;exact ⟨rfl, hb1⟩
theorem tyRowsS : SlTy Tryz.prog 42 23 1 := slTy_of (z := .slice none 0 0) (bytes := 24) Tryz.underlying42 (by kernel_rfl) rfl (by decide)
set_option maxHeartbeats 1000000 in
theorem dupRowsS (A : Option Addr) (xs : List (Rw ByteArray)) (c : Nat) (w : World) (hm : xs.length ≤ big) (hs : Sl (rwE ByteArray) w A xs) (hx : ∀ r ∈ xs, Sl strE w r.A r.xs ∧ r.xs.length ≤ big) :
  Calls Tryz.prog 60 #[.slice A xs.length c] w fun e w' => ∃ v rs, e = .returned v ∧ Own (rwE ByteArray) 23 w.heap.size w' v rs ∧ rs.map Rw.xs = xs.map Rw.xs ∧ (∀ r ∈ rs, Own strE 9 w.heap.size w' (.slice r.A r.xs.length r.c) r.xs ∧ r.xs.length ≤ r.c) ∧ Below w.heap.size w w' := by
 go_enter Tryz.func60, Tryz.ntmps60
 go_wp2_with (at_make; refine wpMake0 (rwE ByteArray) tyRowsS rfl _ _ rfl xs.length rfl rfl hm ?_; intro w1 hown1 hb1)
 unfold big at hm;have hG1 := hb1.size
 go_loopw [3, 5, 11] (fun v _ i wr => ∃ (k : Nat) (rs : List (Rw ByteArray)), k ≤ xs.length ∧ i = iv (k : Int) ∧ Hid (Own (rwE ByteArray) 23 w.heap.size wr v rs) ∧ Hid (rs.map Rw.xs = (xs.map Rw.xs).take k) ∧ Hid (∀ r ∈ rs, Own strE 9 w.heap.size wr (.slice r.A r.xs.length r.c) r.xs ∧ r.xs.length ≤ r.c) ∧ Below w.heap.size w wr) (fun _ _ i _ => xs.length - (intOf i).toNat)
 case atStart => exact ⟨0, [], Nat.zero_le _, rfl, hown1, lH rfl, lH (fun r h => by cases h), hb1⟩
 case round =>
  obtain ⟨k, rs, hk, rfl, HO, HM, HR, hbr⟩ := hrel
  by_cases hlt : k < xs.length
  ·have hki : (k : Int) < (xs.length : Int) := (by omega);obtain ⟨b, off, x, rfl, hb, hx0, hc0⟩ := Sl.atRw (hs.below hbr) hlt;obtain ⟨hsx, hlx⟩ := hx x (mem_at hx0);have HD := lH (dupS x.A x.xs x.c wr hlx (hsx.below hbr));have HXK : Hid ((xs.map Rw.xs)[k]? = some x.xs) := lH (by rw [List.getElem?_map, hx0]; rfl);have hrl : rs.length = k := by have := congrArg List.length HM.out; rw [List.length_map, List.length_take, List.length_map] at this; omega
   have HRL := lH hrl;clear hx0 hsx hrl;(go_wp2_with fail);refine HD.out.mono ?_;rintro e w2 ⟨v2, rfl, ho2, hb2⟩;obtain ⟨X, cx, rfl, hcx, _⟩ := ho2.form;have hb02 := hbr.next hb2 nL;have HO2 := lH (HO.out.below hb2);have HR2 : Hid (∀ r ∈ rs, Own strE 9 w.heap.size w2 (.slice r.A r.xs.length r.c) r.xs ∧ r.xs.length ≤ r.c) := lH fun r hr => ⟨(HR.out r hr).1.below hb2, (HR.out r hr).2⟩
   have ho2 := lH (ho2.base hbr.size);clear HO HR HD
   go_wp2_with (at_builtin; refine wpApp1 (rwE ByteArray) tyRowsS rfl _ _ rfl HO2.out (⟨X, cx, x.xs⟩ : Rw ByteArray) rfl rfl rfl hb02.size (by have := HRL.out; unfold big; omega) ?_; intro v3 w3 hown3 hb3 hk3)
   have HR3 : Hid (∀ r ∈ rs ++ [(⟨X, cx, x.xs⟩ : Rw ByteArray)], Own strE 9 w.heap.size w3 (.slice r.A r.xs.length r.c) r.xs ∧ r.xs.length ≤ r.c) := lH fun r hr => by
    have hrow : ∀ r' : Rw ByteArray, Own strE 9 w.heap.size w2 (.slice r'.A r'.xs.length r'.c) r'.xs → Own strE 9 w.heap.size w3 (.slice r'.A r'.xs.length r'.c) r'.xs := fun r' ho => ho.keep (by have := hb3.size; omega) fun g hg => hk3 g (ho.lt g hg).2 (fun hv => Own.two HO2.out ho (by decide) hv hg)
    rcases List.mem_append.1 hr with hr | hr
    ·exact ⟨hrow r (HR2.out r hr).1, (HR2.out r hr).2⟩
    ·simp only [List.mem_singleton] at hr;subst hr;exact ⟨hrow _ ho2.out, hcx⟩
   have HM3 : Hid ((rs ++ [(⟨X, cx, x.xs⟩ : Rw ByteArray)]).map Rw.xs = (xs.map Rw.xs).take (k + 1)) := lH (by rw [List.map_append, HM.out, List.take_add_one, HXK.out]; rfl);have HO3 := lH hown3;clear hown3 HO2 HR2 HM hk3;go_roundw
   case rel => exact ⟨k + 1, _, by omega, by go_num, HO3, HM3, HR3, hb02.trans hb3⟩
   case measure => simp [intOf]; omega
  ·have hki : ¬ (k : Int) < (xs.length : Int) := (by omega);have HM2 : Hid (rs.map Rw.xs = xs.map Rw.xs) := lH (by rw [HM.out, List.take_of_length_le (by rw [List.length_map]; omega)]);clear HM;(go_wp2_with fail);go_ret;exact ⟨_, rfl, rs, HO.out, HM2.out, HR.out, hbr⟩
theorem Sl.cellS {w : World} {b off k : Nat} {xs : List ByteArray} {x : ByteArray} (h : Sl strE w (some ⟨b, off, none⟩) xs) (hx : xs[k]? = some x) : ∀ W, Below w.heap.size w W → W.cell? ⟨b, off + k, none⟩ = some (.string x) := fun W hW => by
 obtain ⟨_, _, s2, hA', _, hx2, hc2⟩ := Sl.atS (h.below hW) (List.getElem?_eq_some_iff.1 hx).1;injection hA' with hA';injection hA' with e1 e2 _;subst e1; subst e2;rw [hx] at hx2;rw [hc2, Option.some.inj hx2]
theorem Sl.cellPr {w : World} {b off k : Nat} {xs : List (Nat × Nat)} {p : Nat × Nat} (h : Sl pairE w (some ⟨b, off, none⟩) xs) (hx : xs[k]? = some p) : ∀ W, Below w.heap.size w W → W.cell? ⟨b, off + k * 2, none⟩ = some (iv (p.1 : Int)) ∧ W.cell? ⟨b, off + k * 2 + 1, none⟩ = some (iv (p.2 : Int)) := fun W hW => by
 obtain ⟨_, _, s2, hA', _, hx2, hc2, hc3⟩ := Sl.atPr (h.below hW) (List.getElem?_eq_some_iff.1 hx).1;injection hA' with hA';injection hA' with e1 e2 _;subst e1; subst e2;rw [hx] at hx2;have := Option.some.inj hx2;subst this;exact ⟨hc2, hc3⟩
theorem Sl.cellEd {w : World} {b off k : Nat} {vs : List EdV} {x : EdV} (h : Sl edE w (some ⟨b, off, none⟩) vs) (hx : vs[k]? = some x) : ∀ W, Below w.heap.size w W → W.cell? ⟨b, off + k * 3, none⟩ = some (iv x.at_) ∧ W.cell? ⟨b, off + k * 3 + 1, none⟩ = some (.slice x.A x.old.length x.c) ∧ W.cell? ⟨b, off + k * 3 + 2, none⟩ = some (.slice x.A' x.new.length x.c') := fun W hW => by
 obtain ⟨_, _, s2, hA', _, hx2, hc2, hc3, hc4⟩ := Sl.atEd (h.below hW) (List.getElem?_eq_some_iff.1 hx).1;injection hA' with hA';injection hA' with e1 e2 _;subst e1; subst e2;rw [hx] at hx2;have := Option.some.inj hx2;subst this;exact ⟨hc2, hc3, hc4⟩
end Fl
end
section
namespace Fl
open Go.RowKit
theorem cut_from' {A : Option Addr} {base : List ByteArray} {c i : Nat} {w : World} (hc : base.length ≤ c) (hi : i ≤ base.length) (hs : Sl strE w A base) :
  ∃ (X : Option Addr) (n : Nat) (ys : List ByteArray), ys = base.drop i ∧ ys.length ≤ base.length ∧ ys.length ≤ n ∧ Sl strE w X ys ∧ ∀ W : World, (Instr.slice 23 (.slice A base.length c) (some (iv (i : Int))) none none).run Tryz.prog W = .ok (.slice X ys.length n) W := by
 have he : File.cut base i base.length = base.drop i := by unfold File.cut; exact List.take_of_length_le (by rw [List.length_drop]; exact Nat.le_refl _)
 refine ⟨cutA A c i 1, c - i, base.drop i, rfl, by rw [List.length_drop]; omega, by rw [List.length_drop]; omega, he ▸ Sl.cut hs hc hi nL, ?_⟩;intro W;rw [List.length_drop];exact run_cutFrom strE tyStrs A base.length c i hi W
set_option maxHeartbeats 8000000 in
theorem first_spec (A : Option Addr) (a : List ByteArray) (c : Nat) (A' : Option Addr) (b : List ByteArray) (c' : Nat) (i j left : Nat) (w : World) (ha : a.length ≤ 24) (hb : b.length ≤ 24) (hi : i ≤ a.length) (hj : j ≤ b.length) (hl : left ≤ 24) (hac : a.length ≤ c) (hbc : b.length ≤ c') (hsa : Sl strE w A a) (hsb : Sl strE w A' b) :
  Calls Tryz.prog 93 #[.slice A a.length c, .slice A' b.length c', iv (i : Int), iv (j : Int), iv (left : Int)] w fun e w' => e = .returned (.tuple #[iv ((((File.firstGo a b left j (a.length - i) i).getD (0, 0)).1 : Nat) : Int), iv ((((File.firstGo a b left j (a.length - i) i).getD (0, 0)).2 : Nat) : Int)]) ∧ Below w.heap.size w w' := by
 obtain ⟨R, hR⟩ : ∃ R, R = File.firstGo a b left j (a.length - i) i := ⟨_, rfl⟩;rw [← hR];have HR0 := lH hR.symm;clear hR
 go_enter Tryz.func93, Tryz.ntmps93
 (go_wp2_with fail)
 go_loopw [12, 13] (fun v _ wr => ∃ p1 : Nat, p1 ≤ a.length ∧ v = iv (p1 : Int) ∧ Hid (File.firstGo a b left j (a.length - p1) p1 = R) ∧ Below w.heap.size w wr) (fun v _ _ => a.length - (intOf v).toNat)
 case atStart => exact ⟨i, hi, rfl, HR0, rB⟩
 case round =>
  obtain ⟨p1, hx, rfl, HR, hbr⟩ := hrel;clear HR0
  by_cases hlt : p1 < a.length
  ·have hxi : (p1 : Int) < (a.length : Int) := (by omega);have hr := HR.out;rw [show a.length - p1 = (a.length - (p1 + 1)) + 1 by omega, File.firstGo] at hr;have HR1 : Hid ((match File.rowFirst a b left p1 (b.length - j) j with | some p2 => some (p1, p2) | none => File.firstGo a b left j (a.length - (p1 + 1)) (p1 + 1)) = R) := lH (by rw [← hr]; rfl);clear hr HR;(go_wp2_with fail)
   go_loopw [13] (fun v wx => ∃ p2 : Nat, p2 ≤ b.length ∧ v = iv (p2 : Int) ∧ Hid ((match File.rowFirst a b left p1 (b.length - p2) p2 with | some p2 => some (p1, p2) | none => File.firstGo a b left j (a.length - (p1 + 1)) (p1 + 1)) = R) ∧ Below w.heap.size w wx) (fun v _ => b.length - (intOf v).toNat)
   case atStart => exact ⟨j, hj, rfl, HR1, hbr⟩
   case round =>
    clear HR1;obtain ⟨p2, hy, rfl, HR, hbx⟩ := hrel
    by_cases hlt2 : p2 < b.length
    ·have hyi : (p2 : Int) < (b.length : Int) := (by omega);have hr := HR.out;rw [show b.length - p2 = (b.length - (p2 + 1)) + 1 by omega, File.rowFirst] at hr;obtain ⟨X1, n1, ya, hya, hyal, hyn, hsy, hC1⟩ := cut_from' (i := p1 + 1) hac (by omega) (hsa.below hbx);obtain ⟨X2, n2, yb, hyb, hybl, hyn2, hsz, hC2⟩ := cut_from' (i := p2 + 1) hbc (by omega) (hsb.below hbx);have hC1 : ∀ W : World, (Instr.slice 23 (.slice A a.length c) (some (iv ((p1 : Int) + 1))) none none).run Tryz.prog W = .ok (.slice X1 ya.length n1) W := hC1;have hC2 : ∀ W : World, (Instr.slice 23 (.slice A' b.length c') (some (iv ((p2 : Int) + 1))) none none).run Tryz.prog W = .ok (.slice X2 yb.length n2) W := hC2;obtain ⟨ba, oa, sa, rfl, hba, hxa, hca⟩ := Sl.atS (hsa.below hbx) hlt;obtain ⟨bb, ob, sb, rfl, hbb, hxb, hcb⟩ := Sl.atS (hsb.below hbx) hlt2;have HSA := lH (Sl.cellS (hsa.below hbx) hxa);have HSB := lH (Sl.cellS (hsb.below hbx) hxb)
     obtain ⟨F, hF⟩ : ∃ F, F = File.from_ a b (p1 + 1) (p2 + 1) := ⟨_, rfl⟩;have hFl : File.lcs ya yb = F := by rw [hF, hya, hyb]; rfl
     have hF24 : F ≤ 24 := by rw [hF]; have := File.from_le a b (p1 + 1) (p2 + 1); omega
     have hM := lH fun W (h : Below wr.heap.size wr W) => most_spec X1 ya n1 X2 yb n2 W (by omega) (by omega) (hsy.below h) (hsz.below h)
     rw [hFl] at hM;obtain ⟨q, hq⟩ : ∃ q, (sa.toList == sb.toList) = q := ⟨_, rfl⟩;have hqd : q = decide (sa = sb) := by rw [← hq, str_eq]
     have hfit : File.fits a b left p1 p2 = (q && decide (F + 1 = left)) := by
      unfold File.fits;rw [hxa, hxb, ← hF, hqd]
     rw [hfit] at hr;have HRR := lH hr;have ewx : IntKind.i64.wrap ((p1 : Int) + 1) = (p1 : Int) + 1 := IntWalk.i64_in _ (by omega);have ewy : IntKind.i64.wrap ((p2 : Int) + 1) = (p2 : Int) + 1 := IntWalk.i64_in _ (by omega);have ewF : IntKind.i64.wrap ((F : Int) + 1) = (F : Int) + 1 := IntWalk.i64_in _ (by omega);clear hqd hr HR hfit hF hFl hya hyb hsy hsz hxa hxb hca hcb
     rcases Bool.eq_false_or_eq_true q with hqv | hqv
     rotate_left
     ·have HN : Hid ((match File.rowFirst a b left p1 (b.length - (p2 + 1)) (p2 + 1) with | some p2 => some (p1, p2) | none => File.firstGo a b left j (a.length - (p1 + 1)) (p1 + 1)) = R) := lH (by rw [← HRR.out, hqv]; simp)
      go_upto_region 7 with fail
      have gq1 := HSA.out wr rB;have gq2 := HSB.out wr rB
      go_quiet (fail)
      ·have hR := below_q wr nq;generalize wr.drewN nq = x1 at *;clear gq1 gq2;have hb2 := hbx.next hR nL;(go_wp2_with fail);go_roundw
       case rel => exact ⟨p2 + 1, by omega, by go_num, HN, hb2⟩
       case measure => simp [intOf]; omega
     ·obtain ⟨t, ht⟩ : ∃ t, (((F : Int) + 1) == (left : Int)) = t := ⟨_, rfl⟩
      have htd : t = decide (F + 1 = left) := by
       rw [← ht, Bool.eq_iff_iff];simp;omega
      have HT := lH htd;clear htd
      go_upto_region 7 with fail
      refine wfl 23 (fun nR x => Below wr.heap.size wr x) (fun x x' => Below x.heap.size x x')
       [eqv (.slice (some ⟨ba, oa, none⟩) a.length c),
        eqv (iv (p1 : Int)),
        eqv (.pointer (some ⟨ba, oa + p1, none⟩)),
        eqv (.string sa),
        eqv (.slice (some ⟨bb, ob, none⟩) b.length c'),
        eqv (iv (p2 : Int)),
        eqv (.pointer (some ⟨bb, ob + p2, none⟩)),
        eqv (.string sb),
        eqv (.bool q),
        eqv (.bool q),
        eqv (.slice (some ⟨ba, oa, none⟩) a.length c),
        eqv (iv (p1 : Int)),
        eqv (iv ((p1 : Int) + 1)),
        eqv (.slice X1 ya.length n1),
        eqv (.slice (some ⟨bb, ob, none⟩) b.length c'),
        eqv (iv (p2 : Int)),
        eqv (iv ((p2 : Int) + 1)),
        eqv (.slice X2 yb.length n2),
        eqv (iv (F : Int)),
        eqv (iv ((F : Int) + 1)),
        eqv (iv (left : Int)),
        eqv (.bool t),
        eqv (.bool t)]
       (Below.refl _ wr).drew ?_ ?_
      ·simp only [List.take_succ_cons, List.take_zero, HopL]
       repeat' apply And.intro
       ·refine fvr fun x hR kk rr _ => ?_
        have := rho0 rr 0;clear rr kk;exact ev0
       ·refine fvr fun x hR kk rr _ => ?_
        have := rho0 rr 12;clear rr kk;exact ev0
       ·refine fvr fun x hR kk rr _ => ?_
        have := rho rr 28 (kk.at 0);have := rho rr 29 (kk.at 1);clear rr kk;exact ev0
       ·refine fvr fun x hR kk rr _ => ?_
        have := rho rr 30 (kk.at 2);clear rr kk;have g1 := HSA.out x hR;exact ev0
       ·refine fvr fun x hR kk rr _ => ?_
        have := rho0 rr 1;clear rr kk;exact ev0
       ·refine fvr fun x hR kk rr _ => ?_
        have := rho0 rr 13;clear rr kk;exact ev0
       ·refine fvr fun x hR kk rr _ => ?_
        have := rho rr 32 (kk.at 4);have := rho rr 33 (kk.at 5);clear rr kk;exact ev0
       ·refine fvr fun x hR kk rr _ => ?_
        have := rho rr 34 (kk.at 6);clear rr kk;have g1 := HSB.out x hR;exact ev0
       ·refine fvr fun x hR kk rr _ => ?_
        have := rho rr 31 (kk.at 3);have := rho rr 35 (kk.at 7);clear rr kk;exact ev0
       ·refine fvr fun x hR kk rr _ => ?_
        have := rho rr 36 (kk.at 8);clear rr kk;exact ev0
       ·refine fvr fun x hR kk rr _ => ?_
        have := rho0 rr 0;clear rr;exact ev0 (watq (kk.at 9))
       ·refine fvr fun x hR kk rr _ => ?_
        have := rho0 rr 12;clear rr;exact ev0 (watq (kk.at 9))
       ·refine fvr fun x hR kk rr _ => ?_
        have := rho rr 39 (kk.at 11);clear rr;exact ev0 (watq (kk.at 9))
       ·refine fvr fun x hR kk rr _ => ?_
        have := rho rr 38 (kk.at 10);have := rho rr 40 (kk.at 12);clear rr;exact ev0 (watq (kk.at 9))
       ·refine fvr fun x hR kk rr _ => ?_
        have := rho0 rr 1;clear rr;exact ev0 (watq (kk.at 9))
       ·refine fvr fun x hR kk rr _ => ?_
        have := rho0 rr 13;clear rr;exact ev0 (watq (kk.at 9))
       ·refine fvr fun x hR kk rr _ => ?_
        have := rho rr 43 (kk.at 15);clear rr;exact ev0 (watq (kk.at 9))
       ·refine fvr fun x hR kk rr _ => ?_
        have := rho rr 42 (kk.at 14);have := rho rr 44 (kk.at 16);clear rr;exact ev0 (watq (kk.at 9))
       ·refine fvr fun x hR kk rr _ => ?_
        have := rho rr 41 (kk.at 13);have := rho rr 45 (kk.at 17);clear rr;exact ec (hc := hM.out x hR) (hw := (watq (kk.at 9)))
       ·refine fvr fun x hR kk rr _ => ?_
        have := rho rr 46 (kk.at 18);clear rr;exact ev0 (watq (kk.at 9))
       ·refine fvr fun x hR kk rr _ => ?_
        have := rho0 rr 4;clear rr;exact ev0 (watq (kk.at 9))
       ·refine fvr fun x hR kk rr _ => ?_
        have := rho rr 47 (kk.at 19);have := rho rr 48 (kk.at 20);clear rr;exact ev0 (watq (kk.at 9))
       ·refine fvr fun x hR kk rr _ => ?_
        have := rho rr 37 (kk.at 9);have := rho rr 49 (kk.at 21);clear rr kk;exact ev0
       ·trivial
      ·intro v nR x1 hnR hR hall;have h22 : v 22 = .bool t := hall 22 (by decide);clear hall hnR;simp only [List.drop_succ_cons, List.drop_zero, List.take_succ_cons, List.take_zero, frameF, Act.put, List.setIfInBounds_toArray, List.set_cons_zero, List.set_cons_succ, Nat.zero_add, Nat.reduceAdd, h22];have hb2 := hbx.next hR nL
       cases t
       ·have HN : Hid ((match File.rowFirst a b left p1 (b.length - (p2 + 1)) (p2 + 1) with | some p2 => some (p1, p2) | none => File.firstGo a b left j (a.length - (p1 + 1)) (p1 + 1)) = R) := lH (by rw [← HRR.out, ← HT.out, hqv]; simp);(go_wp2_with fail);go_roundw
        case rel => exact ⟨p2 + 1, by omega, by go_num, HN, hb2⟩
        case measure => simp [intOf]; omega
       ·have HN : Hid (some (p1, p2) = R) := lH (by rw [← HRR.out, ← HT.out, hqv]; simp);(go_wp2_with fail);go_ret2;exact ⟨by rw [← HN.out]; rfl, hb2⟩
    ·have hyi : ¬ (p2 : Int) < (b.length : Int) := (by omega);have hr := HR.out;rw [show b.length - p2 = 0 by omega, File.rowFirst] at hr;have HN := lH hr;clear hr HR;(go_wp2_with fail);go_roundw
     case rel => exact ⟨p1 + 1, by omega, by go_num, HN, hbx⟩
     case measure => simp [intOf]; omega
  ·have hxi : ¬ (p1 : Int) < (a.length : Int) := (by omega);have hr := HR.out;rw [show a.length - p1 = 0 by omega, File.firstGo] at hr;have HN : Hid (none = R) := lH hr;clear hr HR;(go_wp2_with fail);go_ret2;exact ⟨by rw [← HN.out]; rfl, hbr⟩
set_option maxHeartbeats 8000000 in
theorem rcommon_spec (A : Option Addr) (a : List ByteArray) (c : Nat) (A' : Option Addr) (b : List ByteArray) (c' : Nat) (w : World) (ha : a.length ≤ 24) (hb : b.length ≤ 24) (hac : a.length ≤ c) (hbc : b.length ≤ c') (hsa : Sl strE w A a) (hsb : Sl strE w A' b) :
  Calls Tryz.prog 39 #[.slice A a.length c, .slice A' b.length c'] w fun e w' => ∃ v, e = .returned v ∧ Own pairE 75 w.heap.size w' v (File.common a b) ∧ Below w.heap.size w w' := by
 obtain ⟨L, hL⟩ : ∃ L, L = File.common a b := ⟨_, rfl⟩;have HL := lH hL.symm;rw [← hL];have hLl : L.length ≤ 24 := by rw [hL, File.common_length]; exact Nat.le_trans (File.lcs_most _ _) ha
 clear hL
 go_enter Tryz.func39, Tryz.ntmps39
 (go_wp2_with fail)
 go_loopw [5, 6, 7, 8, 9, 10] (fun u v1 v2 _ _ _ wr => ∃ (i j n : Nat) (out : List (Nat × Nat)), i ≤ a.length ∧ j ≤ b.length ∧ v1 = iv (i : Int) ∧ v2 = iv (j : Int) ∧ Hid (a.length - i < n) ∧ Hid (out ++ File.commonGo a b n i j = L) ∧ Hid (Own pairE 75 w.heap.size wr u out) ∧ Below w.heap.size w wr) (fun _ v1 _ _ _ _ _ => a.length - (intOf v1).toNat)
 case atStart => exact ⟨0, 0, a.length + 1, [], Nat.zero_le _, Nat.zero_le _, rfl, rfl, lH (by omega), HL, Own.nil, rB⟩
 case round =>
  obtain ⟨i, j, fu, out, hi, hj, rfl, rfl, Hn, HC, HO, hbr⟩ := hrel;obtain ⟨X1, n1, ya, hya, hyal, hyn, hsy, hC1⟩ := cut_from' (i := i) hac hi (hsa.below hbr);obtain ⟨X2, n2, yb, hyb, hybl, hyn2, hsz, hC2⟩ := cut_from' (i := j) hbc hj (hsb.below hbr);obtain ⟨F, hF⟩ : ∃ F, F = File.from_ a b i j := ⟨_, rfl⟩;have hFl : File.lcs ya yb = F := by rw [hF, hya, hyb]; rfl
  have hF24 : F ≤ 24 := by rw [hF]; have := File.from_le a b i j; omega
  have hM := lH fun W (h : Below wr.heap.size wr W) => most_spec X1 ya n1 X2 yb n2 W (by omega) (by omega) (hsy.below h) (hsz.below h)
  rw [hFl] at hM;have HF := lH hF;clear hF hFl hya hyb hsy hsz
  go_upto_region 3 with fail
  refine wfl 8 (fun nR x => Below wr.heap.size wr x) (fun x x' => Below x.heap.size x x')
   [eqv (.slice A a.length c),
    eqv (iv (i : Int)),
    eqv (.slice X1 ya.length n1),
    eqv (.slice A' b.length c'),
    eqv (iv (j : Int)),
    eqv (.slice X2 yb.length n2),
    eqv (iv (F : Int)),
    eqv (iv (F : Int))]
   (Below.refl _ wr).drew ?_ ?_
  ·simp only [List.take_succ_cons, List.take_zero, HopL]
   repeat' apply And.intro
   ·refine fvr fun x hR kk rr _ => ?_
    have := rho0 rr 0;clear rr kk;exact ev0
   ·refine fvr fun x hR kk rr _ => ?_
    have := rho0 rr 6;clear rr kk;exact ev0
   ·refine fvr fun x hR kk rr _ => ?_
    have := rho rr 11 (kk.at 0);have := rho rr 12 (kk.at 1);clear rr kk;exact ev0
   ·refine fvr fun x hR kk rr _ => ?_
    have := rho0 rr 1;clear rr kk;exact ev0
   ·refine fvr fun x hR kk rr _ => ?_
    have := rho0 rr 7;clear rr kk;exact ev0
   ·refine fvr fun x hR kk rr _ => ?_
    have := rho rr 14 (kk.at 3);have := rho rr 15 (kk.at 4);clear rr kk;exact ev0
   ·refine fvr fun x hR kk rr _ => ?_
    have := rho rr 13 (kk.at 2);have := rho rr 16 (kk.at 5);clear rr kk;exact ec (hc := hM.out x hR)
   ·refine fvr fun x hR kk rr _ => ?_
    have := rho rr 17 (kk.at 6);clear rr kk;exact ev0
   ·trivial
  ·intro v nR x1 hnR hR hall;have h7 : v 7 = iv (F : Int) := hall 7 (by decide);clear hall hnR;simp only [List.drop_succ_cons, List.drop_zero, List.take_succ_cons, List.take_zero, frameF, Act.put, List.setIfInBounds_toArray, List.set_cons_zero, List.set_cons_succ, Nat.zero_add, Nat.reduceAdd, h7];have hb2 := hbr.next hR nL;have HO2 := lH (HO.out.below hR);obtain ⟨m, hm⟩ : ∃ m, fu = m + 1 := ⟨fu - 1, by have := Hn.out; omega⟩;have hc := HC.out;rw [hm, File.commonGo] at hc;clear HO HC
   by_cases h0 : F = 0
   ·have hn := File.first_none (a := a) (b := b) (i := i) (j := j) (by rw [← HF.out]; exact h0);rw [hn] at hc;have hc : out = L := by simpa using hc
    have HC := lH hc;have hq : ((F : Int) == 0) = true := by simp; omega
    clear hc hn;(go_wp2_with fail);go_ret;exact ⟨_, rfl, by rw [← HC.out]; exact HO2.out, hb2⟩
   ·obtain ⟨p, hp⟩ := File.first_some (a := a) (b := b) (i := i) (j := j) (by rw [← HF.out]; omega);rw [hp] at hc;have hps := File.firstGo_some hp;obtain ⟨f1, f2, _⟩ := File.fits_iff.1 hps.2.2.2.1;obtain ⟨x, y⟩ := p;simp only at hc hps f1 f2;have hFS := first_spec A a c A' b c' i j F x1 ha hb hi hj hF24 hac hbc (hsa.below hb2) (hsb.below hb2);rw [HF.out, show File.firstGo a b (File.from_ a b i j) j (a.length - i) i = some (x, y) from hp] at hFS;have hFS : Calls Tryz.prog 93 #[.slice A a.length c, .slice A' b.length c', iv (i : Int), iv (j : Int), iv (F : Int)] x1 fun e w' => e = .returned (.tuple #[iv (x : Int), iv (y : Int)]) ∧ Below x1.heap.size x1 w' := by rw [HF.out]; exact hFS
    have HC : Hid ((out ++ [(x, y)]) ++ File.commonGo a b m (x + 1) (y + 1) = L) := lH (by rw [← hc]; simp);have hol : out.length + 1 ≤ 24 := by have := congrArg List.length HC.out; simp at this; omega
    have Hm : Hid (a.length - (x + 1) < m) := lH (by have := Hn.out; have := hps.1; omega);have hix := hps.1;have hq : ((F : Int) == 0) = false := by simp; omega
    have ewx : IntKind.i64.wrap ((x : Int) + 1) = (x : Int) + 1 := IntWalk.i64_in _ (by omega);have ewy : IntKind.i64.wrap ((y : Int) + 1) = (y : Int) + 1 := IntWalk.i64_in _ (by omega);clear hc hps hp Hn;(go_wp2_with fail);refine hFS.mono ?_;rintro e w3 ⟨rfl, hb3⟩;have hb23 := hb2.next hb3 nL;have HO3 := lH (HO2.out.below hb3);clear HO2 hFS
    go_wp2_with (first
     | (at_builtin; refine wpApp1 pairE tyArr2 rfl _ _ rfl HO3.out (x, y) rfl rfl rfl hb23.size (by unfold big; omega) ?_; intro v1 w4 hown1 hb1 hk1))
    go_roundw
    case rel => exact ⟨x + 1, y + 1, m, out ++ [(x, y)], by omega, by omega, by go_num, by go_num, Hm, HC, hown1, hb23.trans hb1⟩
    case measure => simp [intOf]; omega
end Fl
end
end Go.Proofs.YtblgkmdadholmabGreatDoor
section
namespace Go.Proofs.YtblgkmdadholmabGreatDoor
namespace File
def rowP (ok : Nat → Nat → Int → Bool) (i : Nat) : Nat → Int → List Int → Option Int
 | _, most, [] => some most
 | j, most, n :: r => if ok i j n then rowP ok i (j + 1) (max most n) r else none
def levelsP (ok : Nat → Nat → Int → Bool) : Nat → Int → List (List Int) → Int × Int
 | _, most, [] => (most, 0)
 | i, most, l :: r => match rowP ok i 0 most l with
  | some m => levelsP ok (i + 1) m r
  | none => (0, 8)
theorem rowP_of {ok ok' : Nat → Nat → Int → Bool} {i : Nat} : ∀ (l : List Int) (j : Nat) (m : Int), (∀ k n, l[k]? = some n → ok i (j + k) n = true) → (∀ k n, l[k]? = some n → ok' i (j + k) n = true) → rowP ok i j m l = rowP ok' i j m l ∧ ∃ m', rowP ok i j m l = some m'
 | [], _, m, _, _ => ⟨rfl, m, rfl⟩
 | n :: r, j, m, h, h' => by
  have h0 := h 0 n rfl;have h0' := h' 0 n rfl;rw [Nat.add_zero] at h0 h0';have ih := rowP_of r (j + 1) (max m n) (fun k n hk => by have := h (k + 1) n (by simpa using hk); rwa [show j + (k + 1) = j + 1 + k by omega] at this) (fun k n hk => by have := h' (k + 1) n (by simpa using hk); rwa [show j + (k + 1) = j + 1 + k by omega] at this);unfold rowP;rw [if_pos h0, if_pos h0'];exact ih
theorem rowP_none {ok : Nat → Nat → Int → Bool} {i : Nat} : ∀ (l : List Int) (j : Nat) (m : Int), (∃ k n, l[k]? = some n ∧ ok i (j + k) n = false) → rowP ok i j m l = none
 | [], _, _, ⟨_, _, h, _⟩ => by simp at h
 | x :: r, j, m, ⟨k, n, hk, hn⟩ => by
  unfold rowP
  by_cases h0 : ok i j x = true
  ·rw [if_pos h0]
   cases k with
   | zero => simp at hk; subst hk; rw [Nat.add_zero, h0] at hn; cases hn
   | succ k => exact rowP_none r (j + 1) _ ⟨k, n, by simpa using hk, by rw [show j + 1 + k = j + (k + 1) by omega]; exact hn⟩
  ·rw [if_neg h0]
theorem levelsP_of {ok ok' : Nat → Nat → Int → Bool} : ∀ (l : List (List Int)) (i : Nat) (m : Int), (∀ p row, l[p]? = some row → ∀ k n, row[k]? = some n → ok (i + p) k n = true) → (∀ p row, l[p]? = some row → ∀ k n, row[k]? = some n → ok' (i + p) k n = true) → levelsP ok i m l = levelsP ok' i m l
 | [], _, _, _, _ => rfl
 | row :: r, i, m, h, h' => by
  have h0 := h 0 row rfl;have h0' := h' 0 row rfl;simp only [Nat.add_zero] at h0 h0';obtain ⟨e, m', hm⟩ := rowP_of (ok := ok) (ok' := ok') (i := i) row 0 m (fun k n hk => by rw [Nat.zero_add]; exact h0 k n hk) (fun k n hk => by rw [Nat.zero_add]; exact h0' k n hk);have ih := fun m => levelsP_of r (i + 1) m (fun p row hp k n hk => by have := h (p + 1) row (by simpa using hp) k n hk; rwa [show i + (p + 1) = i + 1 + p by omega] at this) (fun p row hp k n hk => by have := h' (p + 1) row (by simpa using hp) k n hk; rwa [show i + (p + 1) = i + 1 + p by omega] at this)
  unfold levelsP;rw [← e, hm];exact ih m'
theorem levelsP_none {ok : Nat → Nat → Int → Bool} : ∀ (l : List (List Int)) (i : Nat) (m : Int), (∃ p row k n, l[p]? = some row ∧ row[k]? = some n ∧ ok (i + p) k n = false) → levelsP ok i m l = (0, 8)
 | [], _, _, ⟨_, _, _, _, h, _, _⟩ => by simp at h
 | x :: r, i, m, ⟨p, row, k, n, hp, hk, hn⟩ => by
  unfold levelsP
  cases hx : rowP ok i 0 m x with
  | none => rfl
  | some m' =>
   cases p with
   | zero =>
    simp at hp;subst hp;rw [rowP_none x 0 m ⟨k, n, hk, by rw [Nat.zero_add]; exact hn⟩] at hx
    cases hx
   | succ p => exact levelsP_none r (i + 1) m' ⟨p, row, k, n, by simpa using hp, hk, by rw [show i + 1 + p = i + (p + 1) by omega]; exact hn⟩
theorem levelsP_eq {ok ok' : Nat → Nat → Int → Bool} {l : List (List Int)} {m : Int} (h : (∀ p row, l[p]? = some row → ∀ k n, row[k]? = some n → ok p k n = true) ↔ ∀ p row, l[p]? = some row → ∀ k n, row[k]? = some n → ok' p k n = true) : levelsP ok 0 m l = levelsP ok' 0 m l := by
 by_cases ha : ∀ p row, l[p]? = some row → ∀ k n, row[k]? = some n → ok p k n = true
 ·exact levelsP_of l 0 m (fun p row hp k n hk => by rw [Nat.zero_add]; exact ha p row hp k n hk) (fun p row hp k n hk => by rw [Nat.zero_add]; exact h.1 ha p row hp k n hk)
 ·have hb : ¬ ∀ p row, l[p]? = some row → ∀ k n, row[k]? = some n → ok' p k n = true := fun hb => ha (h.2 hb)
  have neg : ∀ {ok : Nat → Nat → Int → Bool}, (¬ ∀ p row, l[p]? = some row → ∀ k n, row[k]? = some n → ok p k n = true) → ∃ p row k n, l[p]? = some row ∧ row[k]? = some n ∧ ok (0 + p) k n = false := fun {ok} hn => by
   apply Classical.byContradiction;intro hc;refine hn fun p row hp k n hk => ?_
   cases hq : ok p k n with
   | true => rfl
   | false => exact absurd ⟨p, row, k, n, hp, hk, by rw [Nat.zero_add]; exact hq⟩ hc
  rw [levelsP_none l 0 m (neg ha), levelsP_none l 0 m (neg hb)]
theorem great_ge : ∀ (l : List Int) (m : Int), m ≤ l.foldl max m ∧ (∀ x ∈ l, x ≤ l.foldl max m) ∧ (l.foldl max m = m ∨ ∃ x ∈ l, l.foldl max m = x)
 | [], m => ⟨Int.le_refl _, fun _ h => (by cases h), .inl rfl⟩
 | x :: l, m => by
  obtain ⟨h1, h2, h3⟩ := great_ge l (max m x)
  show m ≤ l.foldl max (max m x) ∧ (∀ y ∈ x :: l, y ≤ l.foldl max (max m x)) ∧ (l.foldl max (max m x) = m ∨ _)
  refine ⟨by omega, fun y hy => ?_, ?_⟩
  ·rcases List.mem_cons.1 hy with rfl | hy
   ·omega
   ·exact h2 y hy
  ·rcases h3 with h | ⟨y, hy, h⟩
   ·by_cases hm : x ≤ m
    ·exact .inl (by rw [h]; omega)
    ·exact .inr ⟨x, List.mem_cons_self, by show l.foldl max (max m x) = x; rw [h]; omega⟩
   ·exact .inr ⟨y, List.mem_cons_of_mem _ hy, h⟩
theorem rowGo_P (a b : List ByteArray) (xs : List (List Int)) (i : Nat) : ∀ (l : List Int) (j : Nat) (m : Int), 0 ≤ m → (∀ n ∈ l, 0 ≤ n) → rowGo a b xs i j m l = rowP (cellOk a b xs) i j m l ∧ ∀ m', rowP (cellOk a b xs) i j m l = some m' → 0 ≤ m'
 | [], j, m, h, _ => ⟨rfl, fun m' e => by injection e with e; omega⟩
 | n :: r, j, m, h, hl => by
  have hn := hl n (by simp);have hg : great [m, n] = max m n := by rw [great_two]; omega
  have ih := rowGo_P a b xs i r (j + 1) (max m n) (by omega) fun x hx => hl x (List.mem_cons_of_mem _ hx)
  unfold rowGo rowP;rw [hg]
  split
  ·exact ih
  ·exact ⟨rfl, fun _ e => by cases e⟩
theorem levelsGo_P (a b : List ByteArray) (xs : List (List Int)) : ∀ (l : List (List Int)) (i : Nat) (m : Int), 0 ≤ m → (∀ row ∈ l, ∀ n ∈ row, 0 ≤ n) → levelsGo a b xs i m l = levelsP (cellOk a b xs) i m l
 | [], _, _, _, _ => rfl
 | row :: r, i, m, h, hl => by
  obtain ⟨e, h0⟩ := rowGo_P a b xs i row 0 m h (hl row (by simp));unfold levelsGo levelsP;rw [e]
  cases hr : rowP (cellOk a b xs) i 0 m row with
  | none => rfl
  | some m' => exact levelsGo_P a b xs r (i + 1) m' (h0 m' hr) fun x hx => hl x (List.mem_cons_of_mem _ hx)
def laterOk (a b : List ByteArray) (xs : List (List Int)) (i j : Nat) (n : Int) : Bool :=
 (decide (n = 0) == decide (a[i]? ≠ b[j]?)) && (List.range a.length).all fun k => (List.range b.length).all fun l => !(decide (i < k) && decide (j < l) && decide (0 < n) && decide (a[k]? = b[l]?) && decide (((xs.getD k []).getD l 0) ≤ n))
theorem later_iff {a b : List ByteArray} {xs : List (List Int)} {i j : Nat} {n : Int} : laterOk a b xs i j n = true ↔ (n = 0 ↔ a[i]? ≠ b[j]?) ∧ ∀ k l, i < k → k < a.length → j < l → l < b.length → 0 < n → a[k]? = b[l]? → n < (xs.getD k []).getD l 0 := by
 unfold laterOk;simp only [Bool.and_eq_true, List.all_eq_true, List.mem_range, Bool.not_eq_true', Bool.and_eq_false_iff, decide_eq_false_iff_not, beq_iff_eq, decide_eq_decide];refine and_congr Iff.rfl ⟨fun h k l h1 h2 h3 h4 h5 h6 => ?_, fun h k h2 l h4 => ?_⟩
 ·rcases h k h2 l h4 with (((h | h) | h) | h) | h
  ·exact absurd h1 h
  ·exact absurd h3 h
  ·exact absurd h5 h
  ·exact absurd h6 h
  ·omega
 ·by_cases h1 : i < k
  ·by_cases h3 : j < l
   ·by_cases h5 : 0 < n
    ·by_cases h6 : a[k]? = b[l]?
     ·exact .inr (by have := h k l h1 h2 h3 h4 h5 h6; omega)
     ·exact .inl (.inr h6)
    ·exact .inl (.inl (.inr h5))
   ·exact .inl (.inl (.inl (.inr h3)))
  ·exact .inl (.inl (.inl (.inl h1)))
theorem cell_iff {a b : List ByteArray} {xs : List (List Int)} {i j : Nat} {n : Int} : cellOk a b xs i j n = true ↔ (n = 0 ↔ a[i]? ≠ b[j]?) ∧ ∀ row ∈ xs.take i, 0 < n → great (row.take j) < n := by
 unfold cellOk;simp only [Bool.and_eq_true, List.all_eq_true, Bool.not_eq_true', Bool.and_eq_false_iff, decide_eq_false_iff_not, beq_iff_eq, decide_eq_decide];refine and_congr Iff.rfl ⟨fun h row hr hn => ?_, fun h row hr => ?_⟩
 ·rcases h row hr with h | h
  ·exact absurd hn h
  ·omega
 ·by_cases hn : 0 < n
  ·exact .inr (by have := h row hr hn; omega)
  ·exact .inl hn
theorem asks_alike {a b : List ByteArray} {xs : List (List Int)} (hl : xs.length = a.length) (hr : ∀ row ∈ xs, row.length = b.length) (h0 : ∀ row ∈ xs, ∀ n ∈ row, 0 ≤ n) :
  (∀ p row, xs[p]? = some row → ∀ k n, row[k]? = some n → cellOk a b xs p k n = true) ↔ ∀ p row, xs[p]? = some row → ∀ k n, row[k]? = some n → laterOk a b xs p k n = true := by
 constructor
 ·intro h p row hp k n hk;refine later_iff.2 ⟨(cell_iff.1 (h p row hp k n hk)).1, fun q l h1 h2 h3 h4 h5 h6 => ?_⟩;have hq : q < xs.length := (by omega);have hql : l < (xs[q]).length := by rw [hr _ (List.getElem_mem hq)]; exact h4
  have e1 : xs.getD q [] = xs[q] := by simp [List.getD_eq_getElem?_getD, List.getElem?_eq_getElem hq]
  have e2 : (xs[q]).getD l 0 = (xs[q])[l] := by simp [List.getD_eq_getElem?_getD, List.getElem?_eq_getElem hql]
  rw [e1, e2];have hc := cell_iff.1 (h q xs[q] (List.getElem?_eq_getElem hq) l (xs[q])[l] (List.getElem?_eq_getElem hql));have hne : (xs[q])[l] ≠ 0 := fun e => absurd h6 (hc.1.1 e)
  have hge := h0 _ (List.getElem_mem hq) _ (List.getElem_mem hql)
  have hrow : row ∈ xs.take q := by
   rw [List.mem_take_iff_getElem];obtain ⟨hp1, hp2⟩ := List.getElem?_eq_some_iff.1 hp;exact ⟨p, by omega, hp2⟩
  have hg := hc.2 row hrow (by omega)
  have hm : n ∈ row.take l := by
   rw [List.mem_take_iff_getElem];obtain ⟨hp1, hp2⟩ := List.getElem?_eq_some_iff.1 hk;exact ⟨k, by omega, hp2⟩
  have := (great_ge (row.take l) 0).2.1 n hm;unfold great at hg;omega
 ·intro h p row hp k n hk;refine cell_iff.2 ⟨(later_iff.1 (h p row hp k n hk)).1, fun row' hm hn => ?_⟩;have hz := later_iff.1 (h p row hp k n hk);obtain ⟨q, hq1, hq2⟩ := List.mem_take_iff_getElem.1 hm;have hqx : xs[q]? = some row' := by rw [List.getElem?_eq_getElem (by omega), hq2]
  rcases (great_ge (row'.take k) 0).2.2 with e | ⟨x, hx, e⟩
  ·unfold great; omega
  ·obtain ⟨l, hl1, hl2⟩ := List.mem_take_iff_getElem.1 hx;have hlx : row'[l]? = some x := by rw [List.getElem?_eq_getElem (by omega), hl2]
   have hw := later_iff.1 (h q row' hqx l x hlx);have hx0 : 0 ≤ x := h0 row' (List.mem_of_getElem? hqx) x (List.mem_of_getElem? hlx);have hpl := (List.getElem?_eq_some_iff.1 hp).1;have hkl := (List.getElem?_eq_some_iff.1 hk).1;have hrl := hr row (List.mem_of_getElem? hp);have hab : a[p]? = b[k]? := Classical.byContradiction fun e => by have := hz.1.2 e; omega
   by_cases hx1 : 0 < x
   ·have := hw.2 p k (by omega) (by omega) (by omega) (by omega) hx1 hab;have e1 : (xs.getD p []).getD k 0 = n := by simp [List.getD_eq_getElem?_getD, hp, hk]
    rw [e1] at this;unfold great;omega
   ·unfold great; omega
def refBound (a b : List ByteArray) (xs : List (List Int)) : Int × Int :=
 if xs.length = a.length ∧ (xs.all fun l => decide (l.length = b.length)) = true then
  if (xs.all fun l => l.all inr) = true then levelsP (laterOk a b xs) 0 0 xs else (0, 3)
 else (0, 2)
end File
namespace Fl
theorem ref_bound {a b : List ByteArray} (h : errOf a b = 0) (xs : List (List Int)) : File.refBound a b xs = boundOf a b xs := by
 unfold File.refBound boundOf;rw [if_pos h]
 split
 ·rename_i h1
  split
  ·rename_i h2
   have hr : ∀ row ∈ xs, row.length = b.length := fun row hm => by simpa using List.all_eq_true.1 h1.2 row hm
   have h0 : ∀ row ∈ xs, ∀ n ∈ row, 0 ≤ n := fun row hm n hn => by
    have := List.all_eq_true.1 (List.all_eq_true.1 h2 row hm) n hn;unfold File.inr at this;simp only [Bool.and_eq_true, decide_eq_true_eq] at this;exact this.1
   rw [File.levelsGo_P a b xs xs 0 0 (Int.le_refl _) h0];exact (File.levelsP_eq (File.asks_alike h1.1 hr h0)).symm
  ·rfl
 ·rfl
end Fl
end Go.Proofs.YtblgkmdadholmabGreatDoor
namespace Go.Proofs.YtblgkmdadholmabGreatDoor
namespace File
def worse (e n : Int) : Int := if n = 10 then 10 else if n = 11 ∧ e = 0 then 11 else e
def worst (l : List (List ByteArray)) : Int := l.foldl (fun e x => worse e (lined x)) 0
def lin (w k : Bool) : Int := if w then (if k then 0 else 11) else 10
theorem lined_lin (l : List ByteArray) : lined l = lin (l.all wide) (l.all okLine) := rfl
theorem worse_lin (w k w' k' : Bool) : worse (lin w k) (lin w' k') = lin (w && w') (k && k') := by cases w <;> cases k <;> cases w' <;> cases k' <;> rfl
theorem worst_go : ∀ (l : List (List ByteArray)) (pre : List ByteArray), l.foldl (fun e x => worse e (lined x)) (lined pre) = lined (pre ++ l.flatMap id)
 | [], pre => by rw [List.flatMap_nil, List.append_nil]; rfl
 | x :: l, pre => by
  have e : worse (lined pre) (lined x) = lined (pre ++ x) := by
   rw [lined_lin, lined_lin, lined_lin, worse_lin, List.all_append, List.all_append]
  show l.foldl _ (worse (lined pre) (lined x)) = _
  rw [e, worst_go l (pre ++ x), List.flatMap_cons, List.append_assoc]; rfl
theorem worst_eq (l : List (List ByteArray)) : worst l = lined (l.flatMap id) := worst_go l []
def makeGo (f : List ByteArray) : Nat → List (Edit ByteArray) → Option (List ByteArray)
 | at_, [] => some (f.drop at_)
 | at_, x :: r => if (x.at_ ≤ (f.length : Int) ∧ fitGo f x.at_.toNat x.old = true) then (makeGo f x.hi r).map (fun l => cut f at_ x.lo ++ (x.new ++ l)) else none
theorem makeGo_some {f : List ByteArray} : ∀ {c : List (Edit ByteArray)} {lo : Nat}, Chain lo c → c.all (fitAt f) = true → makeGo f lo c = some (hasGo f f.length lo c)
 | [], lo, _, _ => by
  show some (f.drop lo) = some (cut f lo f.length)
  unfold cut;rw [List.take_of_length_le (by rw [List.length_drop]; omega)]
 | x :: r, lo, ⟨h1, h2⟩, h => by
  rw [List.all_cons, Bool.and_eq_true] at h;have hx := h.1;unfold fitAt at hx;rw [Bool.and_eq_true, decide_eq_true_eq] at hx;unfold makeGo;rw [if_pos hx, makeGo_some (lo := x.hi) (h2.weaken (Nat.le_succ _)) h.2];rfl
theorem makeGo_none {f : List ByteArray} : ∀ {c : List (Edit ByteArray)} {lo : Nat}, c.all (fitAt f) = false → makeGo f lo c = none
 | [], _, h => by cases h
 | x :: r, lo, h => by
  unfold makeGo
  split
  ·rename_i hx
   have : fitAt f x = true := by unfold fitAt; rw [Bool.and_eq_true, decide_eq_true_eq]; exact hx
   rw [List.all_cons, this, Bool.true_and] at h;rw [makeGo_none h];rfl
  ·rfl
theorem makeGo_eq {f : List ByteArray} {c : List (Edit ByteArray)} (h : ChOk c) : makeGo f 0 c = if c.all (fitAt f) then some (make f c) else none := by
 split
 ·rename_i ha
  have hch := ch_chain h;rw [makeGo_some hch ha];have := make_has (f := f) hch fun x hx => fit_hi (h.at_ x hx).1 (List.all_eq_true.1 ha x hx)
  rw [this];simp
 ·rename_i ha
  exact makeGo_none (by simpa using ha)
def refMake (f : List ByteArray) (c : List (Edit ByteArray)) : List ByteArray × Int :=
 match makeGo f 0 c with
 | none => ([], 7)
 | some l => if 24 < l.length then ([], 2) else (l, 0)
theorem refMake_eq {f : List ByteArray} {c : List (Edit ByteArray)} (hf : check f = 0) (hc : checkChange c = 0) : refMake f c = makeAns f c := by
 unfold refMake makeAns;rw [if_pos hf, if_pos hc, makeGo_eq (ch_of hc)]
 cases c.all (fitAt f) <;> rfl
def byOf : List (Edit ByteArray) → Int
 | [] => 0
 | x :: r => (x.new.length : Int) - (x.old.length : Int) + byOf r
theorem byOf_snoc : ∀ (l : List (Edit ByteArray)) (x : Edit ByteArray), byOf (l ++ [x]) = byOf l + ((x.new.length : Int) - (x.old.length : Int))
 | [], x => by simp [byOf]
 | y :: l, x => by simp only [List.cons_append, byOf, byOf_snoc l x]; omega
def diffBy {α : Type} (a b : List α) : Nat → Nat → List (Nat × Nat) → List (Edit α)
 | _, _, [] => []
 | i, j, p :: r => (if i < p.1 ∨ j < p.2 then [⟨(i : Int), cut a i p.1, cut b j p.2⟩] else []) ++ diffBy a b (p.1 + 1) (p.2 + 1) r
theorem diffBy_eq {α : Type} {a b : List α} : ∀ (l : List (Nat × Nat)) (i j : Nat), (∀ k p, l[k]? = some p → k = 0 → i ≤ p.1 ∧ j ≤ p.2) → (∀ k p q, l[k]? = some p → l[k + 1]? = some q → p.1 < q.1 ∧ p.2 < q.2) → diffBy a b i j l = diffGo a b i j l
 | [], _, _, _, _ => rfl
 | p :: r, i, j, h0, hs => by
  obtain ⟨h1, h2⟩ := h0 0 p rfl rfl
  have ih := diffBy_eq (a := a) (b := b) r (p.1 + 1) (p.2 + 1) (fun k q hq hk => by
   subst hk;have := hs 0 p q rfl (by simpa using hq);omega) fun k q s hq hsn => hs (k + 1) q s (by simpa using hq) (by simpa using hsn)
  unfold diffBy diffGo;rw [ih]
  by_cases he : p.1 = i ∧ p.2 = j
  ·rw [if_pos he, if_neg (by omega)]
  ·rw [if_neg he, if_pos (by omega)]
end File
end Go.Proofs.YtblgkmdadholmabGreatDoor
namespace Go.Proofs.YtblgkmdadholmabGreatDoor
namespace File
theorem pairs_at {α : Type} [DecidableEq α] {a b : List α} : ∀ {l : List (Nat × Nat)} {i j k : Nat} {p : Nat × Nat}, Pairs a b i j l → l[k]? = some p → i ≤ p.1 ∧ j ≤ p.2 ∧ ∃ h1 : p.1 < a.length, ∃ h2 : p.2 < b.length, a[p.1] = b[p.2]
 | [], _, _, _, _, _, h => by simp at h
 | q :: r, i, j, 0, p, ⟨h1, h2, h3, _⟩, h => by
  simp at h; subst h; exact ⟨h1, h2, h3⟩
 | q :: r, i, j, k + 1, p, ⟨h1, h2, _, h4⟩, h => by
  obtain ⟨a1, a2, a3⟩ := pairs_at h4 (show r[k]? = some p by simpa using h);exact ⟨by omega, by omega, a3⟩
theorem pairs_next {α : Type} [DecidableEq α] {a b : List α} : ∀ {l : List (Nat × Nat)} {i j k : Nat} {p q : Nat × Nat}, Pairs a b i j l → l[k]? = some p → l[k + 1]? = some q → p.1 < q.1 ∧ p.2 < q.2
 | [], _, _, _, _, _, _, h, _ => by simp at h
 | x :: r, i, j, 0, p, q, ⟨_, _, _, h4⟩, h, h' => by
  simp at h; subst h;obtain ⟨a1, a2, _⟩ := pairs_at h4 (show r[0]? = some q by simpa using h');exact ⟨by omega, by omega⟩
 | x :: r, i, j, k + 1, p, q, ⟨_, _, _, h4⟩, h, h' => pairs_next h4 (show r[k]? = some p by simpa using h) (show r[k + 1]? = some q by simpa using h')
end File
end Go.Proofs.YtblgkmdadholmabGreatDoor
namespace Go.Proofs.YtblgkmdadholmabGreatDoor
namespace File
def keep (a b : List ByteArray) (own : List (Nat × Nat)) : List (Edit ByteArray) := diffGo a b 0 0 (own ++ [(a.length, b.length)])
end File
namespace Fl
theorem ends_at {a b : List ByteArray} {L : List (Nat × Nat)} (hp : File.Pairs a b 0 0 L) {k : Nat} {p : Nat × Nat} (h : (L ++ [(a.length, b.length)])[k]? = some p) : p.1 ≤ a.length ∧ p.2 ≤ b.length := by
 by_cases hk : k < L.length
 ·rw [List.getElem?_append_left hk] at h;obtain ⟨_, _, g1, g2, _⟩ := File.pairs_at hp h;omega
 ·rw [List.getElem?_append_right (by omega)] at h
  have hk0 : k - L.length = 0 := by
   have := (List.getElem?_eq_some_iff.1 h).1;simp at this;omega
  rw [hk0] at h;simp at h;subst h;exact ⟨Nat.le_refl _, Nat.le_refl _⟩
theorem ends_next {a b : List ByteArray} {L : List (Nat × Nat)} (hp : File.Pairs a b 0 0 L) {k : Nat} {p q : Nat × Nat} (h : (L ++ [(a.length, b.length)])[k]? = some p) (h' : (L ++ [(a.length, b.length)])[k + 1]? = some q) : p.1 < q.1 ∧ p.2 < q.2 := by
 by_cases hk : k + 1 < L.length
 ·rw [List.getElem?_append_left (by omega)] at h;rw [List.getElem?_append_left hk] at h';exact File.pairs_next hp h h'
 ·have hk2 : k + 1 = L.length := by
   have := (List.getElem?_eq_some_iff.1 h').1;simp at this;omega
  rw [List.getElem?_append_left (by omega)] at h;rw [List.getElem?_append_right (by omega), hk2, Nat.sub_self] at h';simp at h';subst h';obtain ⟨_, _, g3, g4, _⟩ := File.pairs_at hp h;exact ⟨g3, g4⟩
end Fl
end Go.Proofs.YtblgkmdadholmabGreatDoor
end
namespace Go.Proofs.YtblgkmdadholmabGreatDoor
section
namespace File
def Red (p q k x y : Nat) : Prop := (Nat.gcd p q ≤ k ∧ x = p ∧ y = q) ∨ (k < Nat.gcd p q ∧ x = p / Nat.gcd p q ∧ y = q / Nat.gcd p q)
theorem Red.yes {p q k x y : Nat} (hp : 0 < p) (h1 : 1 < k) (h : Red p q k x y) (hx : x % k = 0) (hy : y % k = 0) : Red p q (k - 1) (x / k) (y / k) := by
 have hg : 0 < Nat.gcd p q := Nat.gcd_pos_of_pos_left _ hp
 rcases h with ⟨hk, rfl, rfl⟩ | ⟨hk, rfl, rfl⟩
 ·have hd : k ∣ Nat.gcd x y := Nat.dvd_gcd (Nat.dvd_of_mod_eq_zero hx) (Nat.dvd_of_mod_eq_zero hy);have := Nat.le_of_dvd hg hd;have e : Nat.gcd x y = k := (by omega);exact .inr ⟨by omega, by rw [e], by rw [e]⟩
 ·have h1 : Nat.gcd p q * k ∣ p := Nat.mul_dvd_of_dvd_div (Nat.gcd_dvd_left _ _) (Nat.dvd_of_mod_eq_zero hx);have h2 : Nat.gcd p q * k ∣ q := Nat.mul_dvd_of_dvd_div (Nat.gcd_dvd_right _ _) (Nat.dvd_of_mod_eq_zero hy);have h3 := Nat.le_of_dvd hg (Nat.dvd_gcd h1 h2);have h4 := Nat.mul_le_mul_left (Nat.gcd p q) (show 2 ≤ k by omega);omega
theorem Red.no {p q k x y : Nat} (hp : 0 < p) (h : Red p q k x y) (hn : ¬ (x % k = 0 ∧ y % k = 0)) : Red p q (k - 1) x y := by
 rcases h with ⟨hk, rfl, rfl⟩ | ⟨hk, h1, h2⟩
 ·refine .inl ⟨?_, rfl, rfl⟩;have : Nat.gcd x y ≠ k := fun e => hn ⟨by rw [← e]; exact Nat.mod_eq_zero_of_dvd (Nat.gcd_dvd_left _ _), by rw [← e]; exact Nat.mod_eq_zero_of_dvd (Nat.gcd_dvd_right _ _)⟩
  omega
 ·exact .inr ⟨by omega, h1, h2⟩
theorem Red.done {p q k x y : Nat} (hp : 0 < p) (h : Red p q k x y) (hk : ¬ 1 < k) : x = p / Nat.gcd p q ∧ y = q / Nat.gcd p q := by
 have hg : 0 < Nat.gcd p q := Nat.gcd_pos_of_pos_left _ hp
 rcases h with ⟨h1, rfl, rfl⟩ | ⟨_, h1, h2⟩
 ·have e : Nat.gcd x y = 1 := (by omega);rw [e, Nat.div_one, Nat.div_one];exact ⟨rfl, rfl⟩
 ·exact ⟨h1, h2⟩
end File
namespace Fl
open Go.RowKit
set_option maxHeartbeats 8000000 in
theorem ralike_spec (A : Option Addr) (a : List ByteArray) (c : Nat) (A' : Option Addr) (b : List ByteArray) (c' : Nat) (w : World) (ha : a.length ≤ 24) (hb : b.length ≤ 24) (he : errOf a b = 0) (hsa : Sl strE w A a) (hsb : Sl strE w A' b) :
  Calls Tryz.prog 40 #[.slice A a.length c, .slice A' b.length c'] w fun e w' => e = .returned (.tuple #[.agg #[iv (alikeOf a b).1, iv (alikeOf a b).2.1], iv (alikeOf a b).2.2]) ∧ Below w.heap.size w w' := by
 have hR : Below w.heap.size w (w.alloc (.cells #[Value.int .i64 0, Value.int .i64 0] 67)) := rB.alloc nL _;have hRb : Blk (w.alloc (.cells #[Value.int .i64 0, Value.int .i64 0] 67)) w.heap.size 67 #[iv 0, iv 0] := Blk.new _ _ _;have HM := lH (most_spec A a c A' b c' (w.alloc (.cells #[Value.int .i64 0, Value.int .i64 0] 67)) ha hb (hsa.below hR) (hsb.below hR));have hF24 : File.lcs a b ≤ 24 := Nat.le_trans (File.lcs_most _ _) ha;have hlc := File.common_length a b;obtain ⟨F, hF⟩ : ∃ F, F = File.lcs a b := ⟨_, rfl⟩;obtain ⟨⟨t1, t2, t3⟩, hT⟩ : ∃ T, T = alikeOf a b := ⟨_, rfl⟩;rw [← hT];unfold alikeOf at hT;rw [if_pos he, hlc, ← hF] at hT;rw [← hF] at hF24 HM;simp only
 by_cases hF0 : F = 0
 ·subst hF0;have HM : Hid (Calls Tryz.prog 92 #[.slice A a.length c, .slice A' b.length c'] (w.alloc (.cells #[Value.int .i64 0, Value.int .i64 0] 67)) fun e w' => e = .returned (iv 0) ∧ Below (w.alloc (.cells #[Value.int .i64 0, Value.int .i64 0] 67)).heap.size (w.alloc (.cells #[Value.int .i64 0, Value.int .i64 0] 67)) w') := HM;obtain ⟨q, hqq⟩ : ∃ q, q = a.length + b.length := ⟨_, rfl⟩;have hqi : (a.length : Int) + (b.length : Int) = (q : Int) := (by omega);have ewq : IntKind.i64.wrap (q : Int) = (q : Int) := IntWalk.i64_in _ (by omega);rw [← hqq] at hT;have hsz : w.heap.size < (w.alloc (.cells #[Value.int .i64 0, Value.int .i64 0] 67)).heap.size := by simp
  by_cases hz : q = 0
  ·rw [if_pos hz] at hT;injection hT with e1 hT;injection hT with e2 e3;subst e1 e2 e3;have hqz : ((q : Int) == 0) = true := by simp; omega
   clear hz hF hqq hlc he
   go_enter Tryz.func40, Tryz.ntmps40
   (go_wp2_with fail);refine HM.out.mono ?_;rintro e w1 ⟨rfl, hb1⟩;have hb2 := hR.next hb1 nL;have HB1 := lH (hRb.under hb1);have r0 := (hRb.under hb1).cell 0;have r1 := (hRb.under hb1).cell 1;have f0 := (hRb.under hb1).frozen 0;have f1 := (hRb.under hb1).frozen 1;have hl1 := (hRb.under hb1).lt;(go_wp2_with fail);exact bodyPost_ret (results_row_tmp (fn := Tryz.f40) (p := 4) (u := 5) (ty := 67) (by kernel_rfl) _ _ w.heap.size _ (by rfl) (ratio_row ((HB1.out.set_ 0 (iv 0)).set_ 1 (iv 0)))) rfl ⟨rfl, (hb2.setCell (p := ⟨w.heap.size, 0, none⟩) nL _).setCell (p := ⟨w.heap.size, 1, none⟩) nL _⟩
  ·rw [if_neg hz] at hT;injection hT with e1 hT;injection hT with e2 e3
   have hgo : (2 * 0 / Nat.gcd (2 * 0) q : Nat) = 0 ∧ (q / Nat.gcd (2 * 0) q : Nat) = 1 := by
    simp;exact Nat.div_self (by omega)
   rw [hgo.1] at e1;rw [hgo.2] at e2;replace e1 : t1 = 0 := e1;replace e2 : t2 = 1 := e2;subst e1 e2 e3;have hqz : ((q : Int) == 0) = false := by simp; omega
   clear hz hF hqq hlc he hgo
   go_enter Tryz.func40, Tryz.ntmps40
   (go_wp2_with fail);refine HM.out.mono ?_;rintro e w1 ⟨rfl, hb1⟩;have hb2 := hR.next hb1 nL;have HB1 := lH (hRb.under hb1);have r0 := (hRb.under hb1).cell 0;have r1 := (hRb.under hb1).cell 1;have f0 := (hRb.under hb1).frozen 0;have f1 := (hRb.under hb1).frozen 1;have hl1 := (hRb.under hb1).lt;(go_wp2_with fail);exact bodyPost_ret (results_row_tmp (fn := Tryz.f40) (p := 4) (u := 5) (ty := 67) (by kernel_rfl) _ _ w.heap.size _ (by rfl) (ratio_row ((HB1.out.set_ 0 (iv 0)).set_ 1 (iv 1)))) rfl ⟨rfl, (hb2.setCell (p := ⟨w.heap.size, 0, none⟩) nL _).setCell (p := ⟨w.heap.size, 1, none⟩) nL _⟩
 have ew1 : IntKind.i64.wrap (2 * (F : Int)) = 2 * (F : Int) := IntWalk.i64_in _ (by omega);have ew2 : IntKind.i64.wrap ((a.length : Int) + (b.length : Int)) = (a.length : Int) + (b.length : Int) := IntWalk.i64_in _ (by omega);have hsz : w.heap.size < (w.alloc (.cells #[Value.int .i64 0, Value.int .i64 0] 67)).heap.size := by simp
 clear hlc he
 go_enter Tryz.func40, Tryz.ntmps40
 (go_wp2_with fail);refine HM.out.mono ?_;rintro e w1 ⟨rfl, hb1⟩;have hb2 := hR.next hb1 nL;have HB1 := lH (hRb.under hb1);have r0 := (hRb.under hb1).cell 0;have r1 := (hRb.under hb1).cell 1;have f0 := (hRb.under hb1).frozen 0;have f1 := (hRb.under hb1).frozen 1;have hl1 := (hRb.under hb1).lt
 by_cases hz : a.length + b.length = 0
 ·rw [if_pos hz] at hT;injection hT with e1 hT;injection hT with e2 e3;subst e1 e2 e3;have hq : ((a.length : Int) + b.length == 0) = true := by simp; omega
  clear hz;(go_wp2_with fail);exact bodyPost_ret (results_row_tmp (fn := Tryz.f40) (p := 4) (u := 5) (ty := 67) (by kernel_rfl) _ _ w.heap.size _ (by rfl) (ratio_row ((HB1.out.set_ 0 (iv 0)).set_ 1 (iv 0)))) rfl ⟨rfl, (hb2.setCell (p := ⟨w.heap.size, 0, none⟩) nL _).setCell (p := ⟨w.heap.size, 1, none⟩) nL _⟩
 ·rw [if_neg hz] at hT;injection hT with e1 hT;injection hT with e2 e3;subst e3;have hq : ((a.length : Int) + b.length == 0) = false := by simp; omega
  obtain ⟨p, hp⟩ : ∃ p, p = 2 * F := ⟨_, rfl⟩;obtain ⟨q, hqq⟩ : ∃ q, q = a.length + b.length := ⟨_, rfl⟩;have hpi : 2 * (F : Int) = (p : Int) := (by omega);have hqi : (a.length : Int) + (b.length : Int) = (q : Int) := (by omega);rw [← hp, ← hqq] at e1 e2;rw [hpi] at ew1;rw [hqi] at ew2 hq;have hp0 : ¬ p = 0 := (by omega);have hq2 : ((p : Int) == 0) = false := by simp; omega
  have HE1 := lH e1;have HE2 := lH e2;clear e1 e2;have hpp : 0 < p := (by omega);have hp48 : p ≤ 48 := (by omega);have hq48 : q ≤ 48 := (by omega);clear hz hF hp hqq hp0
  go_upto_region 7 with fail
  go_loopw [6, 7, 8] (fun u v z wr => ∃ x y k : Nat, x ≤ 48 ∧ y ≤ 48 ∧ k ≤ 48 ∧ u = iv (x : Int) ∧ v = iv (y : Int) ∧ z = iv (k : Int) ∧ Hid (File.Red p q k x y) ∧ Below w1.heap.size w1 wr) (fun _ _ z _ => (intOf z).toNat)
  case atStart => exact ⟨p, q, p, hp48, hq48, hp48, by first | rfl | rw [hpi], by first | rfl | rw [hqi], by first | rfl | rw [hpi], lH (.inl ⟨Nat.le_of_dvd hpp (Nat.gcd_dvd_left _ _), rfl, rfl⟩), rB⟩
  case round =>
   obtain ⟨x2, y2, k, hx, hy, hk, rfl, rfl, rfl, HR, hbr⟩ := hrel
   by_cases hlt : 1 < k
   ·have hki : (1 : Int) < (k : Int) := (by omega);have hk0 : ¬ ((k : Int) = 0) := (by omega);have hkq : ((k : Int) == 0) = false := by simp; omega
    have hm1 : Int.tmod (x2 : Int) (k : Int) = ((x2 % k : Nat) : Int) := by rw [Int.tmod_eq_emod_of_nonneg (by omega)]; rfl
    have hm2 : Int.tmod (y2 : Int) (k : Int) = ((y2 % k : Nat) : Int) := by rw [Int.tmod_eq_emod_of_nonneg (by omega)]; rfl
    have hd1 : Int.tdiv (x2 : Int) (k : Int) = ((x2 / k : Nat) : Int) := by rw [Int.tdiv_eq_ediv_of_nonneg (by omega)]; rfl
    have hd2 : Int.tdiv (y2 : Int) (k : Int) = ((y2 / k : Nat) : Int) := by rw [Int.tdiv_eq_ediv_of_nonneg (by omega)]; rfl
    obtain ⟨r1', hr1⟩ : ∃ r, r = x2 % k := ⟨_, rfl⟩;obtain ⟨r2', hr2⟩ : ∃ r, r = y2 % k := ⟨_, rfl⟩;have hxd : x2 / k ≤ 48 := Nat.le_trans (Nat.div_le_self _ _) hx;have hyd : y2 / k ≤ 48 := Nat.le_trans (Nat.div_le_self _ _) hy;obtain ⟨d1, hd1e⟩ : ∃ d, d = x2 / k := ⟨_, rfl⟩;obtain ⟨d2, hd2e⟩ : ∃ d, d = y2 / k := ⟨_, rfl⟩;rw [← hr1] at hm1;rw [← hr2] at hm2;rw [← hd1e] at hd1 hxd;rw [← hd2e] at hd2 hyd;have hrl1 : r1' < k := by rw [hr1]; exact Nat.mod_lt _ (by omega)
    have hrl2 : r2' < k := by rw [hr2]; exact Nat.mod_lt _ (by omega)
    have HE := lH (And.intro hr1 (And.intro hr2 (And.intro hd1e hd2e)));have ewr1 : IntKind.i64.wrap (r1' : Int) = (r1' : Int) := IntWalk.i64_in _ (by omega);have ewr2 : IntKind.i64.wrap (r2' : Int) = (r2' : Int) := IntWalk.i64_in _ (by omega);have ewd1 : IntKind.i64.wrap (d1 : Int) = (d1 : Int) := IntWalk.i64_in _ (by omega);have ewd2 : IntKind.i64.wrap (d2 : Int) = (d2 : Int) := IntWalk.i64_in _ (by omega);have ewk : IntKind.i64.wrap ((k : Int) - 1) = (k : Int) - 1 := IntWalk.i64_in _ (by omega);clear hr1 hr2 hd1e hd2e r0 r1 f0 f1
    by_cases h1 : r1' = 0
    ·have hz1 : ((r1' : Int) == 0) = true := by simp; omega
     by_cases h2 : r2' = 0
     ·have hz2 : ((r2' : Int) == 0) = true := by simp; omega
      have HN : Hid (File.Red p q (k - 1) d1 d2) := lH (by
       obtain ⟨e1, e2, e3, e4⟩ := HE.out;rw [e3, e4];exact HR.out.yes hpp hlt (by omega) (by omega))
      clear h1 h2
      go_upto_region 10 with fail
      go_quiet (fail)
      ·have hR := below_q wr nq;generalize wr.drewN nq = x9 at *;have hb3 := hbr.next hR nL;(go_wp2_with fail);go_roundw
       case rel => exact ⟨d1, d2, k - 1, hxd, hyd, by omega, rfl, rfl, by go_num, HN, hb3⟩
       case measure => simp [intOf]; omega
     ·have hz2 : ((r2' : Int) == 0) = false := by simp; omega
      have HN : Hid (File.Red p q (k - 1) x2 y2) := lH (by
       obtain ⟨e1, e2, e3, e4⟩ := HE.out;exact HR.out.no hpp (fun h => h2 (by omega)))
      clear h1 h2;(go_wp2_with fail);go_roundw
      case rel => exact ⟨x2, y2, k - 1, hx, hy, by omega, rfl, rfl, by go_num, HN, hbr⟩
      case measure => simp [intOf]; omega
    ·have hz1 : ((r1' : Int) == 0) = false := by simp; omega
     have HN : Hid (File.Red p q (k - 1) x2 y2) := lH (by
      obtain ⟨e1, e2, e3, e4⟩ := HE.out;exact HR.out.no hpp (fun h => h1 (by omega)))
     clear h1;(go_wp2_with fail);go_roundw
     case rel => exact ⟨x2, y2, k - 1, hx, hy, by omega, rfl, rfl, by go_num, HN, hbr⟩
     case measure => simp [intOf]; omega
   ·have hki : ¬ (1 : Int) < (k : Int) := (by omega);obtain ⟨e1, e2⟩ := HR.out.done hpp hlt;have e3 := HE1.out;have e4 := HE2.out;rw [← e1] at e3;rw [← e2] at e4;subst e3 e4;have HB2 := lH (HB1.out.under hbr);have g0 := HB2.out.cell 0;have g1 := HB2.out.cell 1;have gf0 := HB2.out.frozen 0;have gf1 := HB2.out.frozen 1;have gl := HB2.out.lt;have hb3 := hb2.next hbr nL;clear HE1 HE2 e1 e2 HR r0 r1 f0 f1;(go_wp2_with fail);exact bodyPost_ret (results_row_tmp (fn := Tryz.f40) (p := 4) (u := 5) (ty := 67) (by kernel_rfl) _ _ w.heap.size _ (by rfl) (ratio_row ((HB2.out.set_ 0 (iv _)).set_ 1 (iv _)))) rfl ⟨rfl, (hb3.setCell (p := ⟨w.heap.size, 0, none⟩) nL _).setCell (p := ⟨w.heap.size, 1, none⟩) nL _⟩
end Fl
end
section
namespace Fl
open Go.RowKit
theorem Sl.cellRw {α : Type} {w : World} {b off k : Nat} {rs : List (Rw α)} {r : Rw α} (h : Sl (rwE α) w (some ⟨b, off, none⟩) rs) (hx : rs[k]? = some r) : ∀ W, Below w.heap.size w W → W.cell? ⟨b, off + k, none⟩ = some (.slice r.A r.xs.length r.c) := fun W hW => by
 obtain ⟨_, _, s2, hA', _, hx2, hc2⟩ := Sl.atRw (h.below hW) (List.getElem?_eq_some_iff.1 hx).1;injection hA' with hA';injection hA' with e1 e2 _;subst e1; subst e2;rw [hx] at hx2;rw [hc2, ← Option.some.inj hx2]
theorem Sl.cellI {w : World} {b off k : Nat} {xs : List Int} {x : Int} (h : Sl intE w (some ⟨b, off, none⟩) xs) (hx : xs[k]? = some x) : ∀ W, Below w.heap.size w W → W.cell? ⟨b, off + k, none⟩ = some (iv x) := fun W hW => by
 obtain ⟨_, _, s2, hA', _, hx2, hc2⟩ := Sl.atI (h.below hW) (List.getElem?_eq_some_iff.1 hx).1;injection hA' with hA';injection hA' with e1 e2 _;subst e1; subst e2;rw [hx] at hx2;rw [hc2, Option.some.inj hx2]
theorem map_at {rs : List (Rw Int)} {k : Nat} {r : Rw Int} (h : rs[k]? = some r) : (rs.map Rw.xs)[k]? = some r.xs := by rw [List.getElem?_map, h]; rfl
def Later (a b : List ByteArray) (xs : List (List Int)) (i j : Nat) (n : Int) (k l : Nat) : Prop := 0 < n → a[k]? = b[l]? → n < (xs.getD k []).getD l 0
set_option maxHeartbeats 16000000 in
theorem rbound_spec (A : Option Addr) (a : List ByteArray) (c : Nat) (A' : Option Addr) (b : List ByteArray) (c' : Nat) (B : Option Addr) (rs : List (Rw Int)) (d : Nat) (w : World) (ha : a.length ≤ 24) (hb : b.length ≤ 24) (hm : rs.length ≤ big) (hms : ∀ r ∈ rs, r.xs.length ≤ big)
  (hsa : Sl strE w A a) (hsb : Sl strE w A' b) (hsr : Sl (rwE Int) w B rs) (hrr : RowsR intE w rs) :
  Calls Tryz.prog 41 #[.slice A a.length c, .slice A' b.length c', .slice B rs.length d] w fun e w' => e = .returned (.tuple #[iv (File.refBound a b (rs.map Rw.xs)).1, iv (File.refBound a b (rs.map Rw.xs)).2]) ∧ Below w.heap.size w w' := by
 unfold big at hm;obtain ⟨R, hR⟩ : ∃ R, R = File.refBound a b (rs.map Rw.xs) := ⟨_, rfl⟩;rw [← hR];unfold File.refBound at hR;have HMS := lH hms;clear hms
 by_cases hl : rs.length = a.length
 ·have hq : ((rs.length : Int) != (a.length : Int)) = false := by simp; omega
  obtain ⟨XS, hXS⟩ : ∃ XS, XS = rs.map Rw.xs := ⟨_, rfl⟩;rw [← hXS] at hR;have hXl : XS.length = a.length := by rw [hXS, List.length_map]; exact hl
  have HX : Hid (∀ (k : Nat) (r : Rw Int), rs[k]? = some r → XS[k]? = some r.xs) := lH fun k r h => by rw [hXS]; exact map_at h
  have HR := lH hR;have HXL := lH hXl;clear hXS hR hXl
  go_enter Tryz.func41, Tryz.ntmps41
  (go_wp2_with fail)
  go_loopw [8] (fun v wr => ∃ i : Nat, i ≤ rs.length ∧ v = iv (i : Int) ∧ Hid (((XS.drop i).all fun l => decide (l.length = b.length)) = XS.all fun l => decide (l.length = b.length)) ∧ Below w.heap.size w wr) (fun v _ => rs.length - (intOf v).toNat)
  case atStart => exact ⟨0, Nat.zero_le _, rfl, rfl, rB⟩
  case round =>
   obtain ⟨i, hi, rfl, HA, hbr⟩ := hrel
   by_cases hlt : i < rs.length
   ·have hii : (i : Int) < (rs.length : Int) := (by omega);obtain ⟨bR, oR, r, rfl, hbR, hr, hcR⟩ := Sl.atRw (hsr.below hbr) hlt;have hrb := HMS.out r (mem_at hr);unfold big at hrb;have hA := HA.out;rw [drop_at (HX.out i r hr), List.all_cons] at hA
    by_cases he : r.xs.length = b.length
    ·have hq2 : ((r.xs.length : Int) != (b.length : Int)) = false := by simp; omega
     have HN : Hid (((XS.drop (i + 1)).all fun l => decide (l.length = b.length)) = XS.all fun l => decide (l.length = b.length)) := lH (by rw [← hA, decide_eq_true he, Bool.true_and]);clear hA HA hr he;(go_wp2_with fail);go_roundw
     case rel => exact ⟨i + 1, by omega, by go_num, HN, hbr⟩
     case measure => simp [intOf]; omega
    ·have hq2 : ((r.xs.length : Int) != (b.length : Int)) = true := by simp; omega
     have HN : Hid (R = (0, 2)) := lH (by
      rw [HR.out, if_neg];rintro ⟨_, h⟩;rw [← hA, decide_eq_false he, Bool.false_and] at h
      cases h)
     clear hA HA hr he;(go_wp2_with fail);go_ret2;exact ⟨by rw [HN.out]; rfl, hbr⟩
   ·have hii : ¬ (i : Int) < (rs.length : Int) := (by omega);have hA := HA.out;rw [List.drop_eq_nil_of_le (by have := HXL.out; omega)] at hA;have hR2 := HR.out;rw [if_pos ⟨HXL.out, hA.symm⟩] at hR2
    have HLN : Hid (∀ r ∈ rs, r.xs.length = b.length) := lH fun r hr => by
     obtain ⟨k, hk⟩ := List.getElem?_of_mem hr;have := List.all_eq_true.1 hA.symm r.xs (mem_at (HX.out k r hk))
     simpa using this
    have HR2 := lH hR2;clear hA HA hR2 HR HMS;generalize wr = w1 at *;(go_wp2_with fail)
    go_loopw [9, 10] (fun v _ wr => ∃ i : Nat, i ≤ a.length ∧ v = iv (i : Int) ∧ Hid (((XS.drop i).all fun l => l.all File.inr) = XS.all fun l => l.all File.inr) ∧ Below w.heap.size w wr) (fun v _ _ => a.length - (intOf v).toNat)
    case atStart => exact ⟨0, Nat.zero_le _, rfl, rfl, hbr⟩
    case round =>
     clear hbr;obtain ⟨i, hi, rfl, HA, hbr⟩ := hrel
     by_cases hlt : i < a.length
     ·have hii : (i : Int) < (a.length : Int) := (by omega);have hirs : (i : Int) < (rs.length : Int) := (by omega);obtain ⟨bR, oR, r, rfl, hbR, hr, hcR⟩ := Sl.atRw (hsr.below hbr) (show i < rs.length by omega);have hrl := HLN.out r (mem_at hr);have hA := HA.out;rw [drop_at (HX.out i r hr), List.all_cons] at hA;have HCR := lH (Sl.cellRw (hsr.below hbr) hr);have HRR : Hid (∀ W, Below w.heap.size w W → Sl intE W r.A r.xs) := lH fun W h => (hrr r (mem_at hr)).1.below h
      obtain ⟨RA, RC, rx⟩ := r;simp only at hrl hA HCR HRR;have HA2 := lH hA;have HRL := lH hrl;clear hA HA hr hcR hrl;have hbi := hbr;generalize wr = w2 at *;(go_wp2_with fail)
      go_loopw [10] (fun v wx => ∃ j : Nat, j ≤ b.length ∧ v = iv (j : Int) ∧ Hid (((rx.drop j).all File.inr && ((XS.drop (i + 1)).all fun l => l.all File.inr)) = XS.all fun l => l.all File.inr) ∧ Below w2.heap.size w2 wx) (fun v _ => b.length - (intOf v).toNat)
      case atStart => exact ⟨0, Nat.zero_le _, rfl, HA2, rB⟩
      case round =>
       clear HA2;obtain ⟨j, hj, rfl, HA, hbx⟩ := hrel;have hb0 := hbi.next hbx nL
       by_cases hlt2 : j < b.length
       ·have hji : (j : Int) < (b.length : Int) := (by omega);have hjr : (j : Int) < (rx.length : Int) := by rw [HRL.out]; exact hji
        obtain ⟨bI, oI, n, rfl, hbI, hn, hcI⟩ := Sl.atI (HRR.out _ hb0) (show j < rx.length by rw [HRL.out]; exact hlt2);have hcR := HCR.out _ hbx;have hA := HA.out;rw [drop_at hn, List.all_cons] at hA
        by_cases h0 : n < 0
        ·have HN : Hid (R = (0, 3)) := lH (by
          rw [HR2.out, if_neg];intro h;rw [← hA, show File.inr n = false by unfold File.inr; rw [decide_eq_false (by omega)]; rfl] at h
          simp at h)
         clear hA HA hn;(go_wp2_with fail);go_ret2;exact ⟨by rw [HN.out]; rfl, hb0⟩
        ·by_cases h24 : 24 < n
         ·have HN : Hid (R = (0, 3)) := lH (by
           rw [HR2.out, if_neg];intro h;rw [← hA, show File.inr n = false by unfold File.inr; rw [decide_eq_false (p := n ≤ 24) (by omega), Bool.and_false]] at h
           simp at h)
          clear hA HA hn;(go_wp2_with fail);go_ret2;exact ⟨by rw [HN.out]; rfl, hb0⟩
         ·have HN : Hid (((rx.drop (j + 1)).all File.inr && ((XS.drop (i + 1)).all fun l => l.all File.inr)) = XS.all fun l => l.all File.inr) := lH (by
           rw [← hA, show File.inr n = true by unfold File.inr; rw [decide_eq_true (by omega), decide_eq_true (by omega)]; rfl, Bool.true_and])
          clear hA HA hn;(go_wp2_with fail);go_roundw
          case rel => exact ⟨j + 1, by omega, by go_num, HN, hbx⟩
          case measure => simp [intOf]; omega
       ·have hji : ¬ (j : Int) < (b.length : Int) := (by omega);have hA := HA.out;rw [List.drop_eq_nil_of_le (by rw [HRL.out]; omega), List.all_nil, Bool.true_and] at hA;have HN := lH hA;clear hA HA;(go_wp2_with fail);go_roundw
        case rel => exact ⟨i + 1, by omega, by go_num, HN, hb0⟩
        case measure => simp [intOf]; omega
     ·have hii : ¬ (i : Int) < (a.length : Int) := (by omega);have hA := HA.out;rw [List.drop_eq_nil_of_le (by have := HXL.out; omega)] at hA;have hR3 := HR2.out;rw [if_pos (show (XS.all fun l => l.all File.inr) = true from hA.symm)] at hR3;have HR3 := lH hR3
      have HIN : Hid (∀ r ∈ rs, ∀ n ∈ r.xs, 0 ≤ n ∧ n ≤ 24) := lH fun r hr n hn => by
       obtain ⟨k, hk⟩ := List.getElem?_of_mem hr;have := List.all_eq_true.1 (List.all_eq_true.1 hA.symm r.xs (mem_at (HX.out k r hk))) n hn;unfold File.inr at this
       simpa using this
      clear hA HA hR3 HR2;generalize wr = w3 at *;(go_wp2_with fail)
      go_loopw [11, 12, 13, 14, 15, 16] (fun u v _ _ _ _ wr => ∃ (i m : Nat), i ≤ a.length ∧ u = iv (m : Int) ∧ v = iv (i : Int) ∧ m ≤ 24 ∧ Hid (File.levelsP (File.laterOk a b XS) i (m : Int) (XS.drop i) = R) ∧ Below w.heap.size w wr) (fun _ v _ _ _ _ _ => a.length - (intOf v).toNat)
      case atStart => exact ⟨0, 0, Nat.zero_le _, rfl, rfl, by omega, lH HR3.out.symm, hbr⟩
      case round =>
       clear hbr HR3;obtain ⟨i, m, hi, rfl, rfl, hm24, HL, hbr⟩ := hrel
       by_cases hlt : i < a.length
       ·have hii : (i : Int) < (a.length : Int) := (by omega);have hirs : (i : Int) < (rs.length : Int) := (by omega);obtain ⟨bR, oR, r, rfl, hbR, hr, hcR⟩ := Sl.atRw (hsr.below hbr) (show i < rs.length by omega);obtain ⟨ba, oa, sa, rfl, hba, hxa, hca⟩ := Sl.atS (hsa.below hbr) hlt;have hrl := HLN.out r (mem_at hr);have hL := HL.out;rw [drop_at (HX.out i r hr), File.levelsP] at hL;have HCR := lH (Sl.cellRw (hsr.below hbr) hr);have HCA := lH (Sl.cellS (hsa.below hbr) hxa);have HRR : Hid (∀ W, Below w.heap.size w W → Sl intE W r.A r.xs) := lH fun W h => (hrr r (mem_at hr)).1.below h
        have HRI := lH (HIN.out r (mem_at hr));have HXA := lH hxa;obtain ⟨RA, RC, rx⟩ := r;simp only at hrl hL HCR HRR HRI;have HL2 := lH hL;have HRL := lH hrl;clear hL HL hr hcR hrl hca hxa;have hbi := hbr;generalize wr = w2 at *;(go_wp2_with fail)
        go_loopw [11, 13, 14, 15, 16] (fun u v _ _ _ wx => ∃ (j m : Nat), j ≤ b.length ∧ u = iv (m : Int) ∧ v = iv (j : Int) ∧ m ≤ 24 ∧ Hid ((match File.rowP (File.laterOk a b XS) i j (m : Int) (rx.drop j) with | some m => File.levelsP (File.laterOk a b XS) (i + 1) m (XS.drop (i + 1)) | none => (0, 8)) = R) ∧ Below w2.heap.size w2 wx) (fun _ v _ _ _ _ => b.length - (intOf v).toNat)
        case atStart => exact ⟨0, m, Nat.zero_le _, rfl, rfl, hm24, HL2, rB⟩
        case round =>
         clear HL2;obtain ⟨j, m, hj, rfl, rfl, hm24, HL, hbx⟩ := hrel;have hb0 := hbi.next hbx nL
         by_cases hlt2 : j < b.length
         ·have hji : (j : Int) < (b.length : Int) := (by omega);have hjr : (j : Int) < (rx.length : Int) := by rw [HRL.out]; exact hji
          obtain ⟨bI, oI, n0, rfl, hbI, hn, hcI⟩ := Sl.atI (HRR.out _ hb0) (show j < rx.length by rw [HRL.out]; exact hlt2);obtain ⟨bb, ob, sb, rfl, hbb, hxb, hcb⟩ := Sl.atS (hsb.below hb0) hlt2;have hcR := HCR.out _ hbx;have hnr := HRI.out n0 (mem_at hn);obtain ⟨n, rfl⟩ : ∃ n : Nat, n0 = (n : Int) := ⟨n0.toNat, by omega⟩;have hn24 : n ≤ 24 := (by omega);have hL := HL.out;rw [drop_at hn, File.rowP] at hL;have HL3 := lH hL;have HCB := lH (Sl.cellS (hsb.below hb0) hxb);obtain ⟨q, hqs⟩ : ∃ q, (sa.toList == sb.toList) = q := ⟨_, rfl⟩;have hqd : q = decide (sa = sb) := by rw [← hqs, str_eq]
          have HLI : Hid (File.laterOk a b XS i j (n : Int) = true ↔ ((n = 0 ↔ q = false) ∧ ∀ k l, i < k → k < a.length → j < l → l < b.length → Later a b XS i j (n : Int) k l)) := lH (by
           rw [File.later_iff, HXA.out, hxb, hqd];refine and_congr ?_ Iff.rfl;rw [decide_eq_false_iff_not]
           constructor <;> intro h <;> constructor <;> intro h1
           ·exact fun e => (h.1 (by omega)) (by rw [e])
           ·have := h.2 (fun e => h1 (Option.some.inj e)); omega
           ·intro e;exact (h.1 (by omega)) (Option.some.inj e)
           ·have := h.2 (fun e => h1 (by rw [e])); omega)
          clear hL HL hn hxb hcb hnr
          have HBD : Hid (∀ k l, i < k → k < a.length → j < l → l < b.length → ¬ Later a b XS i j (n : Int) k l → R = (0, 8)) := lH fun k l h1 h2 h3 h4 h5 => by
           rw [← HL3.out, if_neg];intro h;exact h5 ((HLI.out.1 h).2 k l h1 h2 h3 h4)
          obtain ⟨q', hqn⟩ : ∃ q', (sa.toList != sb.toList) = q' := ⟨_, rfl⟩;obtain ⟨z, hz1⟩ : ∃ z, ((n : Int) == 0) = z := ⟨_, rfl⟩;obtain ⟨z', hz2⟩ : ∃ z', ((n : Int) != 0) = z' := ⟨_, rfl⟩;have hqq : q' = !q := by rw [← hqn, ← hqs]; rfl
          have hzz : z' = !z := by rw [← hz1, ← hz2]; rfl
          have hzn : z = decide (n = 0) := by rw [← hz1, Bool.eq_iff_iff]; simp
          clear hqd
          rcases Bool.eq_false_or_eq_true q with hqv | hqv
          rotate_left
          ·have hqw : q' = true := by rw [hqq, hqv]; rfl
           by_cases hn0 : n = 0
           ·have hzv : z = true := by rw [hzn]; exact decide_eq_true hn0
            have hzw : z' = false := by rw [hzz, hzv]; rfl
            clear hqq hzz hzn
            have HOK : Hid ((∀ k l, i < k → k < a.length → j < l → l < b.length → Later a b XS i j (n : Int) k l) → (match File.rowP (File.laterOk a b XS) i (j + 1) (max (m : Int) (n : Int)) (rx.drop (j + 1)) with | some m => File.levelsP (File.laterOk a b XS) (i + 1) m (XS.drop (i + 1)) | none => (0, 8)) = R) := lH fun h => by
             rw [← HL3.out, if_pos (HLI.out.2 ⟨⟨fun _ => hqv, fun _ => hn0⟩, h⟩)]
            clear hn0
            go_upto_region 24 with fail
            have gq1 := HCA.out wr (hbx.next rB nL);have gq2 := HCB.out wr rB
            go_quiet (fail)
            ·have hR := below_q wr nq;generalize wr.drewN nq = x1 at *;clear gq1 gq2;have hb01 := hb0.next hR nL;have hb21 := hbx.next hR nL;clear hR;(go_wp2_with fail)
             go_loopw [15, 16] (fun v _ wk => ∃ k : Nat, i < k ∧ k ≤ a.length ∧ v = iv (k : Int) ∧ Hid (∀ k' l, i < k' → k' < k → j < l → l < b.length → Later a b XS i j (n : Int) k' l) ∧ Below x1.heap.size x1 wk) (fun v _ _ => a.length - (intOf v).toNat)
             case atStart => exact ⟨i + 1, by omega, by omega, by go_num, lH fun k' l h1 h2 => absurd h2 (by omega), rB⟩
             case round =>
              obtain ⟨k, hik, hk, rfl, HK, hbk⟩ := hrel
              by_cases hlt3 : k < a.length
              ·have hki : (k : Int) < (a.length : Int) := (by omega);have hkrs : (k : Int) < (rs.length : Int) := (by omega);(go_wp2_with fail)
               go_loopw [16] (fun v wl => ∃ l : Nat, j < l ∧ l ≤ b.length ∧ v = iv (l : Int) ∧ Hid (∀ l', j < l' → l' < l → Later a b XS i j (n : Int) k l') ∧ Below x1.heap.size x1 wl) (fun v _ => b.length - (intOf v).toNat)
               case atStart => exact ⟨j + 1, by omega, by omega, by go_num, lH fun l' h1 h2 => absurd h2 (by omega), hbk⟩
               case round =>
                clear hbk;obtain ⟨l, hjl, hl2, rfl, HLL, hbl⟩ := hrel;have hb0l := hb01.next hbl nL
                by_cases hlt4 : l < b.length
                ·have hli : (l : Int) < (b.length : Int) := (by omega);have ewl : IntKind.i64.wrap ((l : Int) + 1) = (l : Int) + 1 := IntWalk.i64_in _ (by omega)
                 by_cases hn0 : n = 0
                 ·have hng : ¬ (0 : Int) < (n : Int) := (by omega);have hng' : ¬ 0 < n := (by omega);clear hn0;have HLN2 : Hid (∀ l', j < l' → l' < l + 1 → Later a b XS i j (n : Int) k l') := lH fun l' h1 h2 h3 => absurd h3 hng
                  go_upto_region 32 with fail
                  go_quiet (fail)
                  ·have hR := below_q wr nq;generalize wr.drewN nq = x2 at *;have hbl2 := hbl.next hR nL;(go_wp2_with fail);go_roundw
                   case rel => exact ⟨l + 1, by omega, by omega, by go_num, HLN2, hbl2⟩
                   case measure => simp [intOf]; omega
                 ·have hng : (0 : Int) < (n : Int) := (by omega);have hng' : 0 < n := (by omega);clear hn0;obtain ⟨bR2, oR2, r2, hBR2, hbR2, hr2, hcR2⟩ := Sl.atRw (hsr.below hb0l) (show k < rs.length by omega);injection hBR2 with hBR2;injection hBR2 with e1 e2 _;subst e1; subst e2;obtain ⟨_, _, sa2, hA2, _, hxa2, _⟩ := Sl.atS (hsa.below hb0l) hlt3;injection hA2 with hA2;injection hA2 with e1 e2 _;subst e1; subst e2;obtain ⟨_, _, sb2, hB2, _, hxb2, _⟩ := Sl.atS (hsb.below hb0l) hlt4;injection hB2 with hB2;injection hB2 with e1 e2 _;subst e1; subst e2;have HCA2 := lH (Sl.cellS (hsa.below hb0l) hxa2);have HCB2 := lH (Sl.cellS (hsb.below hb0l) hxb2);have HCR2 := lH (Sl.cellRw (hsr.below hb0l) hr2);have hrl2 := HLN.out r2 (mem_at hr2);have hlr2 : (l : Int) < (r2.xs.length : Int) := (by omega);obtain ⟨bI2, oI2, v2, hAI2, _, hv2, _⟩ := Sl.atI ((hrr r2 (mem_at hr2)).1.below hb0l) (show l < r2.xs.length by omega)
                  have hXk := HX.out k r2 hr2;have hLat : (XS.getD k []).getD l 0 = v2 := by simp [List.getD_eq_getElem?_getD, hXk, hv2]
                  obtain ⟨R2A, R2C, r2x⟩ := r2;simp only at hAI2 hv2 hrl2 hlr2 HCR2;have hSlI := (hrr _ (mem_at hr2)).1.below hb0l;simp only at hSlI;subst hAI2;have HCI2 := lH (Sl.cellI hSlI hv2);obtain ⟨q2, hqs2⟩ : ∃ q, (sa2.toList == sb2.toList) = q := ⟨_, rfl⟩;have hqd2 : q2 = decide (sa2 = sb2) := by rw [← hqs2, str_eq]
                  have HLT : Hid (Later a b XS i j (n : Int) k l ↔ (q2 = true → (n : Int) < v2)) := lH (by
                   unfold Later;rw [hxa2, hxb2, hLat, hqd2, decide_eq_true_iff];exact ⟨fun h e => h hng (by rw [e]), fun h _ e => h (Option.some.inj e)⟩)
                  clear hqd2 hLat hXk hv2 hxa2 hxb2 hr2 hcR2 hSlI hrl2
                  rcases Bool.eq_false_or_eq_true q2 with hqv2 | hqv2
                  rotate_left
                  ·have HLN2 : Hid (∀ l', j < l' → l' < l + 1 → Later a b XS i j (n : Int) k l') := lH fun l' h1 h2 => by
                    by_cases he : l' = l
                    ·subst he; exact HLT.out.2 (fun h => by rw [hqv2] at h; cases h)
                    ·exact HLL.out l' h1 (by omega)
                   go_upto_region 32 with fail
                   have gq1 := HCA2.out wr rB;have gq2 := HCB2.out wr rB
                   go_quiet (fail)
                   ·have hR := below_q wr nq;generalize wr.drewN nq = x2 at *;clear gq1 gq2;have hbl2 := hbl.next hR nL;(go_wp2_with fail);go_roundw
                    case rel => exact ⟨l + 1, by omega, by omega, by go_num, HLN2, hbl2⟩
                    case measure => simp [intOf]; omega
                  ·obtain ⟨t, ht⟩ : ∃ t, decide (v2 ≤ (n : Int)) = t := ⟨_, rfl⟩;have HT := lH ht
                   go_upto_region 32 with fail
                   have gq1 := HCA2.out wr rB;have gq2 := HCB2.out wr rB;have gq3 := HCR2.out wr rB;have gq4 := HCI2.out wr rB
                   go_quiet (fail)
                   ·have hR := below_q wr nq;generalize wr.drewN nq = x2 at *;clear gq1 gq2 gq3 gq4;have hbl2 := hbl.next hR nL;have hb02 := hb0l.next hR nL
                    cases t
                    ·have HLN2 : Hid (∀ l', j < l' → l' < l + 1 → Later a b XS i j (n : Int) k l') := lH fun l' h1 h2 => by
                      by_cases he : l' = l
                      ·subst he;have := HT.out;rw [decide_eq_false_iff_not] at this;exact HLT.out.2 (fun _ => by omega)
                      ·exact HLL.out l' h1 (by omega)
                     clear ht;(go_wp2_with fail);go_roundw
                     case rel => exact ⟨l + 1, by omega, by omega, by go_num, HLN2, hbl2⟩
                     case measure => simp [intOf]; omega
                    ·have HN : Hid (R = (0, 8)) := lH (HBD.out k l hik hlt3 hjl hlt4 fun h => by
                      have h1 := HLT.out.1 h hqv2;have := HT.out;rw [decide_eq_true_iff] at this;omega)
                     clear ht;(go_wp2_with fail);go_ret2;exact ⟨by rw [HN.out]; rfl, hb02⟩
                ·have hli : ¬ (l : Int) < (b.length : Int) := (by omega)
                 have HKN : Hid (∀ k' l, i < k' → k' < k + 1 → j < l → l < b.length → Later a b XS i j (n : Int) k' l) := lH fun k' l' h1 h2 h3 h4 => by
                  by_cases he : k' = k
                  ·subst he; exact HLL.out l' h3 (by omega)
                  ·exact HK.out k' l' h1 (by omega) h3 h4
                 have ewk : IntKind.i64.wrap ((k : Int) + 1) = (k : Int) + 1 := IntWalk.i64_in _ (by omega);(go_wp2_with fail);go_roundw
                 case rel => exact ⟨k + 1, by omega, by omega, by go_num, HKN, hbl⟩
                 case measure => simp [intOf]; omega
              ·have hki : ¬ (k : Int) < (a.length : Int) := (by omega);have HN := lH (HOK.out fun k' l h1 h2 h3 h4 => HK.out k' l h1 (by omega) h3 h4);have hbk2 := hb21.next hbk nL;have hmx : max (m : Int) (n : Int) = ((max m n : Nat) : Int) := (by omega);obtain ⟨M, hM⟩ : ∃ M, M = max m n := ⟨_, rfl⟩;rw [← hM] at hmx;have HN2 : Hid ((match File.rowP (File.laterOk a b XS) i (j + 1) (M : Int) (rx.drop (j + 1)) with | some m => File.levelsP (File.laterOk a b XS) (i + 1) m (XS.drop (i + 1)) | none => (0, 8)) = R) := lH (by rw [← hmx]; exact HN.out);have hM24 : M ≤ 24 := (by omega);clear HN hM;(go_wp2_with fail);go_roundw
               case rel => exact ⟨j + 1, M, by omega, by first | rfl | rw [hmx], by go_num, hM24, HN2, hbk2⟩
               case measure => simp [intOf]; omega
           ·have hzv : z = false := by rw [hzn]; exact decide_eq_false hn0
            have hzw : z' = true := by rw [hzz, hzv]; rfl
            clear hqq hzz hzn
            have HN : Hid (R = (0, 8)) := lH (by
             rw [← HL3.out, if_neg];intro h;exact hn0 ((HLI.out.1 h).1.2 hqv))
            clear hn0
            go_upto_region 24 with fail
            have gq1 := HCA.out wr (hbx.next rB nL);have gq2 := HCB.out wr rB
            go_quiet (fail)
            ·have hR := below_q wr nq;generalize wr.drewN nq = x1 at *;clear gq1 gq2;have hb02 := hb0.next hR nL;(go_wp2_with fail);go_ret2;exact ⟨by rw [HN.out]; rfl, hb02⟩
          ·have hqw : q' = false := by rw [hqq, hqv]; rfl
           by_cases hn0 : n = 0
           ·have hzv : z = true := by rw [hzn]; exact decide_eq_true hn0
            clear hqq hzz hzn
            have HN : Hid (R = (0, 8)) := lH (by
             rw [← HL3.out, if_neg];intro h;exact absurd ((HLI.out.1 h).1.1 hn0) (by rw [hqv]; decide))
            clear hn0
            go_upto_region 24 with fail
            have gq1 := HCA.out wr (hbx.next rB nL);have gq2 := HCB.out wr rB
            go_quiet (fail)
            ·have hR := below_q wr nq;generalize wr.drewN nq = x1 at *;clear gq1 gq2;have hb02 := hb0.next hR nL;(go_wp2_with fail);go_ret2;exact ⟨by rw [HN.out]; rfl, hb02⟩
           ·have hzv : z = false := by rw [hzn]; exact decide_eq_false hn0
            clear hqq hzz hzn
            have HOK : Hid ((∀ k l, i < k → k < a.length → j < l → l < b.length → Later a b XS i j (n : Int) k l) → (match File.rowP (File.laterOk a b XS) i (j + 1) (max (m : Int) (n : Int)) (rx.drop (j + 1)) with | some m => File.levelsP (File.laterOk a b XS) (i + 1) m (XS.drop (i + 1)) | none => (0, 8)) = R) := lH fun h => by
             rw [← HL3.out, if_pos (HLI.out.2 ⟨⟨fun e => absurd e hn0, fun e => by rw [hqv] at e; cases e⟩, h⟩)]
            clear hn0
            go_upto_region 24 with fail
            have gq1 := HCA.out wr (hbx.next rB nL);have gq2 := HCB.out wr rB
            go_quiet (fail)
            ·have hR := below_q wr nq;generalize wr.drewN nq = x1 at *;clear gq1 gq2;have hb01 := hb0.next hR nL;have hb21 := hbx.next hR nL;clear hR;(go_wp2_with fail)
             go_loopw [15, 16] (fun v _ wk => ∃ k : Nat, i < k ∧ k ≤ a.length ∧ v = iv (k : Int) ∧ Hid (∀ k' l, i < k' → k' < k → j < l → l < b.length → Later a b XS i j (n : Int) k' l) ∧ Below x1.heap.size x1 wk) (fun v _ _ => a.length - (intOf v).toNat)
             case atStart => exact ⟨i + 1, by omega, by omega, by go_num, lH fun k' l h1 h2 => absurd h2 (by omega), rB⟩
             case round =>
              obtain ⟨k, hik, hk, rfl, HK, hbk⟩ := hrel
              by_cases hlt3 : k < a.length
              ·have hki : (k : Int) < (a.length : Int) := (by omega);have hkrs : (k : Int) < (rs.length : Int) := (by omega);(go_wp2_with fail)
               go_loopw [16] (fun v wl => ∃ l : Nat, j < l ∧ l ≤ b.length ∧ v = iv (l : Int) ∧ Hid (∀ l', j < l' → l' < l → Later a b XS i j (n : Int) k l') ∧ Below x1.heap.size x1 wl) (fun v _ => b.length - (intOf v).toNat)
               case atStart => exact ⟨j + 1, by omega, by omega, by go_num, lH fun l' h1 h2 => absurd h2 (by omega), hbk⟩
               case round =>
                clear hbk;obtain ⟨l, hjl, hl2, rfl, HLL, hbl⟩ := hrel;have hb0l := hb01.next hbl nL
                by_cases hlt4 : l < b.length
                ·have hli : (l : Int) < (b.length : Int) := (by omega);have ewl : IntKind.i64.wrap ((l : Int) + 1) = (l : Int) + 1 := IntWalk.i64_in _ (by omega)
                 by_cases hn0 : n = 0
                 ·have hng : ¬ (0 : Int) < (n : Int) := (by omega);have hng' : ¬ 0 < n := (by omega);clear hn0;have HLN2 : Hid (∀ l', j < l' → l' < l + 1 → Later a b XS i j (n : Int) k l') := lH fun l' h1 h2 h3 => absurd h3 hng
                  go_upto_region 32 with fail
                  go_quiet (fail)
                  ·have hR := below_q wr nq;generalize wr.drewN nq = x2 at *;have hbl2 := hbl.next hR nL;(go_wp2_with fail);go_roundw
                   case rel => exact ⟨l + 1, by omega, by omega, by go_num, HLN2, hbl2⟩
                   case measure => simp [intOf]; omega
                 ·have hng : (0 : Int) < (n : Int) := (by omega);have hng' : 0 < n := (by omega);clear hn0;obtain ⟨bR2, oR2, r2, hBR2, hbR2, hr2, hcR2⟩ := Sl.atRw (hsr.below hb0l) (show k < rs.length by omega);injection hBR2 with hBR2;injection hBR2 with e1 e2 _;subst e1; subst e2;obtain ⟨_, _, sa2, hA2, _, hxa2, _⟩ := Sl.atS (hsa.below hb0l) hlt3;injection hA2 with hA2;injection hA2 with e1 e2 _;subst e1; subst e2;obtain ⟨_, _, sb2, hB2, _, hxb2, _⟩ := Sl.atS (hsb.below hb0l) hlt4;injection hB2 with hB2;injection hB2 with e1 e2 _;subst e1; subst e2;have HCA2 := lH (Sl.cellS (hsa.below hb0l) hxa2);have HCB2 := lH (Sl.cellS (hsb.below hb0l) hxb2);have HCR2 := lH (Sl.cellRw (hsr.below hb0l) hr2);have hrl2 := HLN.out r2 (mem_at hr2);have hlr2 : (l : Int) < (r2.xs.length : Int) := (by omega);obtain ⟨bI2, oI2, v2, hAI2, _, hv2, _⟩ := Sl.atI ((hrr r2 (mem_at hr2)).1.below hb0l) (show l < r2.xs.length by omega)
                  have hXk := HX.out k r2 hr2;have hLat : (XS.getD k []).getD l 0 = v2 := by simp [List.getD_eq_getElem?_getD, hXk, hv2]
                  obtain ⟨R2A, R2C, r2x⟩ := r2;simp only at hAI2 hv2 hrl2 hlr2 HCR2;have hSlI := (hrr _ (mem_at hr2)).1.below hb0l;simp only at hSlI;subst hAI2;have HCI2 := lH (Sl.cellI hSlI hv2);obtain ⟨q2, hqs2⟩ : ∃ q, (sa2.toList == sb2.toList) = q := ⟨_, rfl⟩;have hqd2 : q2 = decide (sa2 = sb2) := by rw [← hqs2, str_eq]
                  have HLT : Hid (Later a b XS i j (n : Int) k l ↔ (q2 = true → (n : Int) < v2)) := lH (by
                   unfold Later;rw [hxa2, hxb2, hLat, hqd2, decide_eq_true_iff];exact ⟨fun h e => h hng (by rw [e]), fun h _ e => h (Option.some.inj e)⟩)
                  clear hqd2 hLat hXk hv2 hxa2 hxb2 hr2 hcR2 hSlI hrl2
                  rcases Bool.eq_false_or_eq_true q2 with hqv2 | hqv2
                  rotate_left
                  ·have HLN2 : Hid (∀ l', j < l' → l' < l + 1 → Later a b XS i j (n : Int) k l') := lH fun l' h1 h2 => by
                    by_cases he : l' = l
                    ·subst he; exact HLT.out.2 (fun h => by rw [hqv2] at h; cases h)
                    ·exact HLL.out l' h1 (by omega)
                   go_upto_region 32 with fail
                   have gq1 := HCA2.out wr rB;have gq2 := HCB2.out wr rB
                   go_quiet (fail)
                   ·have hR := below_q wr nq;generalize wr.drewN nq = x2 at *;clear gq1 gq2;have hbl2 := hbl.next hR nL;(go_wp2_with fail);go_roundw
                    case rel => exact ⟨l + 1, by omega, by omega, by go_num, HLN2, hbl2⟩
                    case measure => simp [intOf]; omega
                  ·obtain ⟨t, ht⟩ : ∃ t, decide (v2 ≤ (n : Int)) = t := ⟨_, rfl⟩;have HT := lH ht
                   go_upto_region 32 with fail
                   have gq1 := HCA2.out wr rB;have gq2 := HCB2.out wr rB;have gq3 := HCR2.out wr rB;have gq4 := HCI2.out wr rB
                   go_quiet (fail)
                   ·have hR := below_q wr nq;generalize wr.drewN nq = x2 at *;clear gq1 gq2 gq3 gq4;have hbl2 := hbl.next hR nL;have hb02 := hb0l.next hR nL
                    cases t
                    ·have HLN2 : Hid (∀ l', j < l' → l' < l + 1 → Later a b XS i j (n : Int) k l') := lH fun l' h1 h2 => by
                      by_cases he : l' = l
                      ·subst he;have := HT.out;rw [decide_eq_false_iff_not] at this;exact HLT.out.2 (fun _ => by omega)
                      ·exact HLL.out l' h1 (by omega)
                     clear ht;(go_wp2_with fail);go_roundw
                     case rel => exact ⟨l + 1, by omega, by omega, by go_num, HLN2, hbl2⟩
                     case measure => simp [intOf]; omega
                    ·have HN : Hid (R = (0, 8)) := lH (HBD.out k l hik hlt3 hjl hlt4 fun h => by
                      have h1 := HLT.out.1 h hqv2;have := HT.out;rw [decide_eq_true_iff] at this;omega)
                     clear ht;(go_wp2_with fail);go_ret2;exact ⟨by rw [HN.out]; rfl, hb02⟩
                ·have hli : ¬ (l : Int) < (b.length : Int) := (by omega)
                 have HKN : Hid (∀ k' l, i < k' → k' < k + 1 → j < l → l < b.length → Later a b XS i j (n : Int) k' l) := lH fun k' l' h1 h2 h3 h4 => by
                  by_cases he : k' = k
                  ·subst he; exact HLL.out l' h3 (by omega)
                  ·exact HK.out k' l' h1 (by omega) h3 h4
                 have ewk : IntKind.i64.wrap ((k : Int) + 1) = (k : Int) + 1 := IntWalk.i64_in _ (by omega);(go_wp2_with fail);go_roundw
                 case rel => exact ⟨k + 1, by omega, by omega, by go_num, HKN, hbl⟩
                 case measure => simp [intOf]; omega
              ·have hki : ¬ (k : Int) < (a.length : Int) := (by omega);have HN := lH (HOK.out fun k' l h1 h2 h3 h4 => HK.out k' l h1 (by omega) h3 h4);have hbk2 := hb21.next hbk nL;have hmx : max (m : Int) (n : Int) = ((max m n : Nat) : Int) := (by omega);obtain ⟨M, hM⟩ : ∃ M, M = max m n := ⟨_, rfl⟩;rw [← hM] at hmx;have HN2 : Hid ((match File.rowP (File.laterOk a b XS) i (j + 1) (M : Int) (rx.drop (j + 1)) with | some m => File.levelsP (File.laterOk a b XS) (i + 1) m (XS.drop (i + 1)) | none => (0, 8)) = R) := lH (by rw [← hmx]; exact HN.out);have hM24 : M ≤ 24 := (by omega);clear HN hM;(go_wp2_with fail);go_roundw
               case rel => exact ⟨j + 1, M, by omega, by first | rfl | rw [hmx], by go_num, hM24, HN2, hbk2⟩
               case measure => simp [intOf]; omega
         ·have hji : ¬ (j : Int) < (b.length : Int) := (by omega);have hL := HL.out;rw [List.drop_eq_nil_of_le (by rw [HRL.out]; omega), File.rowP] at hL;have HN := lH hL;clear hL HL;(go_wp2_with fail);go_roundw
          case rel => exact ⟨i + 1, m, by omega, rfl, by go_num, hm24, HN, hb0⟩
          case measure => simp [intOf]; omega
       ·have hii : ¬ (i : Int) < (a.length : Int) := (by omega);have hL := HL.out;rw [List.drop_eq_nil_of_le (by have := HXL.out; omega), File.levelsP] at hL;have HN := lH hL;clear hL HL;(go_wp2_with fail);go_ret2;exact ⟨by rw [← HN.out]; rfl, hbr⟩
 ·have hq : ((rs.length : Int) != (a.length : Int)) = true := by simp; omega
  have hR2 : R = (0, 2) := by rw [hR, if_neg (fun h => hl (by simpa using h.1))]
  clear hR;subst hR2
  go_enter Tryz.func41, Tryz.ntmps41
  (go_wp2_with fail);go_ret2;exact ⟨rfl, rB⟩
end Fl
end
end Go.Proofs.YtblgkmdadholmabGreatDoor
section
namespace Go.Proofs.YtblgkmdadholmabGreatDoor
open Go.ChangeShapes Go.WideShapes Go.RowKit
theorem keptBut_below {W W' : World} (h : Below W.heap.size W W') (may : MemPlace → Prop) : W.keptBut W' may := by
 refine ⟨h.os, h.output, fun i hi => ?_⟩;rw [h.block i hi]
 cases W.heap[i]? with
 | none => rfl
 | some o => cases o with
  | cells c t fr => exact ⟨rfl, rfl, rfl, fun _ _ => rfl⟩
  | map es clock => exact .inr ⟨rfl, rfl⟩
  | _ => rfl
theorem post_of_below {H : Type} {enc : TypeId × Value → H} {P : Program} {f : Func} {s : ChangeSpec} {apart fresh handsOn again : Bool} {W W' : World} {args : Array Value} {v : Value} {ds gs : List (DataW H)} {before pa pv : List MemPlace}
  (hW : DataW.Whole enc P f.params.toList s.vars apart W args.toList ds gs before) (hb : Below W.heap.size W W') (hps : before = pa ++ pv)
  (hres : ∀ (b : Nat) (sp : Nat → Bool) (hd : Bool), DataW.TrodAll enc P W' b sp hd f.resultTypes.toList (v.resultList f.resultTypes.size) (s.fn H (ds ++ gs)).results [])
  (hargs : ∀ sp : Nat → Bool, (∀ p ∈ before, sp p.block = true) → DataW.TrodAll enc P W' 0 sp true f.params.toList args.toList (s.fn H (ds ++ gs)).args pa)
  (hvars : ∀ sp : Nat → Bool, (∀ p ∈ before, sp p.block = true) → DataW.TrodVars enc P W' sp s.vars (s.fn H (ds ++ gs)).vars pv)
  (hok : ∀ (j : Nat) (t : TypeId) (r : Value), f.resultTypes[j]? = some t → (v.resultList f.resultTypes.size)[j]? = some r → Value.okWide P W' .any 0 t r) :
  s.post enc P f apart fresh handsOn again W args v W' := by
 have hlt : ∀ p ∈ before, p.block < W.heap.size := fun p hp => hW.lt p hp
 have hin : ∀ p ∈ before, decide (p.block < W.heap.size) = true := fun p hp => decide_eq_true (hlt p hp)
 have hW0 := hW;obtain ⟨_, _, _, _, _, hz, hn⟩ := hW0;have hsub : ∀ p ∈ before, p ∈ before ∧ (p ∈ ([] : List MemPlace) ∨ p ∈ pa ∨ p ∈ pv) := fun p hp => ⟨hp, .inr (List.mem_append.1 (hps ▸ hp))⟩
 have hall : ([] ++ pa) ++ pv = before := by rw [List.nil_append, hps]
 refine ⟨ds, gs, before, [], pa, pv, hW, hres _ _ _, hargs (fun b => decide (b < W.heap.size)) hin, hvars (fun b => decide (b < W.heap.size)) hin, World.keptBut_mono hsub (keptBut_below hb _), fun _ => ⟨hok, _, _, ([] ++ pa) ++ pv, ⟨[] ++ pa, pv, trodAll_append (hargs _ fun _ _ => rfl) (hres _ _ _), hvars _ fun _ _ => rfl, rfl, ?_, ?_⟩, ?_⟩⟩
 ·intro b off hp;rw [hall] at hp;rw [hb.frozen (p := ⟨b, off, none⟩) (hlt _ hp)];exact hz b off hp
 ·rw [hall]; exact hn
 ·rw [hall]; exact fun p hp _ => hp
theorem law_kids : Kids Tryz.prog (· < (Tryz.prog).types.size) := kids_rows (by kernel_rfl) (by kernel_rfl)
theorem law_full : ∀ t e, t < (Tryz.prog).types.size → (Tryz.prog).underlying t = some (.slice e) → 0 < (Tryz.prog).cellsOf e := slices_full_of Tryz.prog (by kernel_rfl)
theorem trodAll_below {H : Type} {enc : TypeId × Value → H} {P : Program} {W W' : World} {base : Nat} {spare : Nat → Bool} {held : Bool} (hs : ∀ p : MemPlace, p.block < W.heap.size → W.sameAt W' p) : ∀ {ts : List TypeId} {vs : List Value} {ds : List (DataW H)} {ps : List MemPlace},
  DataW.TrodAll enc P W base spare held ts vs ds ps → (∀ p ∈ ps, p.block < W.heap.size) → DataW.TrodAll enc P W' base spare held ts vs ds ps
 | [], [], [], _, h, _ => h
 | _ :: ts, _ :: vs, _ :: ds, _, ⟨p, q, ⟨n, h⟩, hr, e⟩, hl => by
  subst e;exact ⟨p, q, ⟨n, DataW.trod_carry n _ _ _ h fun x hx => hs x (hl x (List.mem_append.2 (.inl hx)))⟩, trodAll_below hs hr fun x hx => hl x (List.mem_append.2 (.inr hx)), rfl⟩
set_option maxRecDepth 100000 in
theorem law_post {H : Type} {enc : TypeId × Value → H} {f : Func} {s : ChangeSpec} {apart fresh handsOn again : Bool} {W W' : World} {args : Array Value} {ds gs : List (DataW H)} {before : List MemPlace} {tb : TypeId}
  (hT : ∀ t ∈ f.params.toList, t < (Tryz.prog).types.size) (hv : s.vars = []) (hrt : f.resultTypes = #[tb]) (hu : (Tryz.prog).underlying tb = some .bool)
  (hW : DataW.Whole enc Tryz.prog f.params.toList s.vars apart W args.toList ds gs before) (hb : Below W.heap.size W W')
  (hr : (s.fn H (ds ++ gs)).results = [.lit (.bool true)]) (ha : (s.fn H (ds ++ gs)).args = ds) (hvs : (s.fn H (ds ++ gs)).vars = []) :
  s.post enc Tryz.prog f apart fresh handsOn again W args (.bool true) W' := by
 have hW0 := hW;obtain ⟨p, q, hA, hV, he, _, _⟩ := hW0;have hV' := hV;rw [hv] at hV';obtain ⟨_, rfl⟩ := trodVars_none hV';have hlt : ∀ x ∈ before, x.block < W.heap.size := fun x hx => hW.lt x hx
 refine post_of_below hW hb he ?_ ?_ ?_ (ok_one (by rw [hrt]) (by rfl) (okWide_bool_mk hu true))
 ·intro b sp hd;rw [hr, hrt];exact trodAll_cons_mk (shut_bool hu true) trodAll_mk0
 ·intro sp hsp;rw [ha];exact trodAll_below (fun x hx => hb.same hx) (DataW.TrodAll.respare law_kids law_full hT hA fun x hx => hsp x (by rw [he]; exact List.mem_append.2 (.inl hx))) fun x hx => hlt x (by rw [he]; exact List.mem_append.2 (.inl hx))
 ·intro sp _;rw [hv, hvs];rfl
end Go.Proofs.YtblgkmdadholmabGreatDoor
namespace Go.Proofs.YtblgkmdadholmabGreatDoor
open Go.ChangeShapes Go.WideShapes Go.RowKit
theorem own : ownKnob Tryz.prog.godebug = none := by kernel_rfl
theorem g0 : Tryz.prog.globalNamed "internal/strconv.uint64pow10" = some 1 := by kernel_rfl
theorem g0ty : (Tryz.prog.globals[1]?).map (·.type) = some 202 := by kernel_rfl
theorem cells20 : Tryz.prog.cellsOf 202 = 20 := by kernel_rfl
theorem cellsU64 : Tryz.prog.cellsOf 170 = 1 := by kernel_rfl
abbrev laidList : List (String × DataW Unit) := [("math/bits.deBruijn32tab", Rows.laid_math_bits_deBruijn32tab), ("math/bits.deBruijn64tab", Rows.laid_math_bits_deBruijn64tab), ("internal/strconv.uint64pow10", Rows.laid_internal_strconv_uint64pow10)]
theorem tab_of {W : World} (h : laidMetH Tryz.prog laidList W) : Fl.Tab W := by
 have h0 : laidMet Tryz.prog laidList W := h;have h1 : laidMet Tryz.prog [("internal/strconv.uint64pow10", Rows.laid_internal_strconv_uint64pow10)] W := (h0.tail).tail;exact Lib.tabIs_of_head (rest := []) g0 g0ty Tryz.underlying202 Tryz.underlying170 cellsU64 cells20 h1
def layAt (h : Array Obj) (i : Nat) (cs : Array Value) : Array Obj := h.modify i fun
 | .cells _ t frozen => .cells cs t frozen
 | o => o
noncomputable def laidWorld (os : Os) : World :=
 {World.holding Tryz.prog os ⟨#[], #[], []⟩ with heap := layAt (layAt (layAt (World.holding Tryz.prog os ⟨#[], #[], []⟩).heap 1 (Lib.pow10Tab.map fun z => Value.int .u64 z).toArray) 2 (([0, 1, 28, 2, 29, 14, 24, 3, 30, 22, 20, 15, 25, 17, 4, 8, 31, 27, 13, 23, 21, 19, 16, 7, 26, 12, 18, 6, 11, 5, 10, 9] : List Int).map fun z => Value.int .u8 z).toArray) 3 (([0, 1, 56, 2, 57, 49, 28, 3, 61, 58, 42, 50, 38, 29, 17, 4, 62, 47, 59, 36, 45, 43, 51, 22, 53, 39, 33, 30, 24, 18, 12, 5, 63, 55, 48, 27, 60, 41, 37, 16, 46, 35, 44, 21, 52, 32, 23, 11, 54, 26, 40, 15, 34, 20, 31, 10, 25, 14, 19, 9, 13, 8, 7, 6] : List Int).map fun z => Value.int .u8 z).toArray }
theorem laid_met (os : Os) (args : Array Value) : laidMet Tryz.prog laidList ((laidWorld os).forCall (fun _ _ => 0) ⟨#[], args, []⟩).memory :=
 laidMet_of_run' 8 (by kernel_rfl) (by kernel_rfl)
end Go.Proofs.YtblgkmdadholmabGreatDoor
end
