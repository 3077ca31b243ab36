/- What the proof of the claim's theorem uses, part 2. The conditions stand in each statement. -/
import Derived.Test.YtblgkmdadholmabGreatDoorSmp1
set_option linter.unusedVariables false
set_option linter.unusedSimpArgs false
set_option maxRecDepth 100000
namespace Go.Proofs.YtblgkmdadholmabGreatDoor
section
namespace File
def great (l : List Int) : Int := l.foldl max 0
end File
namespace Fl
open Go.RowKit
theorem greatest_spec (A : Option Addr) (xs : List Int) (c : Nat) (w : World) (hm : xs.length ≤ big) (hs : Sl intE w A xs) :
  Calls Tryz.prog 28 #[.slice A xs.length c] w fun e w' => e = .returned (iv (File.great xs)) ∧ w = w' := by
 unfold big at hm
 go_enter Tryz.func28, Tryz.ntmps28
 go_wp2
 go_loop [3, 8] (fun v i => ∃ (k : Nat) (m : Int), k ≤ xs.length ∧ i = iv k ∧ v = iv m ∧ Hid ((xs.drop k).foldl max m = File.great xs)) (fun _ i => xs.length - (intOf i).toNat)
 case atStart => exact ⟨0, 0, by omega, rfl, rfl, rfl⟩
 case round =>
  obtain ⟨k, m, hk, rfl, rfl, hr⟩ := hrel
  by_cases hlt : k < xs.length
  ·obtain ⟨b, off, x, rfl, hb, hx, hc⟩ := hs.atI hlt;have hr' := hr.out;rw [drop_at hx, List.foldl_cons] at hr';have HR := lH hr';clear hr hr' hx
   go_wp2
   all_goals
    go_round
    case rel => exact ⟨k + 1, max m x, by omega, by go_num, by first | rfl | (congr 1; omega), HR⟩
    case measure => simp [intOf]; omega
  ·have hr' := hr.out;rw [drop_end hlt] at hr'
   go_wp2
   go_ret;exact ⟨ret_eq (by rw [← hr']; rfl), rfl⟩
def Grid (w : World) (g : Nat) (f : Nat → Nat → Nat) : Prop := ∃ cs : Array Value, Blk w g 192 cs ∧ cs.size = 625 ∧ ∀ i j, i < 25 → j < 25 → cs[i * 25 + j]? = some (iv (f i j))
theorem Grid.below {w w' : World} {g : Nat} {f : Nat → Nat → Nat} (h : Grid w g f) (hb : Below w.heap.size w w') : Grid w' g f := by
 obtain ⟨cs, h1, h2, h3⟩ := h;exact ⟨cs, h1.under hb, h2, h3⟩
theorem Grid.cell {w : World} {g : Nat} {f : Nat → Nat → Nat} (h : Grid w g f) {i j : Nat} (hi : i < 25) (hj : j < 25) : w.cell? ⟨g, i * 25 + j, none⟩ = some (iv (f i j)) := by
 obtain ⟨cs, h1, h2, h3⟩ := h;rw [h1.cell]; exact h3 i j hi hj
theorem Grid.lt {w : World} {g : Nat} {f : Nat → Nat → Nat} (h : Grid w g f) : g < w.heap.size := by
 obtain ⟨cs, h1, _⟩ := h; exact h1.lt
theorem Grid.frozen {w : World} {g : Nat} {f : Nat → Nat → Nat} (h : Grid w g f) : ∀ o, w.frozen? ⟨g, o, none⟩ = false := by
 obtain ⟨cs, h1, _⟩ := h; exact h1.frozen
theorem Grid.set_ {w : World} {g : Nat} {f : Nat → Nat → Nat} (h : Grid w g f) {i j : Nat} (hi : i < 25) (hj : j < 25) (n : Nat) : Grid (w.setCell ⟨g, i * 25 + j, none⟩ (iv n)) g (fun p q => if p = i ∧ q = j then n else f p q) := by
 obtain ⟨cs, h1, h2, h3⟩ := h;refine ⟨_, h1.set_ (i * 25 + j) (iv n), by simpa using h2, fun p q hp hq => ?_⟩
 by_cases he : p = i ∧ q = j
 ·obtain ⟨rfl, rfl⟩ := he;rw [Array.getElem?_setIfInBounds_self_of_lt (by omega)];simp
 ·show _ = some (iv ((if p = i ∧ q = j then n else f p q : Nat) : Int))
  rw [if_neg he, Array.getElem?_setIfInBounds_ne (by omega)];exact h3 p q hp hq
theorem zeroCells : ∀ i j : Nat, i < 25 → j < 25 → Tryz.zeroCells192[i * 25 + j]? = some (iv 0) := by
 intro i j hi hj;have h : Tryz.zeroCells192 = Array.replicate 625 (iv 0) := by kernel_rfl
 rw [h, Array.getElem?_replicate, if_pos (by omega)]
theorem Sl.fresh {α : Type} (E : Enc α) (w : World) (t : TypeId) (arr : Array Value) (xs : List α) (h : arr.toList = xs.flatMap E.cells) (hm : xs.length ≤ maxLen) : Sl E (w.alloc (.cells arr t)) (some ⟨w.heap.size, 0, none⟩) xs := by
 have hb : Blk (w.alloc (.cells arr t)) w.heap.size t (xs.flatMap E.cells).toArray := by
  rw [← h]; exact Blk.new w t arr
 exact (Own.ofBlk (E := E) (B := 0) hb (Nat.zero_le _) hm).sl
theorem str_eq (x y : ByteArray) : (x.toList == y.toList) = decide (x = y) := by
 rw [ByteArray.toList_eq, ByteArray.toList_eq]
 by_cases h : x = y
 ·subst h; simp
 ·rw [decide_eq_false h, beq_eq_false_iff_ne];intro he;apply h;apply ByteArray.ext;exact Array.toList_inj.1 he
theorem great2 (X Y : Nat) : iv (File.great [(X : Int), Y]) = iv (max X Y : Nat) := by
 show iv (max (max 0 (X : Int)) Y) = _
 congr 1
 omega
def partTab (a b : List ByteArray) (i j : Nat) (p q : Nat) : Nat := if i < p ∨ (p = i ∧ j ≤ q) then File.from_ a b p q else 0
theorem Grid.congr {w : World} {g : Nat} {f f' : Nat → Nat → Nat} (h : Grid w g f) (he : ∀ i j, i < 25 → j < 25 → f i j = f' i j) : Grid w g f' := by
 obtain ⟨cs, h1, h2, h3⟩ := h;exact ⟨cs, h1, h2, fun i j hi hj => by rw [← he i j hi hj]; exact h3 i j hi hj⟩
set_option maxHeartbeats 4000000 in
theorem lens_spec (A : Option Addr) (a : List ByteArray) (c : Nat) (A' : Option Addr) (b : List ByteArray) (c' : Nat) (w : World) (hal : a.length ≤ 24) (hbl : b.length ≤ 24) (hsa : Sl strE w A a) (hsb : Sl strE w A' b) :
  Calls Tryz.prog 129 #[.slice A a.length c, .slice A' b.length c'] w fun e w' => ∃ g, e = .returned (.pointer (some ⟨g, 0, none⟩)) ∧ Grid w' g (File.from_ a b) ∧ Below w.heap.size w w' := by
 go_enter Tryz.func129, Tryz.ntmps129
 go_upto_region 2 with fail
 have hB0 : Blk (w.alloc (.cells Tryz.zeroCells192 192)) w.heap.size 192 Tryz.zeroCells192 := Blk.new _ _ _;have hG0 : Grid (w.alloc (.cells Tryz.zeroCells192 192)) w.heap.size (fun _ _ => 0) := ⟨_, hB0, by kernel_rfl, fun i j hi hj => zeroCells i j hi hj⟩;have hb0 : Below w.heap.size w (w.alloc (.cells Tryz.zeroCells192 192)) := rB.alloc nL _;generalize w.alloc (.cells Tryz.zeroCells192 192) = w1 at *;clear hB0;(go_wp2_with fail)
 go_loopw [6, 7] (fun v _ wr => ∃ (i : Nat), i ≤ a.length ∧ v = iv ((i : Int) - 1) ∧ Grid wr w.heap.size (partTab a b i 0) ∧ Below w.heap.size w wr) (fun v _ _ => (intOf v + 1).toNat)
 case atStart =>
  refine ⟨a.length, Nat.le_refl _, rfl, hG0.congr fun p q hp hq => ?_, hb0⟩;unfold partTab
  split
  ·rename_i h
   rw [File.from_endA (by omega)]
  ·rfl
 case round =>
  obtain ⟨i, hi, rfl, hG, hbw⟩ := hrel
  by_cases hlt : 0 < i
  ·obtain ⟨p, rfl⟩ : ∃ p, i = p + 1 := ⟨i - 1, by omega⟩;have hpi : (0 : Int) ≤ (p : Int) := (by omega);have e1 : ((p + 1 : Nat) : Int) - 1 = (p : Int) := (by omega);rw [e1];clear e1;(go_wp2_with fail)
   go_loopw [7] (fun v wx => ∃ (j : Nat), j ≤ b.length ∧ v = iv ((j : Int) - 1) ∧ Grid wx w.heap.size (partTab a b p j) ∧ Below w.heap.size w wx) (fun v _ => (intOf v + 1).toNat)
   case atStart =>
    refine ⟨b.length, Nat.le_refl _, rfl, hG.congr fun r s hr hs => ?_, hbw⟩;unfold partTab
    by_cases h1 : p + 1 ≤ r
    ·rw [if_pos (by omega), if_pos (by omega)]
    ·rw [if_neg (by omega)]
     split
     ·rw [File.from_endB (by omega)]
     ·rfl
   case round =>
    clear hG hbw;obtain ⟨j, hj, rfl, hGx, hbx⟩ := hrel
    by_cases hlt2 : 0 < j
    ·obtain ⟨q, rfl⟩ : ∃ q, j = q + 1 := ⟨j - 1, by omega⟩;have hqi : (0 : Int) ≤ (q : Int) := (by omega);have e1 : ((q + 1 : Nat) : Int) - 1 = (q : Int) := (by omega);rw [e1];clear e1;have hp25 : p + 1 < 25 := (by omega);have hq25 : q + 1 < 25 := (by omega);have hX : partTab a b p (q + 1) (p + 1) q = File.from_ a b (p + 1) q := by unfold partTab; rw [if_pos (by omega)]
     have hY : partTab a b p (q + 1) p (q + 1) = File.from_ a b p (q + 1) := by unfold partTab; rw [if_pos (by omega)]
     have hZ : partTab a b p (q + 1) (p + 1) (q + 1) = File.from_ a b (p + 1) (q + 1) := by unfold partTab; rw [if_pos (by omega)]
     obtain ⟨X, hXe⟩ : ∃ X, X = File.from_ a b (p + 1) q := ⟨_, rfl⟩;obtain ⟨Y, hYe⟩ : ∃ Y, Y = File.from_ a b p (q + 1) := ⟨_, rfl⟩;obtain ⟨Z, hZe⟩ : ∃ Z, Z = File.from_ a b (p + 1) (q + 1) := ⟨_, rfl⟩;rw [← hXe] at hX;rw [← hYe] at hY;rw [← hZe] at hZ;have HX := lH hXe;have HY := lH hYe;have HZ := lH hZe;have e1 : IntKind.i64.wrap ((p : Int) + 1) = ((p + 1 : Nat) : Int) := IntWalk.i64_in _ (by omega);have e2 : IntKind.i64.wrap ((q : Int) + 1) = ((q + 1 : Nat) : Int) := IntWalk.i64_in _ (by omega);have hpl : (p : Int) < 25 := (by omega);have hql : (q : Int) < 25 := (by omega);have hpl1 : (p : Int) + 1 < 25 := (by omega);have hql1 : (q : Int) + 1 < 25 := (by omega);have hpl0 : (0 : Int) ≤ (p : Int) + 1 := (by omega);have hql0 : (0 : Int) ≤ (q : Int) + 1 := (by omega);have hpt : ((p : Int) + 1).toNat = p + 1 := (by omega);have hqt : ((q : Int) + 1).toNat = q + 1 := (by omega)
     clear hXe hYe hZe
     go_upto_region 8 with fail
     have HFF : Hid (∀ x : World, Below wr.heap.size wr x → x.cell? ⟨w.heap.size, (p + 1) * 25 + q, none⟩ = some (iv X) ∧ x.cell? ⟨w.heap.size, p * 25 + (q + 1), none⟩ = some (iv Y) ∧ w.heap.size < x.heap.size) := lH fun x h =>
      ⟨by rw [(hGx.below h).cell (by omega) (by omega), hX], by rw [(hGx.below h).cell (by omega) (by omega), hY], (hGx.below h).lt⟩
     have HGX := lH hGx;have HBX := lH hbx;clear hGx hbx hX hY
     refine wp_free_lit (by kernel_rfl) 18 (by kernel_rfl) (by kernel_rfl) (by decide) (fun _ x => Below wr.heap.size wr x) (fun x x' => Below x.heap.size x x')
      [fun _ u _ => u = iv p,
       fun _ u _ => u = iv q,
       fun _ u _ => u = iv p,
       fun _ u _ => u = iv ((p + 1 : Nat) : Int),
       fun _ u _ => u = iv q,
       fun _ u _ => u = .pointer (some ⟨w.heap.size, (p + 1) * 25, none⟩),
       fun _ u _ => u = .pointer (some ⟨w.heap.size, (p + 1) * 25 + q, none⟩),
       fun _ u _ => u = iv X,
       fun _ u _ => u = iv p,
       fun _ u _ => u = iv q,
       fun _ u _ => u = iv ((q + 1 : Nat) : Int),
       fun _ u _ => u = .pointer (some ⟨w.heap.size, p * 25, none⟩),
       fun _ u _ => u = .pointer (some ⟨w.heap.size, p * 25 + (q + 1), none⟩),
       fun _ u _ => u = iv Y,
       fun _ u x => ∃ g, u = .slice (some ⟨g, 0, none⟩) 2 2 ∧ Sl intE x (some ⟨g, 0, none⟩) [(X : Int), Y],
       fun _ u _ => u = iv (max X Y : Nat),
       fun _ u _ => u = .pointer (some ⟨w.heap.size, p * 25, none⟩),
       fun _ u _ => u = .pointer (some ⟨w.heap.size, p * 25 + q, none⟩)]
      (Below.refl _ wr).drew ?_ ?_
     ·simp only [List.take_succ_cons, List.take_zero, HopL];refine ⟨?_, ?_, ?_, ?_, ?_, ?_, ?_, ?_, ?_, ?_, ?_, ?_, ?_, ?_, ?_, ?_, ?_, ?_, trivial⟩
      ·refine fv fun v n x hn hR hk => ?_
       obtain ⟨f0, f1, f2⟩ := HFF.out x hR;exact tW
      ·refine fv fun v n x hn hR hk => ?_
       obtain ⟨f0, f1, f2⟩ := HFF.out x hR;exact tW
      ·refine fv fun v n x hn hR hk => ?_
       obtain ⟨f0, f1, f2⟩ := HFF.out x hR;exact tW
      ·refine fv fun v n x hn hR hk => ?_
       obtain ⟨f0, f1, f2⟩ := HFF.out x hR;have h0 : v 2 = iv p := hk.at 2;exact tW
      ·refine fv fun v n x hn hR hk => ?_
       obtain ⟨f0, f1, f2⟩ := HFF.out x hR;exact tW
      ·refine fv fun v n x hn hR hk => ?_
       obtain ⟨f0, f1, f2⟩ := HFF.out x hR;have h0 : v 3 = iv ((p + 1 : Nat) : Int) := hk.at 3;exact tW
      ·refine fv fun v n x hn hR hk => ?_
       obtain ⟨f0, f1, f2⟩ := HFF.out x hR
       (have h0 : v 5 = .pointer (some ⟨w.heap.size, (p + 1) * 25, none⟩) := hk 5 (by kernel_rfl); have h1 : v 4 = iv q := hk 4 (by kernel_rfl))
       exact tW
      ·refine fv fun v n x hn hR hk => ?_
       obtain ⟨f0, f1, f2⟩ := HFF.out x hR;have h0 : v 6 = .pointer (some ⟨w.heap.size, (p + 1) * 25 + q, none⟩) := hk.at 6;exact tW
      ·refine fv fun v n x hn hR hk => ?_
       obtain ⟨f0, f1, f2⟩ := HFF.out x hR;exact tW
      ·refine fv fun v n x hn hR hk => ?_
       obtain ⟨f0, f1, f2⟩ := HFF.out x hR;exact tW
      ·refine fv fun v n x hn hR hk => ?_
       obtain ⟨f0, f1, f2⟩ := HFF.out x hR;have h0 : v 9 = iv q := hk.at 9;exact tW
      ·refine fv fun v n x hn hR hk => ?_
       obtain ⟨f0, f1, f2⟩ := HFF.out x hR;have h0 : v 8 = iv p := hk.at 8;exact tW
      ·refine fv fun v n x hn hR hk => ?_
       obtain ⟨f0, f1, f2⟩ := HFF.out x hR
       (have h0 : v 11 = .pointer (some ⟨w.heap.size, p * 25, none⟩) := hk 11 (by kernel_rfl); have h1 : v 10 = iv ((q + 1 : Nat) : Int) := hk 10 (by kernel_rfl))
       exact tW
      ·refine fv fun v n x hn hR hk => ?_
       obtain ⟨f0, f1, f2⟩ := HFF.out x hR;have h0 : v 12 = .pointer (some ⟨w.heap.size, p * 25 + (q + 1), none⟩) := hk.at 12;exact tW
      ·refine ⟨fun _ _ _ _ _ h => h, fun _ _ _ _ h hS => ?_, fun v n x hn hR hk => ?_⟩
       ·obtain ⟨g, h1, h2⟩ := h;exact ⟨g, h1, h2.below hS⟩
       ·have h0 : v 7 = iv X := hk 7 (by kernel_rfl);have h1 : v 13 = iv Y := hk 13 (by kernel_rfl);simp only [List.take_succ_cons, List.take_zero, frameF, Act.put, List.setIfInBounds_toArray, List.set_cons_zero, List.set_cons_succ];exact stepF_new (u := .slice (some ⟨x.heap.size, 0, none⟩) 2 2) (w' := x.alloc (.cells #[iv X, iv Y] 3)) (by rfl) (by go_simp) ⟨⟨x.heap.size, rfl, Sl.fresh intE x 3 #[iv X, iv Y] [(X : Int), Y] rfl (by simp [maxLen])⟩, rB.alloc nL _, hR.alloc hR.size _⟩
      ·refine fv fun v n x hn hR hk => ?_
       have h14 : ∃ g, v 14 = .slice (some ⟨g, 0, none⟩) 2 2 ∧ Sl intE x (some ⟨g, 0, none⟩) [(X : Int), Y] := hk.at 14;obtain ⟨g, h1, h2⟩ := h14;simp only [List.take_succ_cons, List.take_zero, frameF, Act.put, List.setIfInBounds_toArray, List.set_cons_zero, List.set_cons_succ];refine stepF_call (by rfl) (by go_simp) (greatest_spec (some ⟨g, 0, none⟩) [(X : Int), Y] 2 x (by simp [big]) h2) ?_;rintro e x' ⟨rfl, rfl⟩;exact ⟨_, rfl, great2 X Y, rB, hR⟩
      ·refine fv fun v n x hn hR hk => ?_
       obtain ⟨f0, f1, f2⟩ := HFF.out x hR;have h0 : v 0 = iv p := hk.at 0;exact tW
      ·refine fv fun v n x hn hR hk => ?_
       obtain ⟨f0, f1, f2⟩ := HFF.out x hR
       (have h0 : v 16 = .pointer (some ⟨w.heap.size, p * 25, none⟩) := hk 16 (by kernel_rfl); have h1 : v 1 = iv q := hk 1 (by kernel_rfl))
       exact tW
     ·intro v n x hn hR hall;have h15 : v 15 = iv (max X Y : Nat) := hall 15 (by decide);have h17 : v 17 = .pointer (some ⟨w.heap.size, p * 25 + q, none⟩) := hall 17 (by decide);have hst := (HGX.out.below hR).set_ (i := p) (j := q) (by omega) (by omega) (max X Y);have hgl := (HGX.out.below hR).lt;have m0 := (HGX.out.below hR).cell (i := p) (j := q) (by omega) (by omega);have m1 := (HGX.out.below hR).frozen;have HST := lH hst;have HBS := lH ((HBX.out.next hR nL).setCell (p := ⟨w.heap.size, p * 25 + q, none⟩) nL (iv (max X Y : Nat)));clear hall hR hst HFF;simp only [List.drop_succ_cons, List.drop_zero, List.take_succ_cons, List.take_zero, frameF, Act.put, List.setIfInBounds_toArray, List.set_cons_zero, List.set_cons_succ, h15, h17]
      go_upto_region 9 with fail
      generalize x.setCell ⟨w.heap.size, p * 25 + q, none⟩ (iv (max X Y : Nat)) = wS at *;have hpa : p < a.length := (by omega);have hqb : q < b.length := (by omega);obtain ⟨ba, offa, sa, rfl, hba, hxa, hca⟩ := Sl.atS (hsa.below HBS.out) hpa;obtain ⟨bb, offb, sb, rfl, hbb, hxb, hcb⟩ := Sl.atS (hsb.below HBS.out) hqb;have hpai : (p : Int) < (a.length : Int) := (by omega);have hqbi : (q : Int) < (b.length : Int) := (by omega);have HXA := lH hxa;have HXB := lH hxb;clear hxa hxb m0 m1;have hsq := str_eq sa sb;have HSA : Hid (a[p]'hpa = sa) := lH (by have := HXA.out; rw [List.getElem?_eq_getElem hpa] at this; injection this);have HSB : Hid (b[q]'hqb = sb) := lH (by have := HXB.out; rw [List.getElem?_eq_getElem hqb] at this; injection this)
      by_cases hsab : sa = sb
      ·have heq : (sa.toList == sb.toList) = true := by rw [hsq]; simpa using hsab
       have HEQ := lH hsab;clear hsq hsab;have hZl : Z ≤ 24 := by have := File.from_le a b (p + 1) (q + 1); rw [← HZ.out] at this; omega
       obtain ⟨M, hM⟩ : ∃ M, M = max X Y := ⟨_, rfl⟩;rw [← hM] at HST;have hHM : Hid (M = max X Y) := lH hM;have e3 : IntKind.i64.wrap ((Z : Int) + 1) = ((Z + 1 : Nat) : Int) := IntWalk.i64_in _ (by omega)
       go_quiet (fail)
       go_upto_region 10 with fail
       have HSTn : Hid (Grid (wS.drewN nq) w.heap.size fun p_1 q_1 => if p_1 = p ∧ q_1 = q then M else partTab a b p (q + 1) p_1 q_1) := lH HST.out;have HBSn : Hid (Below w.heap.size w (wS.drewN nq)) := lH ⟨HBS.out.os, HBS.out.tape, HBS.out.output, HBS.out.size, HBS.out.block⟩;generalize wS.drewN nq = wT at *;clear hM
       have HFF : Hid (∀ x : World, Below wT.heap.size wT x → x.cell? ⟨w.heap.size, p * 25 + q, none⟩ = some (iv M) ∧ x.cell? ⟨w.heap.size, (p + 1) * 25 + (q + 1), none⟩ = some (iv Z) ∧ w.heap.size < x.heap.size) := lH fun x h =>
        ⟨by rw [(HSTn.out.below h).cell (by omega) (by omega), if_pos ⟨rfl, rfl⟩], by rw [(HSTn.out.below h).cell (by omega) (by omega), if_neg (by omega), hZ], (HSTn.out.below h).lt⟩
       refine wp_free_lit (by kernel_rfl) 19 (by kernel_rfl) (by kernel_rfl) (by decide) (fun _ x => Below wT.heap.size wT x) (fun x x' => Below x.heap.size x x')
        [fun _ u _ => u = iv p,
         fun _ u _ => u = iv q,
         fun _ u _ => u = iv p,
         fun _ u _ => u = iv q,
         fun _ u _ => u = .pointer (some ⟨w.heap.size, p * 25, none⟩),
         fun _ u _ => u = .pointer (some ⟨w.heap.size, p * 25 + q, none⟩),
         fun _ u _ => u = iv M,
         fun _ u _ => u = iv p,
         fun _ u _ => u = iv ((p + 1 : Nat) : Int),
         fun _ u _ => u = iv q,
         fun _ u _ => u = iv ((q + 1 : Nat) : Int),
         fun _ u _ => u = .pointer (some ⟨w.heap.size, (p + 1) * 25, none⟩),
         fun _ u _ => u = .pointer (some ⟨w.heap.size, (p + 1) * 25 + (q + 1), none⟩),
         fun _ u _ => u = iv Z,
         fun _ u _ => u = iv ((Z + 1 : Nat) : Int),
         fun _ u x => ∃ g, u = .slice (some ⟨g, 0, none⟩) 2 2 ∧ Sl intE x (some ⟨g, 0, none⟩) [(M : Int), ((Z + 1 : Nat) : Int)],
         fun _ u _ => u = iv (max M (Z + 1) : Nat),
         fun _ u _ => u = .pointer (some ⟨w.heap.size, p * 25, none⟩),
         fun _ u _ => u = .pointer (some ⟨w.heap.size, p * 25 + q, none⟩)]
        (Below.refl _ wT).drew ?_ ?_
       ·simp only [List.take_succ_cons, List.take_zero, HopL];refine ⟨?_, ?_, ?_, ?_, ?_, ?_, ?_, ?_, ?_, ?_, ?_, ?_, ?_, ?_, ?_, ?_, ?_, ?_, ?_, trivial⟩
        ·refine fv fun v n x hn hR hk => ?_
         obtain ⟨f0, f1, f2⟩ := HFF.out x hR;exact tW
        ·refine fv fun v n x hn hR hk => ?_
         obtain ⟨f0, f1, f2⟩ := HFF.out x hR;exact tW
        ·refine fv fun v n x hn hR hk => ?_
         obtain ⟨f0, f1, f2⟩ := HFF.out x hR;exact tW
        ·refine fv fun v n x hn hR hk => ?_
         obtain ⟨f0, f1, f2⟩ := HFF.out x hR;exact tW
        ·refine fv fun v n x hn hR hk => ?_
         obtain ⟨f0, f1, f2⟩ := HFF.out x hR;have h0 : v 2 = iv p := hk.at 2;exact tW
        ·refine fv fun v n x hn hR hk => ?_
         obtain ⟨f0, f1, f2⟩ := HFF.out x hR
         (have h0 : v 4 = .pointer (some ⟨w.heap.size, p * 25, none⟩) := hk 4 (by kernel_rfl); have h1 : v 3 = iv q := hk 3 (by kernel_rfl))
         exact tW
        ·refine fv fun v n x hn hR hk => ?_
         obtain ⟨f0, f1, f2⟩ := HFF.out x hR;have h0 : v 5 = .pointer (some ⟨w.heap.size, p * 25 + q, none⟩) := hk.at 5;exact tW
        ·refine fv fun v n x hn hR hk => ?_
         obtain ⟨f0, f1, f2⟩ := HFF.out x hR;exact tW
        ·refine fv fun v n x hn hR hk => ?_
         obtain ⟨f0, f1, f2⟩ := HFF.out x hR;have h0 : v 7 = iv p := hk.at 7;exact tW
        ·refine fv fun v n x hn hR hk => ?_
         obtain ⟨f0, f1, f2⟩ := HFF.out x hR;exact tW
        ·refine fv fun v n x hn hR hk => ?_
         obtain ⟨f0, f1, f2⟩ := HFF.out x hR;have h0 : v 9 = iv q := hk.at 9;exact tW
        ·refine fv fun v n x hn hR hk => ?_
         obtain ⟨f0, f1, f2⟩ := HFF.out x hR;have h0 : v 8 = iv ((p + 1 : Nat) : Int) := hk.at 8;exact tW
        ·refine fv fun v n x hn hR hk => ?_
         obtain ⟨f0, f1, f2⟩ := HFF.out x hR
         (have h0 : v 11 = .pointer (some ⟨w.heap.size, (p + 1) * 25, none⟩) := hk 11 (by kernel_rfl); have h1 : v 10 = iv ((q + 1 : Nat) : Int) := hk 10 (by kernel_rfl))
         exact tW
        ·refine fv fun v n x hn hR hk => ?_
         obtain ⟨f0, f1, f2⟩ := HFF.out x hR;have h0 : v 12 = .pointer (some ⟨w.heap.size, (p + 1) * 25 + (q + 1), none⟩) := hk.at 12;exact tW
        ·refine fv fun v n x hn hR hk => ?_
         obtain ⟨f0, f1, f2⟩ := HFF.out x hR;have h0 : v 13 = iv Z := hk.at 13;exact tW
        ·refine ⟨fun _ _ _ _ _ h => h, fun _ _ _ _ h hS => ?_, fun v n x hn hR hk => ?_⟩
         ·obtain ⟨g, h1, h2⟩ := h;exact ⟨g, h1, h2.below hS⟩
         ·have h0 : v 6 = iv M := hk 6 (by kernel_rfl);have h1 : v 14 = iv ((Z + 1 : Nat) : Int) := hk 14 (by kernel_rfl);simp only [List.take_succ_cons, List.take_zero, frameF, Act.put, List.setIfInBounds_toArray, List.set_cons_zero, List.set_cons_succ];exact stepF_new (u := .slice (some ⟨x.heap.size, 0, none⟩) 2 2) (w' := x.alloc (.cells #[iv M, iv ((Z + 1 : Nat) : Int)] 3)) (by rfl) (by go_simp) ⟨⟨x.heap.size, rfl, Sl.fresh intE x 3 #[iv M, iv ((Z + 1 : Nat) : Int)] [(M : Int), ((Z + 1 : Nat) : Int)] rfl (by simp [maxLen])⟩, rB.alloc nL _, hR.alloc hR.size _⟩
        ·refine fv fun v n x hn hR hk => ?_
         have h14 : ∃ g, v 15 = .slice (some ⟨g, 0, none⟩) 2 2 ∧ Sl intE x (some ⟨g, 0, none⟩) [(M : Int), ((Z + 1 : Nat) : Int)] := hk.at 15;obtain ⟨g, h1, h2⟩ := h14;simp only [List.take_succ_cons, List.take_zero, frameF, Act.put, List.setIfInBounds_toArray, List.set_cons_zero, List.set_cons_succ];refine stepF_call (by rfl) (by go_simp) (greatest_spec (some ⟨g, 0, none⟩) [(M : Int), ((Z + 1 : Nat) : Int)] 2 x (by simp [big]) h2) ?_;rintro e x' ⟨rfl, rfl⟩;exact ⟨_, rfl, great2 M (Z + 1), rB, hR⟩
        ·refine fv fun v n x hn hR hk => ?_
         obtain ⟨f0, f1, f2⟩ := HFF.out x hR;have h0 : v 0 = iv p := hk.at 0;exact tW
        ·refine fv fun v n x hn hR hk => ?_
         obtain ⟨f0, f1, f2⟩ := HFF.out x hR
         (have h0 : v 17 = .pointer (some ⟨w.heap.size, p * 25, none⟩) := hk 17 (by kernel_rfl); have h1 : v 1 = iv q := hk 1 (by kernel_rfl))
         exact tW
       ·intro v' n x hn hR hall;have h15 : v' 16 = iv (max M (Z + 1) : Nat) := hall 16 (by decide);have h17 : v' 18 = .pointer (some ⟨w.heap.size, p * 25 + q, none⟩) := hall 18 (by decide);have hst := (HSTn.out.below hR).set_ (i := p) (j := q) (by omega) (by omega) (max M (Z + 1));have hgl := (HSTn.out.below hR).lt;have m0 := (HSTn.out.below hR).cell (i := p) (j := q) (by omega) (by omega);have m1 := (HSTn.out.below hR).frozen
        have HGf : Hid (Grid (x.setCell ⟨w.heap.size, p * 25 + q, none⟩ (iv (max M (Z + 1) : Nat))) w.heap.size (partTab a b p q)) := lH (hst.congr fun r t hr ht => by
         unfold partTab;have hs := File.from_step hpa hqb;rw [HSA.out, HSB.out, if_pos HEQ.out, ← HX.out, ← HY.out, ← HZ.out, ← hHM.out] at hs
         by_cases h1 : r = p ∧ t = q
         ·rw [if_pos h1, if_pos (by omega), h1.1, h1.2, hs]
         ·rw [if_neg h1, if_neg h1]
          by_cases h2 : p < r ∨ (r = p ∧ q + 1 ≤ t)
          ·rw [if_pos h2, if_pos (by omega)]
          ·rw [if_neg h2, if_neg (by omega)])
        have HBf := lH ((HBSn.out.next hR nL).setCell (p := ⟨w.heap.size, p * 25 + q, none⟩) nL (iv (max M (Z + 1) : Nat)));clear hall hR hst HFF;simp only [List.drop_succ_cons, List.drop_zero, List.take_succ_cons, List.take_zero, frameF, Act.put, List.setIfInBounds_toArray, List.set_cons_zero, List.set_cons_succ, h15, h17];(go_wp2_with fail);go_roundw
        case rel => exact ⟨q, by omega, rfl, HGf.out, HBf.out⟩
        case measure => simp [intOf]
      ·have heq : (sa.toList == sb.toList) = false := by rw [hsq]; simpa using hsab
       have HEQ := lH hsab;clear hsq hsab
       have HGf : Hid (Grid wS w.heap.size (partTab a b p q)) := lH (HST.out.congr fun r t hr ht => by
        unfold partTab;have hs := File.from_step hpa hqb;rw [HSA.out, HSB.out, if_neg HEQ.out, ← HX.out, ← HY.out] at hs
        by_cases h1 : r = p ∧ t = q
        ·rw [if_pos h1, if_pos (by omega), h1.1, h1.2, hs]
        ·rw [if_neg h1]
         by_cases h2 : p < r ∨ (r = p ∧ q + 1 ≤ t)
         ·rw [if_pos h2, if_pos (by omega)]
         ·rw [if_neg h2, if_neg (by omega)])
       go_quiet (fail)
       have hGn : Grid (wS.drewN nq) w.heap.size (partTab a b p q) := HGf.out;have hBn : Below w.heap.size w (wS.drewN nq) := ⟨HBS.out.os, HBS.out.tape, HBS.out.output, HBS.out.size, HBS.out.block⟩;(go_wp2_with fail);go_roundw
       case rel => exact ⟨q, by omega, rfl, hGn, hBn⟩
       case measure => simp [intOf]
    ·obtain rfl : j = 0 := by omega
     (go_wp2_with fail);go_roundw
     case rel => exact ⟨p, by omega, rfl, hGx, hbx⟩
     case measure => simp [intOf]
  ·obtain rfl : i = 0 := by omega
   (go_wp2_with fail);go_ret;exact ⟨_, rfl, hG.congr fun p q _ _ => by unfold partTab; rw [if_pos (by omega)], hbw⟩
end Fl
end
section
namespace Fl
open Go.RowKit Go.Maps Go.WideMaps Go.ChangeShapes
theorem both_spec (A : Option Addr) (a : List ByteArray) (c : Nat) (A' : Option Addr) (b : List ByteArray) (c' : Nat) (w : World) (ha : a.length ≤ big) (hb : b.length ≤ big) (hsa : Sl strE w A a) (hsb : Sl strE w A' b) :
  Calls Tryz.prog 27 #[.slice A a.length c, .slice A' b.length c'] w fun e w' => e = .returned (iv (if File.check a = 0 then File.check b else File.check a)) ∧ Below w.heap.size w w' := by
 have HA := lH (check_spec A a c w ha hsa)
 by_cases h : File.check a = 0
 ·rw [if_pos h];rw [h] at HA;clear h
  go_enter Tryz.func27, Tryz.ntmps27
  (go_wp2_with fail);refine HA.out.mono ?_;rintro e w1 ⟨rfl, hb1⟩;have HB := lH (check_spec A' b c' w1 hb (hsb.below hb1));(go_wp2_with fail);refine HB.out.mono ?_;rintro e w2 ⟨rfl, hb2⟩;(go_wp2_with fail);go_ret;exact ⟨rfl, hb1.next hb2 nL⟩
 ·rw [if_neg h];have hne : (File.check a != 0) = true := by simpa using h
  clear h
  go_enter Tryz.func27, Tryz.ntmps27
  (go_wp2_with fail);refine HA.out.mono ?_;rintro e w1 ⟨rfl, hb1⟩;(go_wp2_with fail);go_ret;exact ⟨rfl, hb1⟩
theorem laws : Keyed Tryz.prog 9 := string_keyed Tryz.underlying9
theorem key_str {s : ByteArray} (h : s.size ≤ maxLen) : keyOf Tryz.prog 9 (.string s) = some (.string s.data.toList) := keyOf_string_mk Tryz.underlying9 h
theorem zeroInts (w : World) : (zeroValue 31).run Tryz.prog w = .ok (.slice none 0 0) w := by kernel_rfl
def Reads (l : List Int) (d : DataW Unit) : Prop := (d = .nil ∧ l = []) ∨ d = .slice (lits .i64 l) []
def posOf (s : ByteArray) : List ByteArray → Nat → List Int
 | [], _ => []
 | x :: l, i => if x = s then (i : Int) :: posOf s l (i + 1) else posOf s l (i + 1)
def Where (w : World) (m B : Nat) (l : List ByteArray) : Prop := ∃ (n : Nat) (D : DataW Unit), n ≤ l.length ∧ w.ownsGroups (H := Unit) Tryz.prog 9 B 3 .i64 m n D ∧ ∀ s : ByteArray, s.size ≤ maxLen → Reads (posOf s l 0) (D.atKey (.string s.data.toList) .nil)
theorem Where.below {w w' : World} {m B : Nat} {l : List ByteArray} (h : Where w m B l) (hb : Below w.heap.size w w') : Where w' m B l := by
 obtain ⟨n, D, h1, h2, h3⟩ := h;have hg : w.grownBy w' none := ⟨hb.os, hb.tape, hb.output, hb.size, fun k hk _ => hb.block k hk⟩;exact ⟨n, D, h1, h2.kept hg (by simp) (h2.rowsAbove (by simp)), h3⟩
theorem where_nil (w : World) (o : Obj) : Where ((w.alloc (.map #[] 0)).alloc o) w.heap.size (w.heap.size + 2) [] := by
 refine ⟨0, .map [], Nat.le_refl _, ?_, fun s _ => .inl ⟨rfl, rfl⟩⟩;refine ⟨#[], 0, ?_, ⟨by simp, Go.MapKept.stamped_empty 0, by simp⟩, Nat.le_refl _, rfl, by omega, by simp, by simp⟩;rw [Below.heap_alloc _ _ _ (by simp), (MapKept.heap_alloc w _).1]
theorem posOf_snoc (s x : ByteArray) : ∀ (l : List ByteArray) (i : Nat), posOf s (l ++ [x]) i = posOf s l i ++ (if x = s then [((i + l.length : Nat) : Int)] else []) := by
 intro l
 induction l with
 | nil => intro i; simp [posOf]
 | cons y l ih =>
  intro i;simp only [List.cons_append, posOf, ih, List.length_cons];rw [show i + 1 + l.length = i + (l.length + 1) by omega]
  split <;> simp
theorem Reads.unique {l l' : List Int} {d : DataW Unit} (h : Reads l d) (h' : Reads l' d) : l = l' := by
 rcases h with ⟨rfl, rfl⟩ | rfl
 ·rcases h' with ⟨_, rfl⟩ | h'
  ·rfl
  ·cases h'
 ·rcases h' with ⟨h', _⟩ | h'
  ·cases h'
  ·injection h' with h';unfold lits at h'
   revert h'
   induction l generalizing l' with
   | nil => intro h; cases l' with
    | nil => rfl
    | cons _ _ => simp at h
   | cons y l ih => intro h; cases l' with
    | nil => simp at h
    | cons y' l' =>
     simp only [List.map_cons, List.cons.injEq] at h;obtain ⟨h1, h2⟩ := h;rw [ih h2]
     congr 1
     injection h1 with h1;injection h1
theorem reads_of {w : World} {base : Nat} {v : Value} {zs : List Int} (h : w.ownsInts base 3 .i64 v zs) : Reads zs (rowDatum (H := Unit) .i64 v zs) := by
 rcases h.datum (H := Unit) with ⟨h1, h2⟩ | h1
 ·exact .inl ⟨h1, h2⟩
 ·exact .inr h1
section
variable {ops : Array Oper} {o : Oper} {a : Act} {K : Act → World → Prop} {Q : Exit → Act → World → Prop} {E' : Prop} {w : World}
structure Look (w : World) (ob : Obj) (m B n : Nat) (D : DataW Unit) (s : ByteArray) (v : Value) (zs : List Int) : Prop where
 at_ : D.atKey (.string s.data.toList) .nil = rowDatum .i64 v zs
 own : (w.alloc ob).ownsInts B 3 .i64 v zs
 len : zs.length ≤ n
 back : (w.alloc ob).groupBack Tryz.prog 178 9 B 3 .i64 m n D (.string s) (.string s.data.toList) v
theorem look_both {m B n : Nat} {D : DataW Unit} (ob : Obj) (hown : w.ownsGroups (H := Unit) Tryz.prog 9 B 3 .i64 m n D) (hn : n < maxLen) {s : ByteArray} (hs : s.size ≤ maxLen) :
  ∃ v zs v2 zs2, (Instr.lookup 178 (.map (some m)) (.string s) false).run Tryz.prog w = .ok v w ∧ (Instr.lookup 178 (.map (some m)) (.string s) false).run Tryz.prog (w.alloc ob) = .ok v2 (w.alloc ob) ∧ Look w ob m B n D s v zs ∧ Look w ob m B n D s v2 zs2 := by
 have hown' : (w.alloc ob).ownsGroups (H := Unit) Tryz.prog 9 B 3 .i64 m n D := hown.kept (World.grownBy_alloc w ob none) (by simp) (hown.rowsAbove (by simp));obtain ⟨v, zs, hrun, hat, hoi, hzl, hback⟩ := hown.at laws Tryz.underlying178 (zeroInts _) hn (key_str hs);obtain ⟨v2, zs2, hrun2, hat2, hoi2, hzl2, hback2⟩ := hown'.at laws Tryz.underlying178 (zeroInts _) hn (key_str hs);refine ⟨v, zs, v2, zs2, hrun, hrun2, ⟨hat, hoi.alloc _, hzl, fun w1 v' zs' hg h1 h2 h3 => hback w1 v' zs' ((World.grownBy_alloc _ _ _).trans hg) h1 h2 (h3.imp id ?_)⟩, ⟨hat2, hoi2, hzl2, hback2⟩⟩;rintro ⟨g, h4, h5⟩;exact ⟨g, h4, by simp at h5; omega⟩
theorem info_int : (Tryz.prog.info? 3).map (fun i => (i.zero, i.size, i.bytes)) = some (some (.int .i64 0), 1, 8) := by kernel_rfl
theorem stepAppW {W : World} (hgd : o.guard = none) (s x : Operand) (ho : o.op = .call { callee := .builtin .append, args := #[s, x], argTypes := #[31, 31] }) {B : Nat} {v : Value} {zs : List Int} (j : Nat) (hj : j < 1000)
  (hW : W = w.alloc (.cells #[iv j] 3)) (hown : W.ownsInts B 3 .i64 v zs) (hz : zs.length < 1000) (hs : a.eval s = v) {G : Nat} (hG : G = w.heap.size) (hx : a.eval x = .slice (some ⟨G, 0, none⟩) 1 1) (hB : B ≤ w.heap.size)
  (h : ∀ v' w', w'.ownsInts B 3 .i64 v' (zs ++ [(j : Int)]) → W.grownBy w' v.ownBlock → (v'.ownBlock = v.ownBlock ∨ ∃ g, v'.ownBlock = some g ∧ W.heap.size ≤ g) → K (a.put o.dst v') w') :
  if Region.wanted o (yielded ops a.tmps) = true then Oper.wp Tryz.prog o a W K Q else E' := by
 subst hW hG;have hw : Region.wanted o (yielded ops a.tmps) = true := by simp [Region.wanted, hgd]
 rw [if_pos hw];obtain ⟨i0, hi, hz0, hz1, hz2⟩ := info_parts info_int;obtain ⟨v', w', hr, h2, h3, h4, h5⟩ := run_append_own_at (P := Tryz.prog) (w.alloc (.cells #[iv j] 3)) B 31 o.type 3 i0 (.int .i64 0) 1 8 Tryz.underlying31 hi hz0 hz1 hz2 rfl (by decide) v zs.length (zs.map (Value.int .i64)) hown.1 ⟨w.heap.size, 0, none⟩ 1 1 [iv j] rfl (cell_one_new _ _ _) (ints_oneCell .i64 [(j : Int)]) (by unfold maxLen; omega) (by omega) (by simp; omega);unfold Oper.wp execOp;simp only [ho, resolve, invoke, builtin, Sem.run_bind, Sem.run_pure, Result.andThen_ok, List.map_toArray, List.map_cons, List.map_nil, hs, hx, hr];exact h v' w' (hown.appended h2 (by have h1 : IntKind.i64.min = -9223372036854775808 := rfl; have h2 : IntKind.i64.max = 9223372036854775807 := rfl; simp only [Lit.wf, Bool.and_eq_true, decide_eq_true_eq, h1, h2]; omega)) h3 (h5.imp id fun h => ⟨_, h, Nat.le_refl _⟩)
end
theorem where_snoc {w w1 w2 : World} {m B n : Nat} {D : DataW Unit} {l : List ByteArray} {s : ByteArray} {v v' : Value} {zs : List Int} {j : Nat} (hj : l.length = j) (hn : n ≤ l.length) (hD : IsMap D)
  (hr : ∀ s : ByteArray, s.size ≤ maxLen → Reads (posOf s l 0) (D.atKey (.string s.data.toList) .nil)) (hs : s.size ≤ maxLen)
  (hat : D.atKey (.string s.data.toList) .nil = rowDatum .i64 v zs) (hoi : w.ownsInts B 3 .i64 v zs) (hoi' : w1.ownsInts B 3 .i64 v' (zs ++ [(j : Int)]))
  (hg : w2.ownsGroups Tryz.prog 9 B 3 .i64 m (n + 1) (D.put (.string s.data.toList) (rowDatum .i64 v' (zs ++ [(j : Int)])))) : Where w2 m B (l ++ [s]) := by
 subst hj;refine ⟨n + 1, _, by simp; omega, hg, fun s' hs' => ?_⟩;rw [posOf_snoc]
 by_cases h : s = s'
 ·subst h;rw [atKey_put_same hD (by trivial)];have hz : posOf s l 0 = zs := (hr s hs).unique (by rw [hat]; exact reads_of hoi);rw [if_pos rfl, hz, Nat.zero_add];exact reads_of hoi'
 ·rw [if_neg h, List.append_nil, atKey_put_other]
  ·exact hr s' hs'
  ·intro e;injection e with e;exact h (ByteArray.ext (by cases hh : s.data; cases hh' : s'.data; rw [hh, hh'] at e; simp at e; rw [e]))
end Fl
end
section
namespace Fl
open Go.RowKit Go.Maps Go.WideMaps Go.ChangeShapes
abbrev bp (b : Nat) : Value := .pointer (some ⟨b, 0, none⟩)
def pairE : Enc (Nat × Nat) := ⟨fun p => [iv (p.1 : Int), iv (p.2 : Int)], 2, fun _ => rfl, fun _ u h => by simp at h; rcases h with rfl | rfl <;> rfl, by decide⟩
theorem tyPairs : SlTy Tryz.prog 137 136 2 := slTy_of (z := .agg #[iv 0, iv 0]) (bytes := 16) Tryz.underlying137 (by kernel_rfl) rfl (by decide)
def posN (s : ByteArray) : List ByteArray → Nat → List Nat
 | [], _ => []
 | x :: l, i => if x = s then i :: posN s l (i + 1) else posN s l (i + 1)
theorem posOf_eq (s : ByteArray) : ∀ (l : List ByteArray) (i : Nat), posOf s l i = (posN s l i).map fun (n : Nat) => (n : Int) := by
 intro l
 induction l with
 | nil => intro i; rfl
 | cons x l ih => intro i; unfold posOf posN; rw [ih]; split <;> rfl
theorem posN_lt {s : ByteArray} : ∀ (l : List ByteArray) (i : Nat), ∀ y ∈ posN s l i, y < i + l.length := by
 intro l
 induction l with
 | nil => intro i y h; cases h
 | cons x l ih =>
  intro i y h;unfold posN at h;rw [List.length_cons]
  split at h
  ·rcases List.mem_cons.1 h with h | h
   ·omega
   ·have := ih _ _ h; omega
  ·have := ih _ _ h; omega
theorem posN_length {s : ByteArray} : ∀ (l : List ByteArray) (i : Nat), (posN s l i).length ≤ l.length := by
 intro l
 induction l with
 | nil => intro i; exact Nat.le_refl _
 | cons x l ih =>
  intro i;unfold posN;have := ih (i + 1)
  split
  ·simpa using this
  ·rw [List.length_cons]; omega
def test (a b : List ByteArray) (F x j y : Nat) : Bool := decide (j ≤ y) && (decide (0 < F) && decide (File.from_ a b (x + 1) (y + 1) + 1 = F))
theorem fits_test {a b : List ByteArray} {F x j y : Nat} {s t : ByteArray} (hx : a[x]? = some s) (hy : b[y]? = some t) (hj : j ≤ y) : File.fits a b F x y = (decide (t = s) && test a b F x j y) := by
 obtain ⟨hx1, hx2⟩ := List.getElem?_eq_some_iff.1 hx;obtain ⟨hy1, hy2⟩ := List.getElem?_eq_some_iff.1 hy;rw [Bool.eq_iff_iff, File.fits_iff];unfold test;simp only [Bool.and_eq_true, decide_eq_true_eq]
 constructor
 ·rintro ⟨_, _, h1, h2⟩;rw [hx2, hy2] at h1;exact ⟨h1.symm, hj, by omega, h2⟩
 ·rintro ⟨h1, _, _, h2⟩;exact ⟨hx1, hy1, by rw [hx2, hy2, h1], h2⟩
theorem find_row {a b : List ByteArray} {F x j : Nat} {s : ByteArray} (hx : a[x]? = some s) : ∀ (n y : Nat), y + n = b.length → j ≤ y → (posN s (b.drop y) y).find? (test a b F x j) = File.rowFirst a b F x n y := by
 intro n
 induction n with
 | zero => intro y hy _; rw [List.drop_of_length_le (by omega)]; rfl
 | succ n ih =>
  intro y hy hj;have hyl : y < b.length := (by omega);rw [List.drop_eq_getElem_cons hyl];unfold posN File.rowFirst;rw [fits_test (j := j) hx (List.getElem?_eq_getElem hyl) hj, ← ih (y + 1) (by omega) (by omega)]
  by_cases h : b[y] = s
  ·simp only [h, if_true, decide_true, Bool.true_and, List.find?_cons]
   split
   ·rename_i h1; rw [if_pos (by simpa using h1)]
   ·rename_i h1; rw [if_neg (by simpa using h1)]
  ·simp [h]
theorem find_from {a b : List ByteArray} {F x j : Nat} {s : ByteArray} : ∀ (n y : Nat), y + n = j → j ≤ b.length → (posN s (b.drop y) y).find? (test a b F x j) = (posN s (b.drop j) j).find? (test a b F x j) := by
 intro n
 induction n with
 | zero => intro y hy _; rw [Nat.add_zero] at hy; rw [hy]
 | succ n ih =>
  intro y hy hj;rw [List.drop_eq_getElem_cons (by omega), ← ih (y + 1) (by omega) hj];rw [posN]
  split
  ·rw [List.find?_cons, show test a b F x j y = false by unfold test; rw [decide_eq_false (by omega), Bool.false_and]]
  ·rfl
theorem find_pos {a b : List ByteArray} {F x j : Nat} {s : ByteArray} (hx : a[x]? = some s) (hj : j ≤ b.length) : (posN s b 0).find? (test a b F x j) = File.rowFirst a b F x (b.length - j) j := by
 rw [← find_row hx (b.length - j) j (by omega) nL, ← find_from j 0 (by omega) hj, List.drop_zero]
theorem Where.look {w : World} {m B : Nat} {l : List ByteArray} (h : Where w m B l) (hl : l.length < maxLen) (s : ByteArray) (hs : s.size ≤ maxLen) :
  ∃ A c, (Instr.lookup 178 (.map (some m)) (.string s) false).run Tryz.prog w = .ok (.slice A (posN s l 0).length c) w ∧ Sl intE w A ((posN s l 0).map fun (n : Nat) => (n : Int)) := by
 obtain ⟨n, D, h1, h2, h3⟩ := h;obtain ⟨v, zs, hrun, hat, hoi, _, _⟩ := h2.at laws Tryz.underlying178 (zeroInts _) (by omega) (key_str hs);have hz : posOf s l 0 = zs := (h3 s hs).unique (by rw [hat]; exact reads_of hoi)
 have hfl : ∀ zs : List Int, zs.flatMap intE.cells = zs.map (Value.int .i64) := by
  intro zs
  induction zs with
  | nil => rfl
  | cons z zs ih => rw [List.flatMap_cons, List.map_cons, ← ih]; rfl
 have ho : Own intE 3 B w v zs := by
  unfold Own;rw [hfl];exact hoi.1
 rw [← posOf_eq, hz, show (posN s l 0).length = zs.length by rw [← hz, posOf_eq, List.length_map]]
 obtain ⟨A, c, rfl, _, _⟩ := ho.form;exact ⟨A, c, hrun, ho.sl⟩
structure Scene (w0 : World) (p2 p5 p6 g m B : Nat) (A : Option Addr) (c : Nat) (a b : List ByteArray) : Prop where
 la : a.length ≤ 24
 lb : b.length ≤ 24
 sm : ∀ s ∈ a, s.size ≤ 1000
 b5 : Blk w0 p5 176 #[bp g]
 b2 : Blk w0 p2 23 #[.slice A a.length c]
 b6 : Blk w0 p6 178 #[.map (some m)]
 grid : Grid w0 g (File.from_ a b)
 gl : g < w0.heap.size
 wh : Where w0 m B b
 sa : Sl strE w0 A a
set_option maxHeartbeats 4000000 in
theorem more_spec {w0 : World} {p2 p5 p6 g m B : Nat} {A : Option Addr} {c : Nat} {a b : List ByteArray} (HS : Hid (Scene w0 p2 p5 p6 g m B A c a b)) : ∀ (n i j : Nat) (acc : List (Nat × Nat)) (v : Value) (w : World), a.length - i < n → i ≤ a.length → j ≤ b.length → acc.length + a.length ≤ 100 + i →
  Below w0.heap.size w0 w → Blk w w0.heap.size 137 #[v] → Blk w (w0.heap.size + 1) 179 #[.func (.func 130) #[] #[bp p5, bp p2, bp p6, bp w0.heap.size, bp (w0.heap.size + 1)]] → Own pairE 136 (w0.heap.size + 2) w v acc →
  Calls Tryz.prog 130 #[.agg #[iv (i : Int), iv (j : Int)], bp p5, bp p2, bp p6, bp w0.heap.size, bp (w0.heap.size + 1)] w fun e w' => e = .returned (.tuple #[]) ∧ Below w0.heap.size w0 w' ∧ ∃ v', Blk w' w0.heap.size 137 #[v'] ∧ Own pairE 136 (w0.heap.size + 2) w' v' (acc ++ File.commonGo a b n i j) := by
 intro n
 induction n with
 | zero => intro i j acc v w h; omega
 | succ n ih =>
  intro i j acc v w hn hi hj hacc hb0 ho hf hown;have IH := lH ih;have hla := HS.out.la;have hlb := HS.out.lb;have hgl := HS.out.gl;have h2l := HS.out.b2.lt;have h5l := HS.out.b5.lt;have h6l := HS.out.b6.lt;have hw0 := hb0.size;have hol := ho.lt;have hfl := hf.lt;have hB1 : Below w.heap.size w (w.alloc (.cells #[iv (i : Int), iv (j : Int)] 136)) := rB.alloc nL _;have hat : Blk (w.alloc (.cells #[iv (i : Int), iv (j : Int)] 136)) w.heap.size 136 #[iv (i : Int), iv (j : Int)] := Blk.new _ _ _;have hil : (i : Int) < 25 := (by omega);have hjl : (j : Int) < 25 := (by omega);clear ih
  go_enter Tryz.func130, Tryz.ntmps130
  (go_wp2_with fail);generalize w.alloc (.cells #[iv (i : Int), iv (j : Int)] 136) = w1 at *;have hb1 : Below w0.heap.size w0 w1 := hb0.next hB1 nL;have c5 := (HS.out.b5.under hb1).cell 0;have cg := (HS.out.grid.below hb1).cell (i := i) (j := j) (by omega) (by omega);have ca := hat.cell 0;have cb := hat.cell 1;obtain ⟨F, hF⟩ : ∃ F, F = File.from_ a b i j := ⟨_, rfl⟩;rw [← hF] at cg;have HF := lH hF;clear hF
  go_quiet (fail)
  have hd1 : Below w1.heap.size w1 (w1.drewN nq) := ⟨rfl, rfl, rfl, Nat.le_refl _, fun _ _ => rfl⟩;have hB2 : Below w.heap.size w (w1.drewN nq) := hB1.next hd1 nL;have hatA := hat.under hd1;have zs1 : w1.heap.size = (w1.drewN nq).heap.size := rfl;clear hd1 hat ca cb cg c5 hb1 hB1;generalize w1.drewN nq = wA at *;clear zs1;have hatc := hatA.cell 0;have hzA := hB2.size;have hatl := hatA.lt;(go_wp2_with fail)
  go_loopw [8] (fun u wr => ∃ x : Nat, i ≤ x ∧ x ≤ a.length ∧ u = iv (x : Int) ∧ Hid (File.firstGo a b F j (a.length - x) x = File.first a b i j) ∧ Below wA.heap.size wA wr) (fun u _ => a.length - (intOf u).toNat)
  case atStart => exact ⟨i, Nat.le_refl _, hi, rfl, by rw [HF.out]; rfl, rB⟩
  case round =>
   obtain ⟨x, hix, hxa, rfl, HG, hbr⟩ := hrel;have hbw : Below w0.heap.size w0 wr := hb0.next (hB2.next hbr nL) nL;have c2 := (HS.out.b2.under hbw).cell 0;have c6 := (HS.out.b6.under hbw).cell 0
   by_cases hlt : x < a.length
   ·obtain ⟨ba, off, s, rfl, hba, hx, hc0⟩ := Sl.atS (HS.out.sa.below hbw) hlt;have hsm : s.size ≤ maxLen := by have := HS.out.sm s (List.mem_of_getElem? hx); unfold maxLen; omega
    have hbd : Below w0.heap.size w0 wr.drew := hbw.drew;obtain ⟨Z, cz, hrun, hZ⟩ := Where.look (HS.out.wh.below hbd) (by unfold maxLen; omega) s hsm;obtain ⟨ys, hys⟩ : ∃ ys, ys = posN s b 0 := ⟨_, rfl⟩;rw [← hys] at hrun hZ;have hyb : Hid (∀ y ∈ ys, y < b.length) := lH fun y hy => by have := posN_lt b 0 y (by rw [← hys]; exact hy); omega
    have hyl : ys.length ≤ 1000000 := by rw [hys]; have := posN_length (s := s) b 0; omega
    have HR : Hid (ys.find? (test a b F x j) = File.rowFirst a b F x (b.length - j) j) := lH (by rw [hys]; exact find_pos hx hj);have HZ := lH hZ;have r2 : wr.drew.cell? ⟨p2, 0, none⟩ = some (.slice (some ⟨ba, off, none⟩) a.length c) := (HS.out.b2.under hbd).cell 0;have r6 : wr.drew.cell? ⟨p6, 0, none⟩ = some (.map (some m)) := (HS.out.b6.under hbd).cell 0;have r0 : wr.drew.cell? ⟨ba, off + x, none⟩ = some (.string s) := hc0;clear hys hZ
    go_upto_region 5 with fail
    clear c2 c6 hc0
    go_region_held3 (fun w => w.cell? ⟨p2, 0, none⟩ = some (.slice (some ⟨ba, off, none⟩) a.length c) ∧ w.cell? ⟨p6, 0, none⟩ = some (.map (some m)) ∧ w.cell? ⟨ba, off + x, none⟩ = some (.string s)) (first | assumption | exact ⟨r2, r6, r0⟩) (fail)
    clear r2 r6 r0 hrun;have hbr2 : Below wA.heap.size wA wr.drew := hbr.drew;clear hbw hbr;generalize wr.drew = wC at *;(go_wp2_with fail)
    go_loopw [36] (fun u wr => ∃ q : Nat, q ≤ ys.length ∧ u = iv (q : Int) ∧ Hid ((ys.drop q).find? (test a b F x j) = File.rowFirst a b F x (b.length - j) j) ∧ Below wC.heap.size wC wr) (fun u _ => ys.length - (intOf u).toNat)
    case atStart => exact ⟨0, Nat.zero_le _, rfl, HR, rB⟩
    case round =>
     obtain ⟨q, hq, rfl, HQ, hbq⟩ := hrel
     by_cases hql : q < ys.length
     ·obtain ⟨y, hy⟩ : ∃ y, ys[q]? = some y := ⟨_, List.getElem?_eq_getElem hql⟩;have hyb2 := hyb.out y (List.mem_of_getElem? hy);obtain ⟨bz, oz, z, rfl, hbz, hz, hcz⟩ := Sl.atI (HZ.out.below hbq) (k := q) (by simpa using hql);rw [List.getElem?_map, hy] at hz;simp only [Option.map_some, Option.some.injEq] at hz;subst hz;have hbR : Below wA.heap.size wA wr := hbr2.next hbq nL;have hbW : Below w.heap.size w wr := hB2.next hbR nL;have hb0W : Below w0.heap.size w0 wr := hb0.next hbW nL;have HBR := lH hbR;have HBW := lH hbW;have HB0W := lH hb0W;have hzr := hbR.size;have q0 := (hatA.under hbR).cell 0;have q1 := (hatA.under hbR).cell 1;have hwr : w.heap.size < wr.heap.size := (by omega);have HYN : Hid (ys.find? (test a b F x j) = ys.find? (test a b F x j)) := rfl;have hd : ys.drop q = y :: ys.drop (q + 1) := by rw [drop_at hy]
      have HQ2 : Hid ((if test a b F x j y then some y else (ys.drop (q + 1)).find? (test a b F x j)) = File.rowFirst a b F x (b.length - j) j) := by
       have := HQ.out;rw [hd, List.find?_cons] at this
       split <;> simp_all
      clear HYN hd HQ hbR hbW hb0W;have hF24 : F ≤ 24 := by rw [HF.out]; exact Nat.le_trans (File.from_le a b i j) hla
      obtain ⟨G, hG⟩ : ∃ G, G = File.from_ a b (x + 1) (y + 1) := ⟨_, rfl⟩;have cgr := (HS.out.grid.below HB0W.out).cell (i := x + 1) (j := y + 1) (by omega) (by omega);rw [← hG] at cgr;have HT : Hid (test a b F x j y = (decide (j ≤ y) && (decide (0 < F) && decide (G + 1 = F)))) := lH (by unfold test; rw [← hG]);have c5 := (HS.out.b5.under HB0W.out).cell 0;have c9 := (Blk.under ho HBW.out).cell 0;have hNb : Below wr.heap.size wr (wr.alloc (.cells #[Value.int .i64 (x : Int), Value.int .i64 (y : Int)] 136)) := rB.alloc nL _;have hNx : Blk (wr.alloc (.cells #[Value.int .i64 (x : Int), Value.int .i64 (y : Int)] 136)) wr.heap.size 136 #[iv (x : Int), iv (y : Int)] := Blk.new _ _ _;have d5 := hNb.cell (p := ⟨p5, 0, none⟩) (by show p5 < _; omega);have dg := hNb.cell (p := ⟨g, (x + 1) * 25 + (y + 1), none⟩) (by show g < _; omega);have dq := hNb.cell (p := ⟨w.heap.size, 1, none⟩) hwr
      rw [c5] at d5;rw [cgr] at dg;rw [q1] at dq;have e1 : IntKind.i64.wrap ((x : Int) + 1) = ((x + 1 : Nat) : Int) := IntWalk.i64_in _ (by omega);have e2 : IntKind.i64.wrap ((y : Int) + 1) = ((y + 1 : Nat) : Int) := IntWalk.i64_in _ (by omega);have e3 : IntKind.i64.wrap ((F : Int) - 1) = (F : Int) - 1 := IntWalk.i64_in _ (by omega);have hpl1 : (x : Int) + 1 < 25 := (by omega);have hql1 : (y : Int) + 1 < 25 := (by omega);have hpl0 : (0 : Int) ≤ (x : Int) + 1 := (by omega);have hql0 : (0 : Int) ≤ (y : Int) + 1 := (by omega);have hpt : ((x : Int) + 1).toNat = x + 1 := (by omega);have hqt : ((y : Int) + 1).toNat = y + 1 := (by omega)
      go_upto_region 9 with fail
      generalize wr.alloc (.cells #[Value.int .i64 (x : Int), Value.int .i64 (y : Int)] 136) = wN at *;have HBN : Hid (Below wC.heap.size wC wN) := lH (hbq.next hNb nL);have HNB := lH hNb;clear hG cgr c5 q0 q1 hcz hNb hbq
      by_cases h1 : (j : Int) ≤ (y : Int)
      ·by_cases h2 : (0 : Int) < (F : Int)
       ·by_cases h3 : (G : Int) = (F : Int) - 1
        ·have HFst : Hid (some (x, y) = File.first a b i j) := by
          have h0 := HQ2.out;rw [HT.out, decide_eq_true (by omega : j ≤ y), decide_eq_true (by omega : 0 < F), decide_eq_true (by omega : G + 1 = F), if_pos (by rfl)] at h0;have := HG.out;rw [show a.length - x = (a.length - (x + 1)) + 1 by omega] at this;unfold File.firstGo at this;rw [← h0] at this;exact this
         have hWN : Below w.heap.size w wN := HBW.out.next HNB.out nL;have HWN := lH hWN;have HON := lH (hown.below hWN);have B9 := Blk.under ho hWN;have d9 := B9.cell 0;have BF := Blk.under hf hWN;have hNs := hNx.cell;have hN0 := hNs 0;have hN1 := hNs 1;have hzN := hWN.size;have hal : acc.length + 1 ≤ big := by unfold big; omega
         have HLN : Hid ((acc ++ [(x, y)]).length = acc.length + 1) := lH (by rw [List.length_append]; rfl);have HIn : Hid (a.length - (x + 1) < n) := lH (by omega);have HIa : Hid ((acc ++ [(x, y)]).length + a.length ≤ 100 + (x + 1)) := lH (by rw [List.length_append]; simp; omega);clear HQ2 HT HR HG hWN
         go_wp2_with (first
          | (at_builtin; refine wpApp1 pairE tyPairs rfl _ _ rfl HON.out (x, y) rfl rfl rfl (by omega) hal ?_; intro v1 w2 hown1 hb1 hk1; obtain ⟨A6, k6, rfl, hc6, hm6⟩ := hown1.form; rw [HLN.out] at hown1; have hne : ∀ k, k < w0.heap.size + 2 → v.ownBlock ≠ some k := (fun k hk e => by have := (HON.out.lt k e).1; omega); have C9 : Blk w2 w0.heap.size 137 #[v] := (hk1 _ B9.lt (hne _ (by omega))).trans B9; have CF : Blk w2 (w0.heap.size + 1) 179 #[.func (.func 130) #[] #[bp p5, bp p2, bp p6, bp w0.heap.size, bp (w0.heap.size + 1)]] := (hk1 _ BF.lt (hne _ (by omega))).trans BF; have m9 := C9.cell 0; have f9 := C9.frozen 0; have mF := (CF.far (p := ⟨w0.heap.size, 0, none⟩) (by show w0.heap.size + 1 ≠ w0.heap.size; omega) (.slice A6 (acc.length + 1) k6)).cell 0; have HC9 := lH C9; have HCF := lH CF; have HK1 := lH hk1; have HB1 := lH hb1; have HO1 := lH hown1; clear C9 CF hk1 hb1 hown1))
         have hB3 : Below w0.heap.size w0 (w2.setCell ⟨w0.heap.size, 0, none⟩ (.slice A6 (acc.length + 1) k6)) :=
          ((hb0.next HWN.out nL).trans (HB1.out.mono (by omega))).setCell (p := ⟨w0.heap.size, 0, none⟩) nL _
         have hO3 : Blk (w2.setCell ⟨w0.heap.size, 0, none⟩ (.slice A6 (acc.length + 1) k6)) w0.heap.size 137 #[.slice A6 (acc.length + 1) k6] := HC9.out.set_ 0 _;have hF3 := HCF.out.far (p := ⟨w0.heap.size, 0, none⟩) (by show w0.heap.size + 1 ≠ w0.heap.size; omega) (.slice A6 (acc.length + 1) k6);have hW3 := Own.setCell HO1.out (p := ⟨w0.heap.size, 0, none⟩) (by show w0.heap.size < _; omega) (.slice A6 (acc.length + 1) k6);refine (IH.out (x + 1) (y + 1) (acc ++ [(x, y)]) _ _ HIn.out (by omega) (by omega) HIa.out hB3 hO3 hF3 hW3).mono ?_;rintro e w4 ⟨rfl, hb4, v4, hv4, hw4⟩
         have hcm : File.commonGo a b (n + 1) i j = (x, y) :: File.commonGo a b n (x + 1) (y + 1) := by
          rw [File.commonGo, ← HFst.out]
         rw [List.append_assoc] at hw4;have HW4 : Hid (Own pairE 136 (w0.heap.size + 2) w4 v4 (acc ++ File.commonGo a b (n + 1) i j)) := by rw [hcm]; exact hw4
         clear hw4 hcm;(go_wp2_with fail)
         first | (go_end0) | ((try simp only [Exit.inBlock, Exit.then]); refine bodyPost_ret (results_none rfl _ _ _) rfl ?_)
         exact ⟨rfl, hb4, v4, hv4, HW4.out⟩
        ·have HF3 : Hid ((ys.drop (q + 1)).find? (test a b F x j) = File.rowFirst a b F x (b.length - j) j) := by
          have := HQ2.out;rw [HT.out, decide_eq_false (by omega : ¬ (G + 1 = F))] at this;refine lH ?_
          simpa using this
         clear HQ2 HT HR;(go_wp2_with fail);go_roundw
         case rel => exact ⟨q + 1, by omega, by go_num, HF3, HBN.out⟩
         case measure => simp [intOf]; omega
       ·have HF3 : Hid ((ys.drop (q + 1)).find? (test a b F x j) = File.rowFirst a b F x (b.length - j) j) := by
         have := HQ2.out;rw [HT.out, decide_eq_false (by omega : ¬ (0 < F))] at this;refine lH ?_
         simpa using this
        clear HQ2 HT HR;(go_wp2_with fail);go_roundw
        case rel => exact ⟨q + 1, by omega, by go_num, HF3, HBN.out⟩
        case measure => simp [intOf]; omega
      ·have HF3 : Hid ((ys.drop (q + 1)).find? (test a b F x j) = File.rowFirst a b F x (b.length - j) j) := by
        have := HQ2.out;rw [HT.out, decide_eq_false (by omega : ¬ (j ≤ y))] at this;refine lH ?_
        simpa using this
       clear HQ2 HT HR;(go_wp2_with fail);go_roundw
       case rel => exact ⟨q + 1, by omega, by go_num, HF3, HBN.out⟩
       case measure => simp [intOf]; omega
     ·have hqe : q = ys.length := (by omega);have HN : Hid (none = File.rowFirst a b F x (b.length - j) j) := by have := HQ.out; rw [List.drop_of_length_le (by omega)] at this; exact this
      clear HQ HR;(go_wp2_with fail);go_roundw
      case rel =>
       refine ⟨x + 1, by omega, by omega, by go_num, ?_, hbr2.next hbq nL⟩;have := HG.out;rw [show a.length - x = (a.length - (x + 1)) + 1 by omega] at this;unfold File.firstGo at this;rw [← HN.out] at this;exact this
      case measure => simp [intOf]; omega
   ·have hx : x = a.length := (by omega);subst hx;have HN : Hid (none = File.first a b i j) := by have := HG.out; rw [Nat.sub_self] at this; exact this
    (go_wp2_with fail)
    go_end0
    refine ⟨rfl, hbw, v, Blk.under ho (hB2.next hbr nL), ?_⟩;have e : File.commonGo a b (n + 1) i j = [] := by unfold File.commonGo; rw [← HN.out]
    rw [e, List.append_nil];exact hown.below (hB2.next hbr nL)
end Fl
end
section
namespace Fl
open Go.RowKit Go.Maps Go.WideMaps Go.ChangeShapes
theorem groups_map {w : World} {B m n : Nat} {D : DataW Unit} (h : w.ownsGroups (H := Unit) Tryz.prog 9 B 3 .i64 m n D) : IsMap D := by
 obtain ⟨_, _, _, _, _, e, _⟩ := h;exact ⟨_, e⟩
theorem Blk.row {W w3 : World} {m B : Nat} {t : TypeId} {cs : Array Value} {v : Value} {zs : List Int} (h : Blk W m t cs) (hoi : W.ownsInts B 3 .i64 v zs) (hg : W.grownBy w3 v.ownBlock) (hm : m < B) : Blk w3 m t cs :=
 (hg.block m h.lt fun e => by have := (hoi.1.lt m e.symm).1; omega).trans h
theorem Blk.turned {W w3 : World} {m M : Nat} {t : TypeId} {cs : Array Value} (h : Blk W m t cs) (hg : W.grownBy w3 (some M)) (hm : m ≠ M) : Blk w3 m t cs :=
 (hg.block m h.lt fun e => by cases e; omega).trans h
theorem Only.grown {M : Nat} {w0 w w' : World} {row : Option Nat} (h : Only M w0 w) (hg : w.grownBy w' row) (hr : ∀ j, row = some j → w0.heap.size ≤ j ∨ j = M) (hM : M ≤ w0.heap.size) : Only M w0 w' := by
 have hs := h.below.size;refine ⟨⟨hg.os.trans h.below.os, hg.tape.trans h.below.tape, hg.output.trans h.below.output, Nat.le_trans hs hg.size, fun k hk => ?_⟩, fun k hk hne => ?_⟩
 ·refine (hg.block k (by omega) fun e => ?_).trans (h.below.block k hk)
  rcases hr k e.symm with h1 | h1 <;> omega
 ·refine (hg.block k (by omega) fun e => ?_).trans (h.other k hk hne)
  rcases hr k e.symm with h1 | h1 <;> omega
theorem common_spec (A : Option Addr) (a : List ByteArray) (c : Nat) (A' : Option Addr) (b : List ByteArray) (c' : Nat) (w : World) (hal : a.length ≤ 24) (hbl : b.length ≤ 24) (hsa : Sl strE w A a) (hsb : Sl strE w A' b) (ham : ∀ s ∈ a, s.size ≤ 1000) (hbm : ∀ s ∈ b, s.size ≤ 1000) :
  Calls Tryz.prog 82 #[.slice A a.length c, .slice A' b.length c'] w fun e w' => ∃ v, e = .returned v ∧ Own pairE 136 w.heap.size w' v (File.common a b) ∧ Below w.heap.size w w' := by
 have HL := lH (fun w1 hb => lens_spec A a c A' b c' w1 hal hbl (Sl.below (w' := w1) hsa hb) (hsb.below hb))
 go_enter Tryz.func82, Tryz.ntmps82
 have hmm := @run_makeMap Tryz.prog;have hBA : Below w.heap.size w (w.alloc (Obj.cells #[Value.slice A a.length c] 23)) := rB.alloc nL _;have hC0 : Blk (w.alloc (Obj.cells #[Value.slice A a.length c] 23)) w.heap.size 23 #[.slice A a.length c] := Blk.new _ _ _
 go_wp2_with (go_at_call 129; refine (HL.out _ hBA).mono ?_)
 rintro e w1 ⟨g, rfl, hG, hb1⟩;have hgl : w.heap.size < w1.heap.size := by have := hb1.size; simp at this; omega
 have hC1 : Blk w1 w.heap.size 23 #[.slice A a.length c] := hC0.under hb1;have hb2 := lH (hBA.next hb1 (by simp));have hgs : g < w1.heap.size := by obtain ⟨_, h, _⟩ := hG; exact h.lt
 clear HL hC0 hBA hb1;(go_wp2_with fail);have hW0 := lH (where_nil (w1.alloc (.cells #[.pointer (some ⟨g, 0, none⟩)] 176)) (.cells #[.map (some (w1.heap.size + 1))] 178));have hP := lH (((Blk.new w1 176 #[.pointer (some ⟨g, 0, none⟩)]).alloc (.map #[] 0)).alloc (.cells #[.map (some (w1.heap.size + 1))] 178));have hM := lH (Blk.new ((w1.alloc (.cells #[.pointer (some ⟨g, 0, none⟩)] 176)).alloc (.map #[] 0)) 178 #[.map (some (w1.heap.size + 1))]);have hb3 := lH ((((Below.refl w1.heap.size w1).alloc nL (.cells #[.pointer (some ⟨g, 0, none⟩)] 176)).alloc (by simp) (.map #[] 0)).alloc (by simp; omega) (.cells #[.map (some (w1.heap.size + 1))] 178));have hsz : (((w1.alloc (.cells #[.pointer (some ⟨g, 0, none⟩)] 176)).alloc (.map #[] 0)).alloc (.cells #[.map (some (w1.heap.size + 1))] 178)).heap.size = w1.heap.size + 3 := by simp
 have hM' := hM.out;simp at hM' hW0;generalize (((w1.alloc (.cells #[.pointer (some ⟨g, 0, none⟩)] 176)).alloc (.map #[] 0)).alloc (.cells #[.map (some (w1.heap.size + 1))] 178)) = w2 at *;clear hM
 go_loopw [17] (fun v wS => ∃ (k : Nat), k ≤ b.length ∧ v = iv (k : Int) ∧ Hid (Where wS (w1.heap.size + 1) (w1.heap.size + 3) (b.take k)) ∧ Hid (Only (w1.heap.size + 1) w2 wS)) (fun v _ => b.length - (intOf v).toNat)
 case atStart =>
  have h0 : Hid (Where w2 (w1.heap.size + 1) (w1.heap.size + 3) (b.take 0)) := hW0;exact ⟨0, Nat.zero_le _, rfl, h0, Only.refl _ _⟩
 case round =>
  obtain ⟨k, hk, rfl, HW, HO⟩ := hrel;have hgr : w2.heap.size ≤ wr.heap.size := HO.out.below.size;have hC2 : Blk wr w.heap.size 23 #[.slice A a.length c] := Blk.only ((Blk.below hC1 hb3.out hgl)) (by omega) HO.out;have hM2 : Blk wr (w1.heap.size + 1 + 1) 178 #[.map (some (w1.heap.size + 1))] := Blk.only hM' (by omega) HO.out
  by_cases hlt : k < b.length
  ·have hbw : Below w.heap.size w wr := (hb2.out.trans (hb3.out.mono (by omega))).trans (HO.out.below.mono (by omega));obtain ⟨ba, off, s, rfl, hba, hx, hc0⟩ := Sl.atS (hsb.below hbw) hlt;have hsm : s.size ≤ maxLen := by have := hbm s (List.mem_of_getElem? hx); unfold maxLen; omega
   have hlw : w1.heap.size + 3 ≤ wr.heap.size := (by omega);have hbd : Below wr.heap.size wr wr.drew := rB.drew;have hM2 := Blk.under hM2 hbd;obtain ⟨n, D, hn, hG2, hR⟩ := Where.below HW.out hbd;have HR := lH hR;have HG2 := lH hG2;have hnl : n < maxLen := by simp at hn; unfold maxLen; omega
   have hn' := lH hn;have hS0 : wr.drew.cell? ⟨w1.heap.size + 1 + 1, 0, none⟩ = some (.map (some (w1.heap.size + 1))) := hM2.cell 0;obtain ⟨v0, zs0, v2, zs2, hrun0, hrun2, L0, L2⟩ := look_both (.cells #[iv k] 3) HG2.out hnl hsm;have hrun3 : (Instr.lookup 178 (.map (some (w1.heap.size + 1))) (.string s) false).run Tryz.prog (wr.alloc (.cells #[iv k] 3)).drew = .ok v2 (wr.alloc (.cells #[iv k] 3)).drew := hrun2;clear hR hG2 hn HW
   go_upto_region 6 with fail
   go_region_held3 (fun a => a.cell? ⟨w1.heap.size + 1 + 1, 0, none⟩ = some (.map (some (w1.heap.size + 1)))) (first | assumption | exact (Blk.alloc hM2 _).cell 0)
    (first
     | (refine stepAppW rfl _ _ rfl (w := wr.drew) k (by omega) rfl L0.own (by have := hn'.out; have := L0.len; simp at *; omega) rfl rfl rfl (by simp; omega) ?_; intro v1 w3 hoi1 hgr1 hloc1; have hM3 := Blk.row (Blk.alloc hM2 _) L0.own hgr1 (by omega); have hS1 := Blk.cell hM3 0; obtain ⟨w4, hrun4, hG4, hgr4⟩ := L0.back w3 v1 _ hgr1 hoi1 (by have := L0.len; simp; omega) hloc1; have hM4 := Blk.turned hM3 hgr4 (by omega); have hS4 := Blk.cell hM4 0; have LL := L0)
     | (refine stepAppW rfl _ _ rfl (w := wr.drew) k (by omega) rfl L2.own (by have := hn'.out; have := L2.len; simp at *; omega) rfl rfl rfl (by simp; omega) ?_; intro v1 w3 hoi1 hgr1 hloc1; have hM3 := Blk.row (Blk.alloc hM2 _) L2.own hgr1 (by omega); have hS1 := Blk.cell hM3 0; obtain ⟨w4, hrun4, hG4, hgr4⟩ := L2.back w3 v1 _ hgr1 hoi1 (by have := L2.len; simp; omega) hloc1; have hM4 := Blk.turned hM3 hgr4 (by omega); have hS4 := Blk.cell hM4 0; have LL := L2))
   all_goals
    have hlk : (b.take k).length = k := by simp; omega
    have hW5 : Hid (Where w4 (w1.heap.size + 1) (w1.heap.size + 3) (b.take (k + 1))) := by
     rw [show b.take (k + 1) = b.take k ++ [s] by rw [List.take_add_one, hx]; rfl]
     exact where_snoc hlk hn'.out (groups_map HG2.out) HR.out hsm LL.at_ LL.own hoi1 hG4
    have hO5 : Hid (Only (w1.heap.size + 1) w2 w4) := by
     refine Only.grown (Only.grown (Only.grown (Only.drew HO.out) (World.grownBy_alloc _ (.cells #[iv k] 3) none) (by simp) (by omega)) hgr1 (fun j hj => .inl ?_) (by omega)) hgr4 (fun j hj => .inr (by simpa using hj.symm)) (by omega);have := (LL.own.1.lt j hj).1;omega
    clear hlk hoi1 hgr1 hloc1 hM3 hS1 hrun4 hG4 hgr4 hM4 hS4 LL L0 L2 hrun0 hrun2 hrun3 HG2 HR hn';(go_wp2_with fail);go_roundw
    case rel => exact ⟨k + 1, by omega, by go_num, hW5, hO5⟩
    case measure => simp [intOf]; omega
  ·have hke : k = b.length := (by omega);have hbw : Below w.heap.size w wr := (hb2.out.trans (hb3.out.mono (by omega))).trans (HO.out.below.mono (by omega));have hb13 : Below w1.heap.size w1 wr := hb3.out.trans (HO.out.below.mono (by omega));have hP2 : Blk wr w1.heap.size 176 #[bp g] := Blk.only hP.out (by omega) HO.out;have hWb : Where wr (w1.heap.size + 1) (w1.heap.size + 3) b := by have := HW.out; rw [hke, List.take_length] at this; exact this
   have HSC : Hid (Scene wr w.heap.size w1.heap.size (w1.heap.size + 1 + 1) g (w1.heap.size + 1) (w1.heap.size + 3) A c a b) :=
    ⟨hal, hbl, ham, hP2, hC2, hM2, hG.below hb13, by omega, hWb, hsa.below hbw⟩
   have hb4 : Below wr.heap.size wr ((wr.alloc (.cells #[.slice none 0 0] 137)).alloc (.cells #[.func (.func 130) #[] #[bp w1.heap.size, bp w.heap.size, bp (w1.heap.size + 1 + 1), bp wr.heap.size, bp (wr.heap.size + 1)]] 179)) := (rB.alloc nL _).alloc (by simp) _;have hO4 : Blk ((wr.alloc (.cells #[.slice none 0 0] 137)).alloc (.cells #[.func (.func 130) #[] #[bp w1.heap.size, bp w.heap.size, bp (w1.heap.size + 1 + 1), bp wr.heap.size, bp (wr.heap.size + 1)]] 179)) wr.heap.size 137 #[.slice none 0 0] := (Blk.new _ _ _).alloc _;have hF4 : Blk ((wr.alloc (.cells #[.slice none 0 0] 137)).alloc (.cells #[.func (.func 130) #[] #[bp w1.heap.size, bp w.heap.size, bp (w1.heap.size + 1 + 1), bp wr.heap.size, bp (wr.heap.size + 1)]] 179)) (wr.heap.size + 1) 179 #[.func (.func 130) #[] #[bp w1.heap.size, bp w.heap.size, bp (w1.heap.size + 1 + 1), bp wr.heap.size, bp (wr.heap.size + 1)]] := Blk.new_ _ _ _ (by simp)
   clear hC2 hM2 hP2 hWb HW HO hG hb13;(go_wp2_with fail);refine (more_spec HSC (a.length + 1) 0 0 [] (.slice none 0 0) _ (by omega) (Nat.zero_le _) (Nat.zero_le _) (by simp; omega) hb4 hO4 hF4 Own.nil).mono ?_;rintro e w5 ⟨rfl, hb5, v5, hv5, hw5⟩;have hbF : Below w.heap.size w w5 := hbw.next hb5 nL;have c9 := hv5.cell 0;have hwF : Own pairE 136 w.heap.size w5 v5 (File.common a b) := Own.base hw5 (by have := hbw.size; omega);clear hw5 hv5 hb5 hO4 hF4 hb4 HSC;(go_wp2_with fail);go_ret;exact ⟨v5, rfl, hwF, hbF⟩
end Fl
end
section
namespace Fl
open Go.RowKit Go.Maps Go.WideMaps Go.ChangeShapes
def errOf (a b : List ByteArray) : Int := if File.check a = 0 then File.check b else File.check a
theorem tyArr2 : SlTy Tryz.prog 65 75 2 := slTy_of (z := .agg #[iv 0, iv 0]) (bytes := 16) Tryz.underlying65 (by kernel_rfl) rfl (by decide)
theorem err_good {a b : List ByteArray} (h : errOf a b = 0) : File.check a = 0 ∧ File.check b = 0 := by
 unfold errOf at h
 split at h
 ·exact ⟨by assumption, h⟩
 ·omega
theorem Common_spec (A : Option Addr) (a : List ByteArray) (c : Nat) (A' : Option Addr) (b : List ByteArray) (c' : Nat) (w : World) (ha : a.length ≤ big) (hb : b.length ≤ big) (hsa : Sl strE w A a) (hsb : Sl strE w A' b) :
  Calls Tryz.prog 42 #[.slice A a.length c, .slice A' b.length c'] w fun e w' => ∃ v, e = .returned (.tuple #[v, iv (errOf a b)]) ∧ Own pairE 75 w.heap.size w' v (if errOf a b = 0 then File.common a b else []) ∧ Below w.heap.size w w' := by
 have HB := lH (both_spec A a c A' b c' w ha hb hsa hsb)
 by_cases h : errOf a b = 0
 ·have h1 := err_good h;have g1 := good_of_check h1.1;have g2 := good_of_check h1.2;rw [h, if_pos rfl];have HB2 : Hid (Calls Tryz.prog 27 #[.slice A a.length c, .slice A' b.length c'] w fun e w' => e = .returned (iv 0) ∧ Below w.heap.size w w') := lH (HB.out.mono (by rintro e w' ⟨rfl, hb'⟩; exact ⟨by rw [show (if File.check a = 0 then File.check b else File.check a) = 0 from h], hb'⟩));clear HB h
  go_enter Tryz.func42, Tryz.ntmps42
  (go_wp2_with fail);refine HB2.out.mono ?_;rintro e w1 ⟨rfl, hb1⟩;(go_wp2_with fail);refine (common_spec A a c A' b c' w1 g1.many g2.many (hsa.below hb1) (hsb.below hb1) (fun s hs => Nat.le_trans (g1.wide s hs) (by decide)) (fun s hs => Nat.le_trans (g2.wide s hs) (by decide))).mono ?_;rintro e w2 ⟨v, rfl, hv, hb2⟩;obtain ⟨X, cx, rfl, hcx, hmx⟩ := hv.form;have hb02 : Below w.heap.size w w2 := hb1.next hb2 nL;have hsl := hv.sl;have hll : (File.common a b).length ≤ 24 := by rw [File.common_length]; exact Nat.le_trans (File.lcs_most a b) g1.many
  obtain ⟨l, hl⟩ : ∃ l, l = File.common a b := ⟨_, rfl⟩;rw [← hl] at hsl hll;rw [← hl];have HL := lH hl;clear hl hv;(go_wp2_with fail)
  go_loopw [7, 20] (fun u i wr => ∃ k : Nat, k ≤ l.length ∧ i = iv (k : Int) ∧ Hid (Own pairE 75 w2.heap.size wr u (l.take k)) ∧ Hid (Below w2.heap.size w2 wr)) (fun _ i _ => l.length - (intOf i).toNat)
  case atStart => exact ⟨0, Nat.zero_le _, rfl, Own.nil, rB⟩
  case round =>
   obtain ⟨k, hk, rfl, HO, HBR⟩ := hrel
   by_cases hlt : k < l.length
   ·obtain ⟨bx, ox, p, rfl, hbx, hp, hc⟩ := Sl.at_ (hsl.below HBR.out) hlt;obtain ⟨x, y⟩ := p;have q0 : wr.cell? ⟨bx, ox + k * 2, none⟩ = some (iv (x : Int)) := by simpa [pairE] using hc 0 (iv (x : Int)) rfl
    have q1 : wr.cell? ⟨bx, ox + k * 2 + 1, none⟩ = some (iv (y : Int)) := by simpa [pairE] using hc 1 (iv (y : Int)) rfl
    have hzr := HBR.out.size;clear hc
    go_upto_region 8 with fail
    have hNb : Below wr.heap.size wr (wr.alloc (.cells #[Value.int .i64 (x : Int), Value.int .i64 (y : Int)] 136)) := rB.alloc nL _;have hNx : Blk (wr.alloc (.cells #[Value.int .i64 (x : Int), Value.int .i64 (y : Int)] 136)) wr.heap.size 136 #[iv (x : Int), iv (y : Int)] := Blk.new _ _ _;generalize wr.alloc (.cells #[Value.int .i64 (x : Int), Value.int .i64 (y : Int)] 136) = wN at *;have n0 := hNx.cell 0;have n1 := hNx.cell 1;have hzN := hNb.size;have HON := lH (Own.below HO.out hNb);have HBN := lH (HBR.out.next hNb nL);have hkl : (l.take k).length + 1 ≤ big := by rw [List.length_take]; unfold big; omega
    have htk : Hid (l.take (k + 1) = l.take k ++ [(x, y)]) := lH (by rw [List.take_add_one, hp]; rfl);clear q0 q1 HO HBR hNb hp
    go_wp2_with (first
     | (at_builtin; refine wpApp1 pairE tyArr2 rfl _ _ rfl HON.out (x, y) rfl rfl rfl (by omega) hkl ?_; intro v1 w4 hown1 hb1 hk1))
    go_roundw
    case rel => exact ⟨k + 1, by omega, by go_num, by rw [htk.out]; exact hown1, HBN.out.trans hb1⟩
    case measure => simp [intOf]; omega
   ·have hke : k = l.length := (by omega);have hOF := HO.out;rw [hke, List.take_length] at hOF;have hbF : Below w.heap.size w wr := hb02.next HBR.out nL;have hOw := lH (Own.base hOF hb02.size);clear HO hOF HBR;(go_wp2_with fail);go_ret2;refine ⟨_, rfl, ?_, hbF⟩;rw [← HL.out];exact hOw.out
 ·rw [if_neg h];have HB2 : Hid (Calls Tryz.prog 27 #[.slice A a.length c, .slice A' b.length c'] w fun e w' => e = .returned (iv (errOf a b)) ∧ Below w.heap.size w w') := lH HB.out;clear HB;obtain ⟨r, hr⟩ : ∃ r, r = errOf a b := ⟨_, rfl⟩;rw [← hr] at HB2 h;rw [← hr];have hne : (r != 0) = true := by simpa using h
  clear hr h
  go_enter Tryz.func42, Tryz.ntmps42
  (go_wp2_with fail);refine HB2.out.mono ?_;rintro e w1 ⟨rfl, hb1⟩;(go_wp2_with fail);go_ret2;exact ⟨_, rfl, Own.nil, hb1⟩
end Fl
end
section
namespace Fl
open Go.RowKit Go.Maps Go.WideMaps Go.ChangeShapes
theorem err_zero {a b : List ByteArray} (h : errOf a b = 0) {A A' : Option Addr} {c c' : Nat} {w : World} (H : Calls Tryz.prog 27 #[.slice A a.length c, .slice A' b.length c'] w fun e w' => e = .returned (iv (if File.check a = 0 then File.check b else File.check a)) ∧ Below w.heap.size w w') :
  Calls Tryz.prog 27 #[.slice A a.length c, .slice A' b.length c'] w fun e w' => e = .returned (iv 0) ∧ Below w.heap.size w w' :=
 H.mono (by rintro e w' ⟨rfl, hb'⟩; exact ⟨by rw [show (if File.check a = 0 then File.check b else File.check a) = 0 from h], hb'⟩)
theorem results_row_tmp {fn : Func} {p u : Tmp} {ty : TypeId} (h : fn.results = #[.cell p ty, .tmp u]) (tmps : Array Value) (w : World) (g : Nat) (v : Value)
  (hp : tmps.getD p undef = .pointer (some ⟨g, 0, none⟩)) (hl : (loadVar ty ⟨g, 0, none⟩).run Tryz.prog w = .ok v w) :
  (results fn tmps).run Tryz.prog w = .ok (.tuple #[v, tmps.getD u undef]) w := by
 have hp' : tmps[p]?.getD undef = .pointer (some ⟨g, 0, none⟩) := by simpa using hp
 simp [results, h, hp', asAddr, hl]
theorem ratio_row {w : World} {g : Nat} {x y : Value} (h : Blk w g 67 #[x, y]) : (loadVar 67 ⟨g, 0, none⟩).run Tryz.prog w = .ok (.agg #[x, y]) w :=
 run_loadVar_row w g 67 67 #[x, y] (0, 0) _ h Tryz.underlying67 (by rfl) (by kernel_rfl)
theorem quot_in {p x : Nat} (hp : p ≤ 48) : IntKind.i64.wrap ((p / x : Nat) : Int) = ((p / x : Nat) : Int) := by
 have h := Nat.div_le_self p x;have h3 : ((p / x : Nat) : Int) ≤ 48 := (by omega);have h4 : (0 : Int) ≤ ((p / x : Nat) : Int) := Int.natCast_nonneg _;generalize ((p / x : Nat) : Int) = z at *;exact IntWalk.i64_in _ (by omega)
def alikeOf (a b : List ByteArray) : Int × Int × Int :=
 if errOf a b = 0 then
  if a.length + b.length = 0 then (0, 0, 6)
  else (((2 * (File.common a b).length / Nat.gcd (2 * (File.common a b).length) (a.length + b.length) : Nat) : Int), (((a.length + b.length) / Nat.gcd (2 * (File.common a b).length) (a.length + b.length) : Nat) : Int), 0)
 else (0, 0, errOf a b)
theorem Alike_spec (A : Option Addr) (a : List ByteArray) (c : Nat) (A' : Option Addr) (b : List ByteArray) (c' : Nat) (w : World) (ha : a.length ≤ big) (hb : b.length ≤ big) (hsa : Sl strE w A a) (hsb : Sl strE w A' b) :
  Calls Tryz.prog 43 #[.slice A a.length c, .slice A' b.length c'] w fun e w' => e = .returned (.tuple #[.agg #[iv (alikeOf a b).1, iv (alikeOf a b).2.1], iv (alikeOf a b).2.2]) ∧ Below w.heap.size w w' := by
 have hR : Below w.heap.size w (w.alloc (.cells #[Value.int .i64 0, Value.int .i64 0] 67)) := rB.alloc nL _;have hRb : Blk (w.alloc (.cells #[Value.int .i64 0, Value.int .i64 0] 67)) w.heap.size 67 #[iv 0, iv 0] := Blk.new _ _ _;have HB := lH (both_spec A a c A' b c' (w.alloc (.cells #[Value.int .i64 0, Value.int .i64 0] 67)) ha hb (hsa.below hR) (hsb.below hR));unfold alikeOf
 by_cases h : errOf a b = 0
 ·have h1 := err_good h;have g1 := good_of_check h1.1;have g2 := good_of_check h1.2;have m1 := g1.many;have m2 := g2.many;rw [if_pos h];have HB2 := lH (err_zero h HB.out);clear HB h
  by_cases hz : a.length + b.length = 0
  ·rw [if_pos hz];have hq : ((a.length : Int) + b.length == 0) = true := by simp; omega
   clear hz
   go_enter Tryz.func43, Tryz.ntmps43
   (go_wp2_with fail);refine HB2.out.mono ?_;rintro e w1 ⟨rfl, hb1⟩;have hb2 := hR.next hb1 nL;have r0 := (hRb.under hb1).cell 0;have r1 := (hRb.under hb1).cell 1;have f0 := (hRb.under hb1).frozen 0;have f1 := (hRb.under hb1).frozen 1;(go_wp2_with fail);exact bodyPost_ret (results_row_tmp (fn := Tryz.f43) (p := 4) (u := 5) (ty := 67) (by kernel_rfl) _ _ w.heap.size _ (by rfl) (ratio_row (((hRb.under hb1).set_ 0 (iv 0)).set_ 1 (iv 0)))) rfl ⟨rfl, (hb2.setCell (p := ⟨w.heap.size, 0, none⟩) nL _).setCell (p := ⟨w.heap.size, 1, none⟩) nL _⟩
  ·rw [if_neg hz];have hq : ((a.length : Int) + b.length == 0) = false := by simp; omega
   go_enter Tryz.func43, Tryz.ntmps43
   (go_wp2_with fail);refine HB2.out.mono ?_;rintro e w1 ⟨rfl, hb1⟩;(go_wp2_with fail);have HRB := lH (hRb.under hb1);have hb2 := hR.next hb1 nL;refine (common_spec A a c A' b c' w1 m1 m2 (hsa.below hb2) (hsb.below hb2) (fun s hs => Nat.le_trans (g1.wide s hs) (by decide)) (fun s hs => Nat.le_trans (g2.wide s hs) (by decide))).mono ?_;rintro e w2 ⟨v, rfl, hv, hb3⟩;obtain ⟨X, cx, rfl, hcx, hmx⟩ := hv.form;have hb4 : Below w.heap.size w w2 := hb2.next hb3 nL;have hll : (File.common a b).length ≤ 24 := by rw [File.common_length]; exact Nat.le_trans (File.lcs_most a b) g1.many
   obtain ⟨n, hl⟩ : ∃ n, n = (File.common a b).length := ⟨_, rfl⟩;rw [← hl] at hll;rw [← hl];have HL := lH hl;have HRB2 := lH (Blk.under HRB.out hb3);clear hl hv;(go_wp2_with fail);obtain ⟨D, hD⟩ : ∃ D, D = Nat.gcd (2 * n) (a.length + b.length) := ⟨_, rfl⟩
   go_loopw [9, 10] (fun u v wr => ∃ x y : Nat, x ≤ 48 ∧ y ≤ 48 ∧ u = iv (x : Int) ∧ v = iv (y : Int) ∧ Hid (Nat.gcd x y = D) ∧ Below w2.heap.size w2 wr) (fun _ v _ => (intOf v).toNat)
   case atStart => exact ⟨2 * n, a.length + b.length, by omega, by omega, by simp, by simp, hD.symm, rB⟩
   case round =>
    obtain ⟨x, y, hx, hy, rfl, rfl, HG, hbr⟩ := hrel
    by_cases hlt : 0 < y
    ·have hy0 : ¬ ((y : Int) = 0) := (by omega);have hyq : ((y : Int) == 0) = false := by simp; omega
     have hlt' : (0 : Int) < (y : Int) := (by omega);have hmod : Int.tmod (x : Int) (y : Int) = ((x % y : Nat) : Int) := by rw [Int.tmod_eq_emod_of_nonneg (by omega)]; rfl
     have hml : x % y < y := Nat.mod_lt _ hlt;have HGn : Hid (Nat.gcd y (x % y) = D) := lH (by have := HG.out; rw [Nat.gcd_comm, Nat.gcd_rec] at this; rw [Nat.gcd_comm]; exact this)
     go_upto_region 9 with fail
     go_quiet (fail)
     (go_wp2_with fail);refine ⟨⟨y, x % y, hy, by omega, rfl, by simp, HGn, ⟨hbr.os, hbr.tape, hbr.output, hbr.size, hbr.block⟩⟩, ?_⟩;simp only [intOf];omega
    ·have hy0 : y = 0 := (by omega);subst hy0;have hxD : x = D := by have := HG.out; rw [Nat.gcd_zero_right] at this; exact this
     have hDp : 0 < D := by rw [hD]; exact Nat.gcd_pos_of_pos_right _ (by omega)
     have hxq : ((x : Int) == 0) = false := by simp; omega
     have hx0 : ¬ ((x : Int) = 0) := (by omega);have hxn : ¬ x = 0 := (by omega);have hxp : (0 : Int) < (x : Int) := (by omega);have hdx : Hid (2 * n / x = 2 * (File.common a b).length / Nat.gcd (2 * (File.common a b).length) (a.length + b.length) ∧ (a.length + b.length) / x = (a.length + b.length) / Nat.gcd (2 * (File.common a b).length) (a.length + b.length)) := lH (by rw [hxD, hD, HL.out]; exact ⟨rfl, rfl⟩);have hbz : Below w.heap.size w wr := hb4.next hbr nL
     have Q : Hid (2 * (n : Int) / (x : Int) = ((2 * n / x : Nat) : Int) ∧ ((a.length : Int) + b.length) / (x : Int) = (((a.length + b.length) / x : Nat) : Int) ∧ Int.tdiv (2 * (n : Int)) (x : Int) = ((2 * n / x : Nat) : Int) ∧ Int.tdiv ((a.length : Int) + b.length) (x : Int) = (((a.length + b.length) / x : Nat) : Int) ∧
       IntKind.i64.wrap ((2 * n / x : Nat) : Int) = ((2 * n / x : Nat) : Int) ∧ IntKind.i64.wrap (((a.length + b.length) / x : Nat) : Int) = (((a.length + b.length) / x : Nat) : Int) ∧ (∀ z, wrap64 z = IntKind.i64.wrap z)) := lH (by
      refine ⟨by simp, by simp, by rw [Int.tdiv_eq_ediv_of_nonneg (by omega)]; simp, by rw [Int.tdiv_eq_ediv_of_nonneg (by omega)]; simp, quot_in (by omega), quot_in (by omega), fun z => (IntWalk.i64_left z).symm⟩)
     clear hxD hD hDp;have HRr := Blk.under (Blk.under HRB2.out hbr) ((Below.refl _ wr).drew);have r0 : wr.drew.cell? ⟨w.heap.size, 0, none⟩ = some (iv 0) := HRr.cell 0;have r1 : wr.drew.cell? ⟨w.heap.size, 1, none⟩ = some (iv 0) := HRr.cell 1;have f0 := HRr.frozen 0;have f1 := HRr.frozen 1;have HRs := Blk.under HRB2.out hbr;have s0 : wr.cell? ⟨w.heap.size, 0, none⟩ = some (iv 0) := HRs.cell 0;have s1 : wr.cell? ⟨w.heap.size, 1, none⟩ = some (iv 0) := HRs.cell 1;have t0 := HRs.frozen 0;have t1 := HRs.frozen 1
     go_upto_region 10 with fail
     go_region_held3 (fun _ => True) (trivial) (fail)
     all_goals
      (go_wp2_with fail);obtain ⟨z1, z2, z3, z4, z5, z6, z7⟩ := Q.out;simp only [z7, z1, z2, z3, z4, z5, z6];rw [hdx.out.1, hdx.out.2];exact bodyPost_ret (results_row_tmp (fn := Tryz.f43) (p := 4) (u := 5) (ty := 67) (by kernel_rfl) _ _ w.heap.size _ (by rfl) (ratio_row (Blk.under ((HRs.set_ 0 (iv _)).set_ 1 (iv _)) (rB.drew)))) rfl ⟨rfl, ((hbz.setCell (p := ⟨w.heap.size, 0, none⟩) nL _).setCell (p := ⟨w.heap.size, 1, none⟩) nL _).drew⟩
 ·rw [if_neg h];have HB2 : Hid (Calls Tryz.prog 27 #[.slice A a.length c, .slice A' b.length c'] (w.alloc (.cells #[Value.int .i64 0, Value.int .i64 0] 67)) fun e w' => e = .returned (iv (errOf a b)) ∧ Below (w.alloc (.cells #[Value.int .i64 0, Value.int .i64 0] 67)).heap.size (w.alloc (.cells #[Value.int .i64 0, Value.int .i64 0] 67)) w') := lH HB.out;clear HB;obtain ⟨r, hr⟩ : ∃ r, r = errOf a b := ⟨_, rfl⟩;rw [← hr] at HB2 h;rw [← hr];have hne : (r != 0) = true := by simpa using h
  clear hr h
  go_enter Tryz.func43, Tryz.ntmps43
  (go_wp2_with fail);refine HB2.out.mono ?_;rintro e w1 ⟨rfl, hb1⟩;have hb2 := hR.next hb1 nL;have r0 := (hRb.under hb1).cell 0;have r1 := (hRb.under hb1).cell 1;have f0 := (hRb.under hb1).frozen 0;have f1 := (hRb.under hb1).frozen 1;(go_wp2_with fail);exact bodyPost_ret (results_row_tmp (fn := Tryz.f43) (p := 4) (u := 5) (ty := 67) (by kernel_rfl) _ _ w.heap.size _ (by rfl) (ratio_row (((hRb.under hb1).set_ 0 (iv 0)).set_ 1 (iv 0)))) rfl ⟨rfl, (hb2.setCell (p := ⟨w.heap.size, 0, none⟩) nL _).setCell (p := ⟨w.heap.size, 1, none⟩) nL _⟩
end Fl
end
section
namespace File
set_option linter.unusedSectionVars false
section
variable {α : Type} [DecidableEq α]
structure Edit (α : Type) where
 at_ : Int
 old : List α
 new : List α
deriving DecidableEq
def cut (a : List α) (i k : Nat) : List α := (a.drop i).take (k - i)
def diffGo (a b : List α) : Nat → Nat → List (Nat × Nat) → List (Edit α)
 | _, _, [] => []
 | i, j, p :: r => (if p.1 = i ∧ p.2 = j then [] else [⟨(i : Int), cut a i p.1, cut b j p.2⟩]) ++ diffGo a b (p.1 + 1) (p.2 + 1) r
def diff (a b : List α) : List (Edit α) := diffGo a b 0 0 (common a b ++ [(a.length, b.length)])
def made (f : List α) (x : Edit α) : List α := f.take x.at_.toNat ++ (x.new ++ f.drop (x.at_.toNat + x.old.length))
def make (f : List α) (c : List (Edit α)) : List α := c.foldr (fun x g => made g x) f
def backGo : Int → List (Edit α) → List (Edit α)
 | _, [] => []
 | n, x :: r => ⟨x.at_ + n, x.new, x.old⟩ :: backGo (n + x.new.length - x.old.length) r
def back (c : List (Edit α)) : List (Edit α) := backGo 0 c
def cost : List (Edit α) → Nat
 | [] => 0
 | x :: r => x.old.length + x.new.length + cost r
theorem cut_length {a : List α} {i k : Nat} (hk : k ≤ a.length) (h : i ≤ k) : (cut a i k).length = k - i := by
 unfold cut; rw [List.length_take, List.length_drop]; omega
def swap (l : List (Nat × Nat)) : List (Nat × Nat) := l.map fun p => (p.2, p.1)
theorem pairs_swap {a b : List α} : ∀ {l : List (Nat × Nat)} {i j : Nat}, Pairs a b i j l → Pairs b a j i (swap l)
 | [], _, _, _ => trivial
 | _ :: _, _, _, ⟨h1, h2, ⟨h3, h4, h5⟩, h6⟩ => ⟨h2, h1, ⟨h4, h3, h5.symm⟩, pairs_swap h6⟩
theorem back_go {a b : List α} : ∀ (l : List (Nat × Nat)) (i j : Nat), Pairs a b i j l → i ≤ a.length → j ≤ b.length → backGo ((j : Int) - i) (diffGo a b i j (l ++ [(a.length, b.length)])) = diffGo b a j i (swap l ++ [(b.length, a.length)]) := by
 intro l
 induction l with
 | nil =>
  intro i j _ hi hj;simp only [List.nil_append, diffGo, swap, List.map_nil, List.append_nil]
  by_cases h : a.length = i ∧ b.length = j
  ·rw [if_pos h, if_pos ⟨h.2, h.1⟩]; rfl
  ·rw [if_neg h, if_neg (fun e => h ⟨e.2, e.1⟩)];simp only [backGo]
   congr 2
   omega
 | cons p r ih =>
  intro i j ⟨h1, h2, ⟨h3, h4, h5⟩, h6⟩ hi hj;have := ih (p.1 + 1) (p.2 + 1) h6 (by omega) (by omega);rw [show ((p.2 + 1 : Nat) : Int) - ((p.1 + 1 : Nat) : Int) = (p.2 : Int) - p.1 by omega] at this;simp only [List.cons_append, diffGo, swap, List.map_cons]
  by_cases h : p.1 = i ∧ p.2 = j
  ·rw [if_pos h, if_pos ⟨h.2, h.1⟩];simp only [List.nil_append];obtain ⟨h7, h8⟩ := h;subst h7 h8;exact this
  ·rw [if_neg h, if_neg (fun e => h ⟨e.2, e.1⟩)];simp only [List.cons_append, List.nil_append, backGo];rw [cut_length (Nat.le_of_lt h3) h1, cut_length (Nat.le_of_lt h4) h2]
   congr 1
   ·congr 1
    omega
   ·have h9 : (j : Int) - i + ((p.2 - j : Nat) : Int) - ((p.1 - i : Nat) : Int) = (p.2 : Int) - p.1 := (by omega);rw [h9];exact this
theorem back_back_go : ∀ (c : List (Edit α)) (n : Int), backGo (-n) (backGo n c) = c := by
 intro c
 induction c with
 | nil => intro n; rfl
 | cons x r ih =>
  intro n;simp only [backGo]
  congr 1
  ·cases x; simp; omega
  ·have := ih (n + x.new.length - x.old.length);rw [show -n + (x.old.length : Int) - x.new.length = -(n + x.new.length - x.old.length) by omega];exact this
theorem back_back (c : List (Edit α)) : back (back c) = c := by
 have := back_back_go c 0
 simpa [back] using this
theorem cost_append (c d : List (Edit α)) : cost (c ++ d) = cost c + cost d := by
 induction c with
 | nil => simp [cost]
 | cons x r ih => simp only [List.cons_append, cost, ih]; omega
theorem cost_go {a b : List α} : ∀ (l : List (Nat × Nat)) (i j : Nat), Pairs a b i j l → i ≤ a.length → j ≤ b.length → cost (diffGo a b i j (l ++ [(a.length, b.length)])) + 2 * l.length = (a.length - i) + (b.length - j) := by
 intro l
 induction l with
 | nil =>
  intro i j _ hi hj;simp only [List.nil_append, diffGo, List.append_nil]
  split
  ·rename_i h
   obtain ⟨h1, h2⟩ := h;simp [cost]; omega
  ·simp only [cost, cut_length (Nat.le_refl a.length) hi, cut_length (Nat.le_refl b.length) hj];simp
 | cons p r ih =>
  intro i j ⟨h1, h2, ⟨h3, h4, h5⟩, h6⟩ hi hj;have := ih (p.1 + 1) (p.2 + 1) h6 (by omega) (by omega);simp only [List.cons_append, diffGo, cost_append, List.length_cons]
  split
  ·rename_i h
   obtain ⟨h7, h8⟩ := h;simp only [cost];omega
  ·simp only [cost, cut_length (Nat.le_of_lt h3) h1, cut_length (Nat.le_of_lt h4) h2];omega
theorem cost_diff (a b : List α) : cost (diff a b) + 2 * (common a b).length = a.length + b.length := by
 have := cost_go (common a b) 0 0 (common_pairs a b) (Nat.zero_le _) (Nat.zero_le _)
 simpa [diff] using this
end
end File
end
section
namespace Fl
open Go.RowKit Go.ChangeShapes
theorem cloneS (A : Option Addr) (l : List ByteArray) (c : Nat) (w : World) (hm : l.length ≤ big) (hs : Sl strE w A l) :
  Calls Tryz.prog 19 #[.slice A l.length c] w fun e w' => ∃ v, e = .returned v ∧ Own strE 9 w.heap.size w' v l ∧ Below w.heap.size w w' := by
 cases A with
 | none =>
  have hl : l = [] := by
   by_cases h : l = []
   ·exact h
   ·obtain ⟨_, _, h, _⟩ := hs h; cases h
  subst hl;have hnil := fun w => Lib.run_eql_slice_nil (P := Tryz.prog) w 23 9 none 0 c 0 0 Tryz.underlying23
  go_enter Tryz.func19, Tryz.ntmps19
  go_wp2
  go_ret;exact ⟨_, rfl, Own.nil, rB⟩
 | some ad =>
  have hnil := fun w => Lib.run_eql_slice_nil (P := Tryz.prog) w 23 9 (some ad) l.length c 0 0 Tryz.underlying23
  go_enter Tryz.func19, Tryz.ntmps19
  go_wp2_with (at_builtin; refine wpAppS strE tyStrs rfl _ _ rfl (Own.empty nL) (hs.alloc _) rfl rfl (by simp) (by simpa using hm) ?_; intro v1 w1 hown1 hb1 _)
  go_ret;exact ⟨_, rfl, by simpa using hown1, (rB.alloc nL _).trans hb1⟩
theorem dupS (A : Option Addr) (l : List ByteArray) (c : Nat) (w : World) (hm : l.length ≤ big) (hs : Sl strE w A l) :
  Calls Tryz.prog 32 #[.slice A l.length c] w fun e w' => ∃ v, e = .returned v ∧ Own strE 9 w.heap.size w' v l ∧ Below w.heap.size w w' := by
 go_enter Tryz.func32, Tryz.ntmps32
 go_wp2_with (first
  | (at_make; refine wpMake0 strE tyStrs rfl _ _ rfl l.length rfl rfl hm ?_; intro w1 hown1 hb1)
  | (at_builtin; refine wpAppS strE tyStrs rfl _ _ rfl hown1 (hs.below hb1) rfl rfl hb1.size (by simpa using hm) ?_; intro v2 w2 hown2 hb2 _))
 go_ret;exact ⟨_, rfl, by simpa using hown2, hb1.trans hb2⟩
structure RawEd where
 at_ : Int
 A : Option Addr
 n : Nat
 c : Nat
 A' : Option Addr
 n' : Nat
 c' : Nat
def rawE : Enc RawEd := ⟨fun r => [iv r.at_, .slice r.A r.n r.c, .slice r.A' r.n' r.c'], 3, fun _ => rfl, fun _ u h => by simp at h; rcases h with rfl | rfl | rfl <;> rfl, by decide⟩
theorem tyEdits : SlTy Tryz.prog 32 36 3 := slTy_of (z := .agg #[iv 0, .slice none 0 0, .slice none 0 0]) (bytes := 56) Tryz.underlying32 (by kernel_rfl) rfl (by decide)
structure EdR (B : Nat) (w : World) (r : RawEd) (x : File.Edit ByteArray) : Prop where
 at_ : r.at_ = x.at_
 n : r.n = x.old.length
 n' : r.n' = x.new.length
 old : Own strE 9 B w (.slice r.A r.n r.c) x.old
 new : Own strE 9 B w (.slice r.A' r.n' r.c') x.new
def Strs (B : Nat) (w w' : World) : Prop := w.heap.size ≤ w'.heap.size ∧ ∀ g cs fr, B ≤ g → w.heap[g]? = some (.cells cs 9 fr) → w'.heap[g]? = w.heap[g]?
theorem Strs.below {B : Nat} {w w' : World} (h : Below w.heap.size w w') : Strs B w w' := ⟨h.size, fun g cs fr _ hg => h.block g (Array.getElem?_eq_some_iff.1 hg).1⟩
theorem Strs.own {B : Nat} {w w' : World} {v : Value} {xs : List ByteArray} (h : Strs B w w') (ho : Own strE 9 B w v xs) : Own strE 9 B w' v xs :=
 ho.keep h.1 fun b hb => by
  have hl := ho.lt b hb
  rcases ho.2 with ⟨rfl, _⟩ | ⟨g, cap, cur, rfl, hg, hc, _⟩
  ·cases hb
  ·simp only [Value.ownBlock, Option.some.injEq] at hb;subst hb;exact h.2 _ _ _ hl.1 hc
theorem EdR.keep {B : Nat} {w w' : World} {r : RawEd} {x : File.Edit ByteArray} (h : EdR B w r x) (hb : Strs B w w') : EdR B w' r x := ⟨h.at_, h.n, h.n', hb.own h.old, hb.own h.new⟩
theorem EdR.base {B B' : Nat} {w : World} {r : RawEd} {x : File.Edit ByteArray} (h : EdR B w r x) (hB : B' ≤ B) : EdR B' w r x := ⟨h.at_, h.n, h.n', h.old.base hB, h.new.base hB⟩
def EdsR (B : Nat) (w : World) : List RawEd → List (File.Edit ByteArray) → Prop
 | [], [] => True
 | r :: rs, x :: xs => EdR B w r x ∧ EdsR B w rs xs
 | _, _ => False
theorem EdsR.keep {B : Nat} {w w' : World} (hb : Strs B w w') : ∀ {rs : List RawEd} {xs : List (File.Edit ByteArray)}, EdsR B w rs xs → EdsR B w' rs xs
 | [], [], _ => trivial
 | _ :: _, _ :: _, h => ⟨h.1.keep hb, EdsR.keep hb h.2⟩
theorem EdsR.base {B B' : Nat} {w : World} (hB : B' ≤ B) : ∀ {rs : List RawEd} {xs : List (File.Edit ByteArray)}, EdsR B w rs xs → EdsR B' w rs xs
 | [], [], _ => trivial
 | _ :: _, _ :: _, h => ⟨h.1.base hB, EdsR.base hB h.2⟩
theorem EdsR.snoc {B : Nat} {w : World} {r : RawEd} {x : File.Edit ByteArray} (h : EdR B w r x) : ∀ {rs : List RawEd} {xs : List (File.Edit ByteArray)}, EdsR B w rs xs → EdsR B w (rs ++ [r]) (xs ++ [x])
 | [], [], _ => ⟨h, trivial⟩
 | _ :: _, _ :: _, k => ⟨k.1, EdsR.snoc h k.2⟩
theorem EdsR.length {B : Nat} {w : World} : ∀ {rs : List RawEd} {xs : List (File.Edit ByteArray)}, EdsR B w rs xs → rs.length = xs.length
 | [], [], _ => rfl
 | _ :: _, _ :: _, h => by rw [List.length_cons, List.length_cons, EdsR.length h.2]
theorem EdsR.at_ {B : Nat} {w : World} : ∀ {rs : List RawEd} {xs : List (File.Edit ByteArray)} {k : Nat} {r : RawEd}, EdsR B w rs xs → rs[k]? = some r → ∃ x, xs[k]? = some x ∧ EdR B w r x
 | [], [], _, _, _, h => by simp at h
 | r :: _, x :: _, 0, _, h, e => by simp at e; subst e; exact ⟨x, rfl, h.1⟩
 | _ :: _, _ :: _, k + 1, _, h, e => by simpa using EdsR.at_ (k := k) h.2 (by simpa using e)
end Fl
end
section
namespace File
set_option linter.unusedSectionVars false
section
variable {α : Type} [DecidableEq α]
def Edit.lo (x : Edit α) : Nat := x.at_.toNat
def Edit.hi (x : Edit α) : Nat := x.at_.toNat + x.old.length
theorem Edit.lo_hi (x : Edit α) : x.lo ≤ x.hi := Nat.le_add_right _ _
def Chain : Nat → List (Edit α) → Prop
 | _, [] => True
 | lo, x :: r => (lo : Int) ≤ x.at_ ∧ Chain (x.hi + 1) r
def Within (hi : Nat) (c : List (Edit α)) : Prop := ∀ x ∈ c, x.hi ≤ hi
theorem Chain.weaken : ∀ {c : List (Edit α)} {lo lo' : Nat}, Chain lo c → lo' ≤ lo → Chain lo' c
 | [], _, _, _, _ => trivial
 | _ :: _, _, _, ⟨h1, h2⟩, h => ⟨by omega, h2⟩
theorem Chain.pre : ∀ {c d : List (Edit α)} {lo : Nat}, Chain lo (c ++ d) → Chain lo c
 | [], _, _, _ => trivial
 | _ :: _, _, _, ⟨h1, h2⟩ => ⟨h1, Chain.pre h2⟩
theorem Chain.suf : ∀ {c : List (Edit α)} {x : Edit α} {r : List (Edit α)} {lo : Nat}, Chain lo (c ++ x :: r) → (lo : Int) ≤ x.at_ ∧ Chain x.lo (x :: r)
 | [], x, _, lo, ⟨h1, h2⟩ => ⟨h1, by show ((x.at_.toNat : Nat) : Int) ≤ x.at_; omega, h2⟩
 | y :: c, x, _, lo, ⟨h1, h2⟩ => by
  obtain ⟨h3, h4⟩ := Chain.suf (c := c) h2;refine ⟨?_, h4⟩;have : lo ≤ y.hi + 1 := by unfold Edit.hi; omega
  omega
theorem Chain.pos : ∀ {c : List (Edit α)} {lo : Nat}, Chain lo c → ∀ x ∈ c, (lo : Int) ≤ x.at_
 | y :: c, lo, ⟨h1, h2⟩, x, h => by
  rcases List.mem_cons.1 h with rfl | h
  ·exact h1
  ·have := Chain.pos h2 x h;have : lo ≤ y.hi + 1 := by unfold Edit.hi; omega
   omega
theorem Within.mono {hi hi' : Nat} {c : List (Edit α)} (h : Within hi c) (hh : hi ≤ hi') : Within hi' c := fun x hx => Nat.le_trans (h x hx) hh
theorem chain_go {a b : List α} : ∀ (l : List (Nat × Nat)) (i j : Nat), Pairs a b i j l → i ≤ a.length → j ≤ b.length → Chain i (diffGo a b i j (l ++ [(a.length, b.length)])) ∧ Within a.length (diffGo a b i j (l ++ [(a.length, b.length)])) := by
 intro l
 induction l with
 | nil =>
  intro i j _ hi hj;simp only [List.nil_append, diffGo, List.append_nil]
  split
  ·exact ⟨trivial, fun x hx => by cases hx⟩
  ·refine ⟨⟨by simp, trivial⟩, fun x hx => ?_⟩;simp only [List.mem_singleton] at hx;subst hx;unfold Edit.hi;simp only [Int.toNat_natCast, cut_length (Nat.le_refl a.length) hi];omega
 | cons p r ih =>
  intro i j ⟨h1, h2, ⟨h3, h4, h5⟩, h6⟩ hi hj;obtain ⟨k1, k2⟩ := ih (p.1 + 1) (p.2 + 1) h6 (by omega) (by omega);simp only [List.cons_append, diffGo]
  split
  ·exact ⟨by simpa using k1.weaken (by omega), by simpa using k2⟩
  ·have hh : (Edit.mk (i : Int) (cut a i p.1) (cut b j p.2)).hi = p.1 := by
    unfold Edit.hi;simp only [Int.toNat_natCast, cut_length (Nat.le_of_lt h3) h1];omega
   refine ⟨⟨by simp, ?_⟩, fun x hx => ?_⟩
   ·rw [hh]; exact k1
   ·rcases List.mem_cons.1 hx with rfl | hx
    ·rw [hh]; omega
    ·exact k2 x hx
theorem chain_diff (a b : List α) : Chain 0 (diff a b) := (chain_go (common a b) 0 0 (common_pairs a b) (Nat.zero_le _) (Nat.zero_le _)).1
theorem within_diff (a b : List α) : Within a.length (diff a b) := (chain_go (common a b) 0 0 (common_pairs a b) (Nat.zero_le _) (Nat.zero_le _)).2
theorem diffGo_len {a b : List α} : ∀ (l : List (Nat × Nat)) (i j : Nat), (diffGo a b i j l).length ≤ l.length
 | [], _, _ => Nat.le_refl _
 | p :: r, i, j => by
  have := diffGo_len (a := a) (b := b) r (p.1 + 1) (p.2 + 1);simp only [diffGo, List.length_append, List.length_cons]
  split <;> simp <;> omega
theorem diff_len (a b : List α) : (diff a b).length ≤ a.length + 1 := by
 have h := diffGo_len (a := a) (b := b) (common a b ++ [(a.length, b.length)]) 0 0;rw [List.length_append, common_length] at h;have := lcs_most a b;simp only [List.length_singleton] at h;exact Nat.le_trans h (by omega)
theorem cost_mem : ∀ {c : List (Edit α)} {x : Edit α}, x ∈ c → x.old.length + x.new.length ≤ cost c
 | y :: c, x, h => by
  simp only [cost]
  rcases List.mem_cons.1 h with rfl | h
  ·omega
  ·have := cost_mem h; omega
theorem diff_mem {a b : List α} {x : Edit α} (h : x ∈ diff a b) : x.old.length + x.new.length ≤ a.length + b.length := by
 have := cost_mem h;have := cost_diff a b;omega
def mergeGo : Nat → List (Edit α) → List (Edit α) → List (Bool × Edit α)
 | 0, _, _ => []
 | _ + 1, [], [] => []
 | n + 1, [], y :: d => (true, y) :: mergeGo n [] d
 | n + 1, x :: c, [] => (false, x) :: mergeGo n c []
 | n + 1, x :: c, y :: d => if y.at_ < x.at_ then (true, y) :: mergeGo n (x :: c) d else (false, x) :: mergeGo n c (y :: d)
def merge (c d : List (Edit α)) : List (Bool × Edit α) := mergeGo (c.length + d.length) c d
def filt (k : Bool) : List (Bool × Edit α) → List (Edit α)
 | [] => []
 | p :: r => if p.1 = k then p.2 :: filt k r else filt k r
theorem merge_filt : ∀ (n : Nat) (c d : List (Edit α)), c.length + d.length ≤ n → filt false (mergeGo n c d) = c ∧ filt true (mergeGo n c d) = d := by
 intro n
 induction n with
 | zero =>
  intro c d h;have h1 : c = [] := List.eq_nil_of_length_eq_zero (by omega);have h2 : d = [] := List.eq_nil_of_length_eq_zero (by omega);subst h1 h2;exact ⟨rfl, rfl⟩
 | succ n ih =>
  intro c d h
  cases c with
  | nil =>
   cases d with
   | nil => exact ⟨rfl, rfl⟩
   | cons y d =>
    obtain ⟨h1, h2⟩ := ih [] d (by simp at h ⊢; omega);simp only [mergeGo, filt];exact ⟨by simpa using h1, by simpa using h2⟩
  | cons x c =>
   cases d with
   | nil =>
    obtain ⟨h1, h2⟩ := ih c [] (by simp at h ⊢; omega);simp only [mergeGo, filt];exact ⟨by simpa using h1, by simpa using h2⟩
   | cons y d =>
    simp only [mergeGo]
    split
    ·obtain ⟨h1, h2⟩ := ih (x :: c) d (by simp at h ⊢; omega);simp only [filt];exact ⟨by simpa using h1, by simpa using h2⟩
    ·obtain ⟨h1, h2⟩ := ih c (y :: d) (by simp at h ⊢; omega);simp only [filt];exact ⟨by simpa using h1, by simpa using h2⟩
theorem filt_mem {l : List (Bool × Edit α)} {p : Bool × Edit α} (h : p ∈ l) : p.2 ∈ filt p.1 l := by
 induction l with
 | nil => cases h
 | cons q r ih =>
  simp only [filt]
  rcases List.mem_cons.1 h with rfl | h
  ·simp
  ·split
   ·exact List.mem_cons_of_mem _ (ih h)
   ·exact ih h
theorem mem_filt {k : Bool} {l : List (Bool × Edit α)} {x : Edit α} (h : x ∈ filt k l) : (k, x) ∈ l := by
 induction l with
 | nil => cases h
 | cons q r ih =>
  simp only [filt] at h
  split at h
  ·rename_i hk
   rcases List.mem_cons.1 h with rfl | h
   ·rw [← hk]; exact List.mem_cons_self
   ·exact List.mem_cons_of_mem _ (ih h)
  ·exact List.mem_cons_of_mem _ (ih h)
def Sorted (l : List (Bool × Edit α)) : Prop := l.Pairwise fun p q => p.2.lo ≤ q.2.lo
theorem merge_sorted : ∀ (n lo : Nat) (c d : List (Edit α)), c.length + d.length ≤ n → Chain lo c → Chain lo d → Sorted (mergeGo n c d) := by
 intro n
 induction n with
 | zero => intro lo c d _ _ _; exact List.Pairwise.nil
 | succ n ih =>
  intro lo c d h hc hd
  have key : ∀ (c d : List (Edit α)) (x : Edit α), c.length + d.length ≤ n → Chain x.lo c → Chain x.lo d → ∀ p ∈ mergeGo n c d, x.lo ≤ p.2.lo := by
   intro c d x hl h1 h2 p hp;obtain ⟨k1, k2⟩ := merge_filt n c d hl;have hm := filt_mem hp
   have : (x.lo : Int) ≤ p.2.at_ := by
    cases hb : p.1 with
    | false => rw [hb, k1] at hm; exact h1.pos _ hm
    | true => rw [hb, k2] at hm; exact h2.pos _ hm
   show _ ≤ p.2.at_.toNat
   omega
  cases c with
  | nil =>
   cases d with
   | nil => exact List.Pairwise.nil
   | cons y d =>
    have h1 := (Chain.suf (c := []) hd).2;exact List.Pairwise.cons (key [] d y (by simp at h ⊢; omega) trivial (h1.2.weaken (Nat.le_succ_of_le y.lo_hi))) (ih y.lo [] d (by simp at h ⊢; omega) trivial (h1.2.weaken (Nat.le_succ_of_le y.lo_hi)))
  | cons x c =>
   cases d with
   | nil =>
    have h1 := (Chain.suf (c := []) hc).2;exact List.Pairwise.cons (key c [] x (by simp at h ⊢; omega) (h1.2.weaken (Nat.le_succ_of_le x.lo_hi)) trivial) (ih x.lo c [] (by simp at h ⊢; omega) (h1.2.weaken (Nat.le_succ_of_le x.lo_hi)) trivial)
   | cons y d =>
    have h1 := (Chain.suf (c := []) hc).2;have h2 := (Chain.suf (c := []) hd).2;simp only [mergeGo]
    split
    ·rename_i hlt
     have hw : Chain y.lo (x :: c) := ⟨by have := h2.1; unfold Edit.lo; have := hd.1; omega, hc.2⟩;exact List.Pairwise.cons (key (x :: c) d y (by simp at h ⊢; omega) hw (h2.2.weaken (Nat.le_succ_of_le y.lo_hi))) (ih y.lo (x :: c) d (by simp at h ⊢; omega) hw (h2.2.weaken (Nat.le_succ_of_le y.lo_hi)))
    ·rename_i hlt
     have hw : Chain x.lo (y :: d) := ⟨by unfold Edit.lo; have := hc.1; omega, hd.2⟩;exact List.Pairwise.cons (key c (y :: d) x (by simp at h ⊢; omega) (h1.2.weaken (Nat.le_succ_of_le x.lo_hi)) hw) (ih x.lo c (y :: d) (by simp at h ⊢; omega) (h1.2.weaken (Nat.le_succ_of_le x.lo_hi)) hw)
structure Block (α : Type) where
 lo : Nat
 hi : Nat
 e0 : List (Edit α)
 e1 : List (Edit α)
deriving DecidableEq
def Block.new (k : Bool) (x : Edit α) : Block α := ⟨x.lo, x.hi, if k then [] else [x], if k then [x] else []⟩
def Block.add (b : Block α) (k : Bool) (x : Edit α) : Block α := ⟨b.lo, max b.hi x.hi, if k then b.e0 else b.e0 ++ [x], if k then b.e1 ++ [x] else b.e1⟩
def grow (b : Block α) : List (Bool × Edit α) → List (Block α)
 | [] => [b]
 | p :: r => if p.2.lo ≤ b.hi then grow (b.add p.1 p.2) r else b :: grow (Block.new p.1 p.2) r
def blocksOf : List (Bool × Edit α) → List (Block α)
 | [] => []
 | p :: r => grow (Block.new p.1 p.2) r
def blocks (c d : List (Edit α)) : List (Block α) := blocksOf (merge c d)
def hasGo (base : List α) (hi : Nat) : Nat → List (Edit α) → List α
 | at_, [] => cut base at_ hi
 | at_, x :: r => cut base at_ x.lo ++ (x.new ++ hasGo base hi x.hi r)
def joinGo (base : List α) : Nat → List (Block α) → List α × List (Nat × Nat)
 | at_, [] => (base.drop at_, [])
 | at_, b :: r =>
  if b.e1 = [] ∨ hasGo base b.hi b.lo b.e0 = hasGo base b.hi b.lo b.e1 then (cut base at_ b.lo ++ (hasGo base b.hi b.lo b.e0 ++ (joinGo base b.hi r).1), (joinGo base b.hi r).2)
  else if b.e0 = [] then (cut base at_ b.lo ++ (hasGo base b.hi b.lo b.e1 ++ (joinGo base b.hi r).1), (joinGo base b.hi r).2)
  else (cut base at_ b.lo ++ (cut base b.lo b.hi ++ (joinGo base b.hi r).1), (b.lo, b.hi) :: (joinGo base b.hi r).2)
def join (base a b : List α) : List α × List (Nat × Nat) := joinGo base 0 (blocks (diff base a) (diff base b))
def BlocksOk (n : Nat) : Nat → List (Block α) → Prop
 | _, [] => True
 | at_, b :: r => at_ ≤ b.lo ∧ b.lo ≤ b.hi ∧ b.hi ≤ n ∧ Chain b.lo b.e0 ∧ Within b.hi b.e0 ∧ Chain b.lo b.e1 ∧ Within b.hi b.e1 ∧ BlocksOk n (b.hi + 1) r
theorem BlocksOk.weaken {n : Nat} : ∀ {l : List (Block α)} {i i' : Nat}, BlocksOk n i l → i' ≤ i → BlocksOk n i' l
 | [], _, _, _, _ => trivial
 | _ :: _, _, _, ⟨h1, h2⟩, h => ⟨Nat.le_trans h h1, h2⟩
theorem within_snoc {hi : Nat} {c : List (Edit α)} {x : Edit α} (h : Within hi c) : Within (max hi x.hi) (c ++ [x]) := fun y hy => by
 rcases List.mem_append.1 hy with hy | hy
 ·exact Nat.le_trans (h y hy) (Nat.le_max_left _ _)
 ·simp only [List.mem_singleton] at hy;subst hy;exact Nat.le_max_right _ _
theorem chain_other {lo n : Nat} {c d : List (Edit α)} (h : Chain lo (c ++ d)) (hd : ∀ y ∈ d, n ≤ y.lo) : Chain n d := by
 cases d with
 | nil => trivial
 | cons y d =>
  have := (Chain.suf h).2;have h1 := hd y List.mem_cons_self;exact this.weaken h1
theorem grow_ok {n : Nat} : ∀ (l : List (Bool × Edit α)) (b : Block α) (at_ : Nat), at_ ≤ b.lo → b.lo ≤ b.hi → b.hi ≤ n → Within b.hi b.e0 → Within b.hi b.e1 → Chain b.lo (b.e0 ++ filt false l) → Chain b.lo (b.e1 ++ filt true l) → Sorted l → (∀ p ∈ l, p.2.hi ≤ n) →
  BlocksOk n at_ (grow b l) := by
 intro l
 induction l with
 | nil =>
  intro b at_ h1 h2 h3 h4 h5 h6 h7 _ _;exact ⟨h1, h2, h3, h6.pre, h4, h7.pre, h5, trivial⟩
 | cons p r ih =>
  intro b at_ h1 h2 h3 h4 h5 h6 h7 h8 h9;obtain ⟨k, x⟩ := p;have hx : x.hi ≤ n := h9 (k, x) List.mem_cons_self;have hr : ∀ p ∈ r, p.2.hi ≤ n := fun p hp => h9 p (List.mem_cons_of_mem _ hp)
  obtain ⟨s1, s2⟩ := List.pairwise_cons.1 h8;simp only [grow]
  split
  ·cases k with
   | false =>
    refine ih (b.add false x) at_ h1 (Nat.le_trans h2 (Nat.le_max_left _ _)) (Nat.max_le.2 ⟨h3, hx⟩) ?_ ?_ ?_ ?_ s2 hr
    ·exact within_snoc h4
    ·exact h5.mono (Nat.le_max_left _ _)
    ·simpa [Block.add, filt] using h6
    ·simpa [Block.add, filt] using h7
   | true =>
    refine ih (b.add true x) at_ h1 (Nat.le_trans h2 (Nat.le_max_left _ _)) (Nat.max_le.2 ⟨h3, hx⟩) ?_ ?_ ?_ ?_ s2 hr
    ·exact h4.mono (Nat.le_max_left _ _)
    ·exact within_snoc h5
    ·simpa [Block.add, filt] using h6
    ·simpa [Block.add, filt] using h7
  ·rename_i hgt
   refine ⟨h1, h2, h3, h6.pre, h4, h7.pre, h5, ?_⟩
   cases k with
   | false =>
    refine ih (Block.new false x) (b.hi + 1) (Nat.succ_le_of_lt (Nat.lt_of_not_le hgt)) x.lo_hi hx ?_ ?_ ?_ ?_ s2 hr
    ·intro y hy; simp [Block.new] at hy; subst hy; exact Nat.le_refl _
    ·intro y hy; simp [Block.new] at hy
    ·simp only [filt, if_pos] at h6
     simpa [Block.new] using (Chain.suf h6).2
    ·simp only [filt] at h7
     simpa [Block.new] using chain_other (by simpa using h7) (fun y hy => s1 _ (mem_filt hy))
   | true =>
    refine ih (Block.new true x) (b.hi + 1) (Nat.succ_le_of_lt (Nat.lt_of_not_le hgt)) x.lo_hi hx ?_ ?_ ?_ ?_ s2 hr
    ·intro y hy; simp [Block.new] at hy
    ·intro y hy; simp [Block.new] at hy; subst hy; exact Nat.le_refl _
    ·simp only [filt] at h6
     simpa [Block.new] using chain_other (by simpa using h6) (fun y hy => s1 _ (mem_filt hy))
    ·simp only [filt, if_pos] at h7
     simpa [Block.new] using (Chain.suf h7).2
theorem blocks_ok {n : Nat} {c d : List (Edit α)} (hc : Chain 0 c) (hd : Chain 0 d) (wc : Within n c) (wd : Within n d) : BlocksOk n 0 (blocks c d) := by
 obtain ⟨k1, k2⟩ := merge_filt (c.length + d.length) c d nL;have hs := merge_sorted (c.length + d.length) 0 c d nL hc hd
 have hw : ∀ p ∈ mergeGo (c.length + d.length) c d, p.2.hi ≤ n := by
  intro p hp;have hm := filt_mem hp
  cases hb : p.1 with
  | false => rw [hb, k1] at hm; exact wc _ hm
  | true => rw [hb, k2] at hm; exact wd _ hm
 unfold blocks merge;generalize mergeGo (c.length + d.length) c d = l at *
 cases l with
 | nil => trivial
 | cons p r =>
  obtain ⟨k, x⟩ := p;obtain ⟨s1, s2⟩ := List.pairwise_cons.1 hs;have hx : x.hi ≤ n := hw (k, x) List.mem_cons_self;have hr : ∀ p ∈ r, p.2.hi ≤ n := fun p hp => hw p (List.mem_cons_of_mem _ hp)
  rw [← k1] at hc;rw [← k2] at hd
  show BlocksOk n 0 (grow (Block.new k x) r)
  cases k with
  | false =>
   refine grow_ok r (Block.new false x) 0 (Nat.zero_le _) x.lo_hi hx ?_ ?_ ?_ ?_ s2 hr
   ·intro y hy; simp [Block.new] at hy; subst hy; exact Nat.le_refl _
   ·intro y hy; simp [Block.new] at hy
   ·simp only [filt, if_pos] at hc
    simpa [Block.new] using (Chain.suf (c := []) hc).2
   ·simp only [filt] at hd
    simpa [Block.new] using chain_other (c := []) (by simpa using hd) (fun y hy => s1 _ (mem_filt hy))
  | true =>
   refine grow_ok r (Block.new true x) 0 (Nat.zero_le _) x.lo_hi hx ?_ ?_ ?_ ?_ s2 hr
   ·intro y hy; simp [Block.new] at hy
   ·intro y hy; simp [Block.new] at hy; subst hy; exact Nat.le_refl _
   ·simp only [filt] at hc
    simpa [Block.new] using chain_other (c := []) (by simpa using hc) (fun y hy => s1 _ (mem_filt hy))
   ·simp only [filt, if_pos] at hd
    simpa [Block.new] using (Chain.suf (c := []) hd).2
theorem grow_flat : ∀ (l : List (Bool × Edit α)) (b : Block α), ((grow b l).flatMap fun b => b.e0) = b.e0 ++ filt false l ∧ ((grow b l).flatMap fun b => b.e1) = b.e1 ++ filt true l ∧ (grow b l).length ≤ l.length + 1 := by
 intro l
 induction l with
 | nil => intro b; simp [grow, filt]
 | cons p r ih =>
  intro b;obtain ⟨k, x⟩ := p;simp only [grow]
  split
  ·obtain ⟨h1, h2, h3⟩ := ih (b.add k x);rw [h1, h2]
   cases k <;> refine ⟨?_, ?_, by simp only [List.length_cons]; omega⟩ <;> simp [Block.add, filt]
  ·obtain ⟨h1, h2, h3⟩ := ih (Block.new k x);simp only [List.flatMap_cons, h1, h2]
   cases k <;> refine ⟨?_, ?_, by simp only [List.length_cons]; omega⟩ <;> simp [Block.new, filt]
theorem merge_len (n : Nat) (c d : List (Edit α)) : (mergeGo n c d).length ≤ n := by
 induction n generalizing c d with
 | zero => exact Nat.le_refl _
 | succ n ih =>
  cases c <;> cases d <;> simp only [mergeGo]
  ·exact Nat.zero_le _
  ·simpa using ih _ _
  ·simpa using ih _ _
  ·split <;> simpa using ih _ _
theorem blocks_flat (c d : List (Edit α)) : ((blocks c d).flatMap fun b => b.e0) = c ∧ ((blocks c d).flatMap fun b => b.e1) = d ∧ (blocks c d).length ≤ c.length + d.length := by
 obtain ⟨k1, k2⟩ := merge_filt (c.length + d.length) c d nL;have hl := merge_len (c.length + d.length) c d;unfold blocks merge;generalize hn : mergeGo (c.length + d.length) c d = l at *
 cases l with
 | nil => simp [filt] at k1 k2; subst k1 k2; simp [blocksOf]
 | cons p r =>
  obtain ⟨k, x⟩ := p;obtain ⟨h1, h2, h3⟩ := grow_flat r (Block.new k x);simp only [blocksOf];rw [h1, h2];simp only [List.length_cons] at hl;refine ⟨?_, ?_, by omega⟩
  ·rw [← k1]; cases k <;> simp [Block.new, filt]
  ·rw [← k2]; cases k <;> simp [Block.new, filt]
theorem mem_block0 {c d : List (Edit α)} {b : Block α} (h : b ∈ blocks c d) : b.e0.Sublist c ∧ b.e1.Sublist d := by
 obtain ⟨h1, h2, _⟩ := blocks_flat c d;obtain ⟨s, t, hst⟩ := List.append_of_mem h;rw [hst] at h1 h2;simp only [List.flatMap_append, List.flatMap_cons] at h1 h2
 constructor
 ·rw [← h1]; exact ((List.sublist_append_left _ _).trans (List.sublist_append_right _ _))
 ·rw [← h2]; exact ((List.sublist_append_left _ _).trans (List.sublist_append_right _ _))
theorem cut_len (a : List α) (i k : Nat) : (cut a i k).length ≤ a.length := by
 unfold cut; rw [List.length_take, List.length_drop]; omega
theorem hasGo_len {base : List α} {hi M : Nat} : ∀ {c : List (Edit α)} {at_ : Nat}, (∀ x ∈ c, x.new.length ≤ M) → (hasGo base hi at_ c).length ≤ base.length + c.length * (base.length + M)
 | [], _, _ => by simp only [hasGo, List.length_nil, Nat.zero_mul, Nat.add_zero]; exact cut_len _ _ _
 | x :: r, at_, h => by
  have h1 := hasGo_len (base := base) (hi := hi) (at_ := x.hi) fun y hy => h y (List.mem_cons_of_mem x hy)
  have h2 := h x List.mem_cons_self;have h3 := cut_len base at_ x.lo;simp only [hasGo, List.length_append, List.length_cons, Nat.add_mul];omega
theorem cut_cut {a : List α} {i k m : Nat} (h1 : i ≤ k) (h2 : k ≤ m) : cut a i k ++ cut a k m = cut a i m := by
 unfold cut;have e : a.drop k = (a.drop i).drop (k - i) := by rw [List.drop_drop]; congr 1; omega
 rw [e, show m - i = (k - i) + (m - k) by omega, List.take_add]
theorem made_has {base : List α} {lo hi : Nat} {x : Edit α} {r : List (Edit α)} (h1 : (lo : Int) ≤ x.at_) (h2 : Chain (x.hi + 1) r) (h3 : Within hi r) (h4 : x.hi ≤ hi) (h5 : hi ≤ base.length) :
  x.hi - lo ≤ (hasGo base hi lo r).length ∧ made (hasGo base hi lo r) ⟨x.at_ - lo, x.old, x.new⟩ = hasGo base hi lo (x :: r) := by
 have hlo : lo ≤ x.lo := by unfold Edit.lo; omega
 have hlh := x.lo_hi
 obtain ⟨s, hs⟩ : ∃ s, hasGo base hi lo r = cut base lo x.hi ++ s ∧ hasGo base hi x.hi r = s := by
  cases r with
  | nil => exact ⟨cut base x.hi hi, by simp only [hasGo]; rw [cut_cut (by omega) h4], rfl⟩
  | cons y r =>
   have : x.hi ≤ y.lo := by have := h2.1; unfold Edit.lo; omega
   exact ⟨cut base x.hi y.lo ++ (y.new ++ hasGo base hi y.hi r), by simp only [hasGo]; rw [← cut_cut (by omega : lo ≤ x.hi) this, List.append_assoc], rfl⟩
 have hcl : (cut base lo x.hi).length = x.hi - lo := cut_length (by omega) (by omega);have e1 : (x.at_ - lo).toNat = x.lo - lo := by unfold Edit.lo; omega
 have e2 : (x.at_ - lo).toNat + x.old.length = x.hi - lo := by unfold Edit.hi; omega
 refine ⟨by rw [hs.1, List.length_append, hcl]; omega, ?_⟩;simp only [made, hasGo];rw [e2, e1, hs.1, hs.2, List.drop_append_of_le_length (by omega), List.drop_of_length_le (by omega), List.nil_append, List.take_append_of_le_length (by omega)]
 congr 1
 unfold cut;rw [List.take_take]
 congr 1
 omega
end
end File
end
section
open Go.RowKit
theorem stepApp1 {α : Type} (E : Enc α) {P : Program} {t e : TypeId} (hT : SlTy P t e E.sz) {ops : Array Oper} {o : Oper} {a : Act} {K : Act → World → Prop} {Q : Exit → Act → World → Prop} {E' : Prop} {w W : World} {arr : Array Value}
  (hgd : o.guard = none) (s x : Operand) (ho : o.op = .call { callee := .builtin .append, args := #[s, x], argTypes := #[t, t] })
  {B : Nat} {v : Value} {xs : List α} (hown : Own E e B w v xs) (y : α) (harr : arr.toList = E.cells y) (hs : a.eval s = v) {G : Nat} (hG : G = w.heap.size) (hx : a.eval x = .slice (some ⟨G, 0, none⟩) 1 1)
  (hW : W = w.alloc (.cells arr e)) (hB : B ≤ w.heap.size) (hn : xs.length + 1 ≤ big)
  (h : ∀ v' w', Own E e B w' v' (xs ++ [y]) → Below B w w' → (∀ b, b < w.heap.size → v.ownBlock ≠ some b → w'.heap[b]? = w.heap[b]?) → K (a.put o.dst v') w') :
  if Region.wanted o (yielded ops a.tmps) = true then Oper.wp P o a W K Q else E' := by
 subst hW hG;have hw : Region.wanted o (yielded ops a.tmps) = true := by simp [Region.wanted, hgd]
 rw [if_pos hw];obtain ⟨i, z, hi, hz, hsz, hby, hzc⟩ := hT.info;unfold big at hn;have hsize : arr.size = E.sz := by rw [← Array.length_toList, harr, E.len]
 refine wp_append_own (w.alloc (.cells arr e)) s x t ho B e i z E.sz i.bytes hT.ht hi hz hsz rfl hzc E.pos v xs.length (xs.flatMap E.cells) hs (World.ownsRow.alloc hown _)
  ⟨w.heap.size, 0, none⟩ 1 1 (E.cells y) hx (by rw [E.len]; omega) ?_ (E.one y) (by unfold maxLen; omega) (by have := Nat.mul_le_mul hn hby; omega) (by simp; omega) ?_
 ·intro j u hu;have hadd : (⟨w.heap.size, 0, none⟩ : Addr).add j = ⟨w.heap.size, j, none⟩ := by unfold Addr.add; split <;> simp_all
  rw [hadd, cell_of_row _ w.heap.size j arr e (0, 0) (heap_alloc_new w _), ← hu, ← harr, Array.getElem?_toList]
 ·intro v' w' hown' hg _;have hlt := Own.lt hown;refine h v' w' (by unfold Own; simpa using hown') ?_ (fun b hb hv => ?_)
  ·refine (((Below.refl B w).alloc hB _).grown hg (by simp; omega) fun k hk => ?_);exact (hlt k hk).1
  ·rw [hg.block b (by simp; omega) (fun e => hv e.symm)];exact Below.heap_alloc w _ b hb
end
section
namespace File
def readNum (l : List UInt8) (k : Nat) : Nat × Bool × List UInt8 × Nat := match l with
 | [] => (0, false, [], k)
 | b :: r => if isDig b then
   let n := b.toNat - 48
   let m := 10 * n + ((nextB r).toNat - 48)
   if 0 < n ∧ isDig (nextB r) = true ∧ m ≤ 40 then (m, takes (· == 58) (rest isDig r), rest (· == 58) (rest isDig r), on (· == 58) (rest isDig r) (on isDig r (k + 1)))
   else (n, takes (· == 58) r, rest (· == 58) r, on (· == 58) r (k + 1))
  else (0, false, b :: r, k)
end File
namespace Fl
open Go.RowKit
theorem rest_length (p : UInt8 → Bool) (l : List UInt8) (k : Nat) : File.on p l k + (File.rest p l).length = k + l.length := by
 cases l with
 | nil => rfl
 | cons b r =>
  unfold File.on File.rest File.takes
  by_cases h : p b = true
  ·simp only [h, if_true, List.length_cons]; omega
  ·simp only [h, if_false, Bool.false_eq_true]
theorem rest_no {p : UInt8 → Bool} {l : List UInt8} (h : File.takes p l = false) : File.rest p l = l := by
 cases l with
 | nil => rfl
 | cons b r => exact if_neg (by rw [show p b = false from h]; simp)
theorem on_no {p : UInt8 → Bool} {l : List UInt8} (h : File.takes p l = false) (k : Nat) : File.on p l k = k := by unfold File.on; rw [h]; rfl
theorem RD.agg {w : World} {g k : Nat} {l : List UInt8} (h : RD w g l k) : w.cell? ⟨g, 0, none⟩ = some (.string (File.ba l)) ∧ w.cell? ⟨g, 1, none⟩ = some (iv k) ∧ g < w.heap.size := ⟨h.cell 0, h.cell 1, h.lt⟩
set_option maxHeartbeats 4000000 in
theorem length_spec (g k : Nat) (l : List UInt8) (w : World) (hR : RD w g l k) (hk : k + l.length ≤ 1000000000) :
  Calls Tryz.prog 126 #[.pointer (some ⟨g, 0, none⟩)] w fun e w' => e = .returned (.tuple #[iv (File.readNum l k).1, .bool (File.readNum l k).2.1]) ∧ RD w' g (File.readNum l k).2.2.1 (File.readNum l k).2.2.2 ∧ Only g w w' := by
 have hmf : ∀ (fn : Fn) (first cap : Array Value) (w : World), (Instr.makeFunc fn first cap).run Tryz.prog w = .ok (.func fn first cap) w := fun _ _ _ _ => rfl
 have hg0 := hR.lt;obtain ⟨m0, m1, m2⟩ := hR.agg
 by_cases hd : File.takes File.isDig l = true
 ·cases l with
  | nil => cases hd
  | cons b r =>
   have hd' : File.isDig b = true := hd;have hbb : 48 ≤ b.toNat ∧ b.toNat ≤ 57 := by simpa [File.isDig] using hd'
   obtain ⟨n, hn⟩ : ∃ n : Nat, n = b.toNat - 48 := ⟨_, rfl⟩;have hbn : b.toNat = n + 48 := (by omega);have hn9 : n ≤ 9 := (by omega);have hN := next_spec (b :: r) w;rw [show bv (File.nextB (b :: r)) = .int .u8 ((n : Int) + 48) from by show Value.int .u8 (b.toNat : Int) = _; rw [hbn]; rfl] at hN
   have HN := lH hN;obtain ⟨c, hc⟩ : ∃ c : Nat, c = (File.nextB r).toNat := ⟨_, rfl⟩;have hc255 : c ≤ 255 := by have := (File.nextB r).toNat_lt; omega
   have HNR : Hid (∀ W : World, Calls Tryz.prog 78 #[.agg #[.string (File.ba r)]] W fun e w' => e = .returned (.int .u8 (c : Int)) ∧ Below W.heap.size W w') := lH fun W => by rw [hc]; exact next_spec r W
   have HRN : Hid (File.readNum (b :: r) k = if 0 < n ∧ File.isDig (File.nextB r) = true ∧ 10 * n + (c - 48) ≤ 40 then (10 * n + (c - 48), File.takes (· == 58) (File.rest File.isDig r), File.rest (· == 58) (File.rest File.isDig r), File.on (· == 58) (File.rest File.isDig r) (File.on File.isDig r (k + 1)))
     else (n, File.takes (· == 58) r, File.rest (· == 58) r, File.on (· == 58) r (k + 1))) := lH (by
    show (if File.isDig b = true then _ else _) = _
    rw [if_pos hd', ← hn, ← hc])
   have HDC : Hid (∀ W : World, Calls Tryz.prog 79 #[.int .u8 (c : Int)] W fun e w' => e = .returned (.bool (File.isDig (File.nextB r))) ∧ W = w') := lH fun W => by rw [hc]; exact digit_spec _ W
   have HCD : Hid (File.isDig (File.nextB r) = true → 48 ≤ c ∧ c ≤ 57) := lH fun h => by rw [hc]; simpa [File.isDig] using h
   have hkl : k + 1 + r.length ≤ 1000000000 := by simp only [List.length_cons] at hk; omega
   clear hN hbn hn hc
   go_enter Tryz.func126, Tryz.ntmps126
   (go_wp2_with fail);refine HN.out.mono ?_;rintro e w1 ⟨rfl, hb1⟩;have hR1 := hR.below hb1;have hO1 := Only.of_below hb1 (Nat.le_of_lt hg0);obtain ⟨m0, m1, m2⟩ := hR1.agg;have HTD := lH (takeDigit g k (b :: r) w1 hR1 (by simp only [List.length_cons] at hk ⊢; omega));rw [show File.takes File.isDig (b :: r) = true from hd, show File.rest File.isDig (b :: r) = r from by simp [File.rest, hd'], show File.on File.isDig (b :: r) k = k + 1 from by simp [File.on, File.takes, hd']] at HTD
   clear hd hd' hbb HN hR;(go_wp2_with fail);refine HTD.out.mono ?_;rintro e w2 ⟨rfl, hR2, hO2⟩;have hO02 := hO1.trans hO2;obtain ⟨m0, m1, m2⟩ := hR2.agg;clear HTD hR1 hO1 hb1 hO2
   go_upto_region 5 with (go_at_call 78; refine (HNR.out _).mono ?_; rintro e w3 ⟨rfl, hb3⟩)
   have hR3 := hR2.below hb3;have hO3 := hO02.next hb3 (Nat.le_of_lt m2);obtain ⟨m0, m1, m2⟩ := hR3.agg;clear hR2 hO02 hb3;have HONE : Hid (∀ W : World, Calls Tryz.prog 81 #[.int .u8 58] W fun e w' => ∃ q, e = .returned (.agg #[.func (.func 128) #[] #[.pointer (some ⟨q, 0, none⟩)]]) ∧ Blk w' q 5 #[bv 58] ∧ Below W.heap.size W w') := lH fun W => one_spec 58 W
   by_cases h0 : 0 < n
   ·have h0i : (0 : Int) < (n : Int) := (by omega)
    cases hdr : File.isDig (File.nextB r)
    ·have HX : Hid (File.readNum (b :: r) k = (n, File.takes (· == 58) r, File.rest (· == 58) r, File.on (· == 58) r (k + 1))) := lH (by rw [HRN.out, if_neg (by rw [hdr]; intro h; cases h.2.1)]);rw [hdr] at HDC;clear hdr HRN HCD
     go_wp2_with (first
      | (go_at_call 78; refine (HNR.out _).mono ?_; rintro e w4 ⟨rfl, hb4⟩; have hR4 := hR3.below hb4; obtain ⟨m3, m4, m5⟩ := hR4.agg)
      | (go_at_call 79; refine (HDC.out _).mono ?_; rintro e w' ⟨rfl, rfl⟩)
      | (go_at_call 81; refine (HONE.out _).mono ?_; rintro e w7 ⟨q, rfl, hq, hb7⟩; have hR7 := hR4.below hb7; obtain ⟨m6, m7, m8⟩ := hR7.agg)
      | (go_at_call 77; refine (takeOne 58 q g (k + 1) r _ hR7 (by omega) hq).mono ?_; rintro e w8 ⟨rfl, hR8, hO8⟩))
     go_ret2;exact ⟨ret_eq (by rw [HX.out]; rfl), by rw [HX.out]; exact hR8, ((hO3.next hb4 (Nat.le_of_lt m2)).next hb7 (Nat.le_of_lt m5)).trans hO8⟩
    ·have hcd := HCD.out hdr;obtain ⟨d, hd⟩ : ∃ d : Nat, d = c - 48 := ⟨_, rfl⟩;have hcd2 : (c : Int) - 48 = (d : Int) := (by omega);have hd9 : d ≤ 9 := (by omega)
     by_cases hm : 10 * n + d ≤ 40
     ·have hmi : (10 : Int) * (n : Int) + (d : Int) ≤ 40 := (by omega);have HX : Hid (File.readNum (b :: r) k = (10 * n + d, File.takes (· == 58) (File.rest File.isDig r), File.rest (· == 58) (File.rest File.isDig r), File.on (· == 58) (File.rest File.isDig r) (File.on File.isDig r (k + 1)))) := lH (by rw [HRN.out, if_pos ⟨h0, hdr, by omega⟩, hd]);have HRL := lH (rest_length File.isDig r (k + 1));rw [hdr] at HDC;rw [hcd2];have HTD := lH (fun (W : World) (h : RD W g r (k + 1)) => takeDigit g (k + 1) r W h (by omega));clear hdr HRN HCD hd hcd hcd2
      go_upto_region 7 with (first
       | (go_at_call 78; refine (HNR.out _).mono ?_; rintro e w4 ⟨rfl, hb4⟩; have hR4 := hR3.below hb4; obtain ⟨m3, m4, m5⟩ := hR4.agg)
       | (go_at_call 79; refine (HDC.out _).mono ?_; rintro e w' ⟨rfl, rfl⟩))
      (go_wp2_with fail);refine (HTD.out _ hR4).mono ?_;rintro e w6 ⟨rfl, hR6, hO6⟩;(go_wp2_with fail);refine (HONE.out _).mono ?_;rintro e w7 ⟨q, rfl, hq, hb7⟩;have hR7 := hR6.below hb7;have m8 := hR6.lt;(go_wp2_with fail);refine (takeOne 58 q g _ _ _ hR7 (by rw [HRL.out]; omega) hq).mono ?_;rintro e w8 ⟨rfl, hR8, hO8⟩;(go_wp2_with fail);go_ret2;exact ⟨ret_eq (by rw [HX.out]; rfl), by rw [HX.out]; exact hR8, ((((hO3.next hb4 (Nat.le_of_lt m2)).trans hO6).next hb7 (Nat.le_of_lt m8))).trans hO8⟩
     ·have hmi : ¬ (10 : Int) * (n : Int) + (d : Int) ≤ 40 := (by omega);have HX : Hid (File.readNum (b :: r) k = (n, File.takes (· == 58) r, File.rest (· == 58) r, File.on (· == 58) r (k + 1))) := lH (by rw [HRN.out, if_neg (by rw [← hd]; intro h; omega)]);rw [hdr] at HDC;rw [hcd2];clear hdr HRN HCD hd hcd hcd2
      go_wp2_with (first
       | (go_at_call 78; refine (HNR.out _).mono ?_; rintro e w4 ⟨rfl, hb4⟩; have hR4 := hR3.below hb4; obtain ⟨m3, m4, m5⟩ := hR4.agg)
       | (go_at_call 79; refine (HDC.out _).mono ?_; rintro e w' ⟨rfl, rfl⟩)
       | (go_at_call 81; refine (HONE.out _).mono ?_; rintro e w7 ⟨q, rfl, hq, hb7⟩; have hR7 := hR4.below hb7; obtain ⟨m6, m7, m8⟩ := hR7.agg)
       | (go_at_call 77; refine (takeOne 58 q g (k + 1) r _ hR7 (by omega) hq).mono ?_; rintro e w8 ⟨rfl, hR8, hO8⟩))
      go_ret2;exact ⟨ret_eq (by rw [HX.out]; rfl), by rw [HX.out]; exact hR8, ((hO3.next hb4 (Nat.le_of_lt m2)).next hb7 (Nat.le_of_lt m5)).trans hO8⟩
   ·have h0i : ¬ (0 : Int) < (n : Int) := (by omega);have HX : Hid (File.readNum (b :: r) k = (n, File.takes (· == 58) r, File.rest (· == 58) r, File.on (· == 58) r (k + 1))) := lH (by rw [HRN.out, if_neg (fun h => h0 h.1)]);clear HRN HCD HDC
    go_wp2_with (first
     | (go_at_call 81; refine (HONE.out _).mono ?_; rintro e w7 ⟨q, rfl, hq, hb7⟩; have hR7 := hR3.below hb7; obtain ⟨m6, m7, m8⟩ := hR7.agg)
     | (go_at_call 77; refine (takeOne 58 q g (k + 1) r _ hR7 (by omega) hq).mono ?_; rintro e w8 ⟨rfl, hR8, hO8⟩))
    go_ret2;exact ⟨ret_eq (by rw [HX.out]; rfl), by rw [HX.out]; exact hR8, (hO3.next hb7 (Nat.le_of_lt m2)).trans hO8⟩
 ·have hd' : File.takes File.isDig l = false := by simpa using hd
  have HTD := lH (fun (W : World) (h : RD W g l k) => takeDigit g k l W h (by omega));rw [hd', rest_no hd', on_no hd'] at HTD
  have HX : Hid (File.readNum l k = (0, false, l, k)) := lH (by
   cases l with
   | nil => rfl
   | cons b r => show (if File.isDig b = true then _ else _) = _; rw [if_neg (by rw [show File.isDig b = false from hd']; simp)])
  obtain ⟨c, hc⟩ : ∃ c : Nat, c = (File.nextB l).toNat := ⟨_, rfl⟩;have hc255 : c ≤ 255 := by have := (File.nextB l).toNat_lt; omega
  have HNR : Hid (∀ W : World, Calls Tryz.prog 78 #[.agg #[.string (File.ba l)]] W fun e w' => e = .returned (.int .u8 (c : Int)) ∧ Below W.heap.size W w') := lH fun W => by rw [hc]; exact next_spec l W
  clear hc hd hd'
  go_enter Tryz.func126, Tryz.ntmps126
  go_wp2_with (first
   | (go_at_call 78; refine (HNR.out _).mono ?_; rintro e w1 ⟨rfl, hb1⟩; have hR1 := hR.below hb1)
   | (go_at_call 77; refine (HTD.out _ hR1).mono ?_; rintro e w2 ⟨rfl, hR2, hO2⟩))
  go_ret2;exact ⟨ret_eq (by rw [HX.out]; rfl), by rw [HX.out]; exact hR2, (Only.of_below hb1 (Nat.le_of_lt hg0)).trans hO2⟩
end Fl
end
section
namespace File
def takeN : Nat → List UInt8 → Nat → Bool × List UInt8 × Nat
 | 0, l, k => (true, l, k)
 | n + 1, l, k => if takes okB l then takeN n (rest okB l) (on okB l k) else (false, l, k)
def runN (s : Bool) (n : Nat) (l : List UInt8) (k : Nat) : Bool × List UInt8 × Nat := if s then takeN n l k else (false, l, k)
def readLine (l : List UInt8) (k : Nat) : Option (List UInt8) × List UInt8 × Nat :=
 let q := readNum l k
 let t := runN q.2.1 q.1 q.2.2.1 q.2.2.2
 if t.1 then (if takes (· == 10) t.2.1 then (some (q.2.2.1.take q.1), rest (· == 10) t.2.1, on (· == 10) t.2.1 t.2.2) else (none, t.2.1, t.2.2)) else (none, t.2.1, t.2.2)
theorem readNum_le (l : List UInt8) (k : Nat) : (readNum l k).1 ≤ 40 := by
 unfold readNum
 split
 ·exact Nat.zero_le _
 ·rename_i b r
  split
  ·rename_i h
   have : b.toNat ≤ 57 := by simp [isDig] at h; exact h.2
   dsimp only
   split
   ·rename_i h2; exact h2.2.2
   ·show b.toNat - 48 ≤ 40; omega
  ·exact Nat.zero_le _
end File
namespace Fl
open Go.RowKit
theorem readNum_len (l : List UInt8) (k : Nat) : (File.readNum l k).2.2.2 + (File.readNum l k).2.2.1.length = k + l.length := by
 unfold File.readNum
 split
 ·rfl
 ·rename_i b r
  split
  ·dsimp only
   split
   ·have h1 := rest_length File.isDig r (k + 1);have h2 := rest_length (· == 58) (File.rest File.isDig r) (File.on File.isDig r (k + 1));simp only [List.length_cons]
    show File.on (· == 58) (File.rest File.isDig r) (File.on File.isDig r (k + 1)) + (File.rest (· == 58) (File.rest File.isDig r)).length = _
    omega
   ·have h2 := rest_length (· == 58) r (k + 1);simp only [List.length_cons]
    show File.on (· == 58) r (k + 1) + (File.rest (· == 58) r).length = _
    omega
  ·rfl
theorem takeN_true : ∀ (n : Nat) (l : List UInt8) (k : Nat), (File.takeN n l k).1 = true → n ≤ l.length ∧ File.takeN n l k = (true, l.drop n, k + n) := by
 intro n
 induction n with
 | zero => intro l k _; exact ⟨Nat.zero_le _, rfl⟩
 | succ n ih =>
  intro l k h;unfold File.takeN at h ⊢
  split at h
  ·rename_i ht
   rw [if_pos ht]
   cases l with
   | nil => cases ht
   | cons b r =>
    have hb : File.okB b = true := ht;rw [show File.rest File.okB (b :: r) = r from if_pos hb, show File.on File.okB (b :: r) k = k + 1 from if_pos ht] at h ⊢;obtain ⟨h1, h2⟩ := ih r (k + 1) h;refine ⟨by simpa using h1, ?_⟩;rw [h2, List.drop_succ_cons, show k + 1 + n = k + (n + 1) by omega]
  ·cases h
theorem runN_len (s : Bool) : ∀ (n : Nat) (l : List UInt8) (k : Nat), (File.runN s n l k).2.2 + (File.runN s n l k).2.1.length = k + l.length := by
 unfold File.runN
 cases s
 ·intro n l k; rfl
 ·intro n;simp only [if_true]
  induction n with
  | zero => intro l k; rfl
  | succ n ih =>
   intro l k;unfold File.takeN
   split
   ·rw [ih, rest_length]
   ·rfl
theorem runN_step (s : Bool) (n : Nat) (l : List UInt8) (k : Nat) : File.runN s (n + 1) l k = if s then File.runN (File.takes File.okB l) n (File.rest File.okB l) (File.on File.okB l k) else File.runN false n l k := by
 cases s
 ·rfl
 ·simp only [if_true];unfold File.runN;simp only [if_true];rw [File.takeN]
  split
  ·rfl
  ·rename_i h
   have h' : File.takes File.okB l = false := by simpa using h
   rw [rest_no h', on_no h']
theorem ba_take (l : List UInt8) (n : Nat) : (File.ba l).extract 0 n = File.ba (l.take n) := by
 apply ByteArray.ext;simp [File.ba]
set_option maxHeartbeats 4000000 in
theorem line_spec (g k : Nat) (l : List UInt8) (w : World) (hR : RD w g l k) (hk : k + l.length ≤ 1000000000) :
  Calls Tryz.prog 80 #[.pointer (some ⟨g, 0, none⟩)] w fun e w' => e = .returned (.tuple #[.string (File.ba ((File.readLine l k).1.getD [])), .bool (File.readLine l k).1.isSome]) ∧ RD w' g (File.readLine l k).2.1 (File.readLine l k).2.2 ∧ Only g w w' := by
 have HLE := lH (length_spec g k l w hR hk);have hg0 := hR.lt;have hnl := File.readNum_le l k;have hqk := readNum_len l k
 have HX : Hid (File.readLine l k = if (File.runN (File.readNum l k).2.1 (File.readNum l k).1 (File.readNum l k).2.2.1 (File.readNum l k).2.2.2).1 then
   (if File.takes (· == 10) (File.runN (File.readNum l k).2.1 (File.readNum l k).1 (File.readNum l k).2.2.1 (File.readNum l k).2.2.2).2.1 then (some ((File.readNum l k).2.2.1.take (File.readNum l k).1), File.rest (· == 10) (File.runN (File.readNum l k).2.1 (File.readNum l k).1 (File.readNum l k).2.2.1 (File.readNum l k).2.2.2).2.1, File.on (· == 10) (File.runN (File.readNum l k).2.1 (File.readNum l k).1 (File.readNum l k).2.2.1 (File.readNum l k).2.2.2).2.1 (File.runN (File.readNum l k).2.1 (File.readNum l k).1 (File.readNum l k).2.2.1 (File.readNum l k).2.2.2).2.2)
    else (none, (File.runN (File.readNum l k).2.1 (File.readNum l k).1 (File.readNum l k).2.2.1 (File.readNum l k).2.2.2).2.1, (File.runN (File.readNum l k).2.1 (File.readNum l k).1 (File.readNum l k).2.2.1 (File.readNum l k).2.2.2).2.2))
   else (none, (File.runN (File.readNum l k).2.1 (File.readNum l k).1 (File.readNum l k).2.2.1 (File.readNum l k).2.2.2).2.1, (File.runN (File.readNum l k).2.1 (File.readNum l k).1 (File.readNum l k).2.2.1 (File.readNum l k).2.2.2).2.2)) := lH rfl
 generalize File.readNum l k = q at *;obtain ⟨n, ok, l1, k1⟩ := q;dsimp only at HLE HX hnl hqk;generalize File.readLine l k = rl at *;have hl1 : l1.length ≤ 1000000000 := (by omega)
 go_enter Tryz.func80, Tryz.ntmps80
 (go_wp2_with fail);refine HLE.out.mono ?_;rintro e w1 ⟨rfl, hR1, hO1⟩;obtain ⟨m0, m1, m2⟩ := hR1.agg;clear HLE hR;(go_wp2_with fail);obtain ⟨T, hT⟩ : ∃ T, T = File.runN ok n l1 k1 := ⟨_, rfl⟩;rw [← hT] at HX;have HT := lH hT;clear hT m0 m1
 go_loopw [5, 18] (fun v i wr => ∃ (j : Nat) (s : Bool) (lj : List UInt8) (kj : Nat), j ≤ n ∧ i = iv j ∧ v = .bool s ∧ RD wr g lj kj ∧ Only g w1 wr ∧ Hid (File.runN s (n - j) lj kj = T) ∧ kj + lj.length = k1 + l1.length) (fun _ i _ => n - (intOf i).toNat)
 case atStart => exact ⟨0, ok, l1, k1, by omega, rfl, rfl, hR1, Only.refl _ _, lH HT.out.symm, rfl⟩
 case round =>
  obtain ⟨j, s, lj, kj, hj, rfl, rfl, hRj, hOj, hr, hlj⟩ := hrel
  by_cases hlt : j < n
  ·have hji : (j : Int) < (n : Int) := (by omega);have hr' := hr.out;rw [show n - j = (n - (j + 1)) + 1 by omega, runN_step] at hr'
   cases s
   ·simp only [Bool.false_eq_true, if_false] at hr';have HR := lH hr';clear hr hr';(go_wp2_with fail);go_roundw
    case rel => exact ⟨j + 1, false, lj, kj, by omega, by go_num, rfl, hRj, hOj, HR, hlj⟩
    case measure => simp [intOf]; omega
   ·simp only [if_true] at hr';have HR := lH hr';have HTK := lH (takeOk g kj lj wr hRj (by omega));have HRL := lH (rest_length File.okB lj kj);clear hr hr'
    go_wp2_with (go_at_call 77; refine HTK.out.mono ?_; rintro e w2 ⟨rfl, hR2, hO2⟩)
    go_roundw
    case rel => exact ⟨j + 1, File.takes File.okB lj, File.rest File.okB lj, File.on File.okB lj kj, by omega, by go_num, rfl, hR2, hOj.trans hO2, HR, by have := HRL.out; omega⟩
    case measure => simp [intOf]; omega
  ·have hji : ¬ (j : Int) < (n : Int) := (by omega);have hr' := hr.out;rw [show n - j = 0 by omega] at hr';have hTe : T = (s, lj, kj) := by rw [← hr']; cases s <;> rfl
   rw [hTe] at HX HT;dsimp only at HX;have hmj := hRj.lt;clear hr hr' hTe
   cases s
   ·simp only [Bool.false_eq_true, if_false] at HX;(go_wp2_with fail);go_ret2;exact ⟨ret_eq (by rw [HX.out]; rfl), by rw [HX.out]; exact hRj, hO1.trans hOj⟩
   ·simp only [if_true] at HX
    have hnle : n ≤ l1.length := by
     have h1 := HT.out
     cases ok
     ·cases h1
     ·have h2 : (File.takeN n l1 k1).1 = true := by rw [show File.takeN n l1 k1 = (true, lj, kj) from h1.symm]
      exact (takeN_true n l1 k1 h2).1
    have hnsz : (n : Int) ≤ ((File.ba l1).size : Int) := by rw [ba_size]; omega
    have HONE : Hid (∀ W : World, Calls Tryz.prog 81 #[.int .u8 10] W fun e w' => ∃ q, e = .returned (.agg #[.func (.func 128) #[] #[.pointer (some ⟨q, 0, none⟩)]]) ∧ Blk w' q 5 #[bv 10] ∧ Below W.heap.size W w') := lH fun W => one_spec 10 W
    cases ht : File.takes (· == 10) lj
    ·rw [ht] at HX;simp only [Bool.false_eq_true, if_false] at HX;have hre := rest_no ht;have hon := on_no ht kj;(go_wp2_with fail);refine (HONE.out _).mono ?_;rintro e w7 ⟨q, rfl, hq, hb7⟩;have HTO := takeOne 10 q g kj lj w7 (hRj.below hb7) (by omega) hq;rw [ht, hre, hon] at HTO;have HTO2 := lH HTO;clear hre hon ht HTO;(go_wp2_with fail);refine HTO2.out.mono ?_;rintro e w8 ⟨rfl, hR8, hO8⟩;(go_wp2_with fail);go_ret2;exact ⟨ret_eq (by rw [HX.out]; rfl), by rw [HX.out]; exact hR8, ((hO1.trans hOj).next hb7 (Nat.le_of_lt hmj)).trans hO8⟩
    ·rw [ht] at HX;simp only [if_true] at HX;(go_wp2_with fail);refine (HONE.out _).mono ?_;rintro e w7 ⟨q, rfl, hq, hb7⟩;have HTO := takeOne 10 q g kj lj w7 (hRj.below hb7) (by omega) hq;rw [ht] at HTO;have HTO2 := lH HTO;clear ht HTO;(go_wp2_with fail);refine HTO2.out.mono ?_;rintro e w8 ⟨rfl, hR8, hO8⟩;(go_wp2_with fail);go_ret2;exact ⟨ret_eq (by rw [HX.out]; simp [ba_take]), by rw [HX.out]; exact hR8, ((hO1.trans hOj).next hb7 (Nat.le_of_lt hmj)).trans hO8⟩
end Fl
end
end Go.Proofs.YtblgkmdadholmabGreatDoor
