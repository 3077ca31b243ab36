/- What the proof of the claim's theorem uses, part 8. The conditions stand in each statement. -/
import Derived.Test.YtblgkmdadholmabGreatDoorSmp7
set_option linter.unusedVariables false
set_option linter.unusedSimpArgs false
set_option maxRecDepth 100000
namespace Go.Proofs.YtblgkmdadholmabGreatDoor
section
namespace File
structure ChOk (c : List (Edit ByteArray)) : Prop where
 at_ : ∀ x ∈ c, 0 ≤ x.at_ ∧ x.at_ ≤ 24
 old : ∀ x ∈ c, x.old.length ≤ 24
 new : ∀ x ∈ c, x.new.length ≤ 24
 some : ∀ x ∈ c, 0 < x.old.length + x.new.length
 lines : lined (allLines c) = 0
 order : ordered c = true
theorem ch_of {c : List (Edit ByteArray)} (h : checkChange c = 0) : ChOk c := by
 unfold checkChange at h
 split at h
 ·rename_i h1
  split at h
  ·rename_i h2
   split at h
   ·rename_i h3
    split at h
    ·rename_i h4
     have k1 : ∀ x ∈ c, (decide (0 ≤ x.at_) && decide (x.at_ ≤ 24)) = true := fun x hx => List.all_eq_true.1 h1 x hx
     have k2 : ∀ x ∈ c, (decide (x.old.length ≤ 24) && (decide (x.new.length ≤ 24) && decide (0 < x.old.length + x.new.length))) = true := fun x hx => List.all_eq_true.1 h2 x hx
     simp only [Bool.and_eq_true, decide_eq_true_eq] at k1 k2;exact ⟨k1, fun x hx => (k2 x hx).1, fun x hx => (k2 x hx).2.1, fun x hx => (k2 x hx).2.2, h3, h4⟩
    ·cases h
   ·rename_i h3; exact absurd h h3
  ·cases h
 ·cases h
theorem ch_zero {c : List (Edit ByteArray)} (h : ChOk c) : checkChange c = 0 := by
 unfold checkChange
 rw [if_pos (List.all_eq_true.2 fun x hx => by
  show (decide (0 ≤ x.at_) && decide (x.at_ ≤ 24)) = true
  rw [decide_eq_true (h.at_ x hx).1, decide_eq_true (h.at_ x hx).2]; rfl), if_pos (List.all_eq_true.2 fun x hx => by
  show (decide (x.old.length ≤ 24) && (decide (x.new.length ≤ 24) && decide (0 < x.old.length + x.new.length))) = true
  rw [decide_eq_true (h.old x hx), decide_eq_true (h.new x hx), decide_eq_true (h.some x hx)]; rfl), if_pos h.lines, if_pos h.order]
def backTry : Int → List (Edit ByteArray) → Option (List (Edit ByteArray))
 | _, [] => some []
 | n, x :: r => if 24 < x.at_ + n then none else (backTry (n + ((x.new.length : Int) - (x.old.length : Int))) r).map (⟨x.at_ + n, x.new, x.old⟩ :: ·)
def backAns (c : List (Edit ByteArray)) : List (Edit ByteArray) × Int := if checkChange c = 0 then (match backTry 0 c with
 | some l => (l, 0)
 | none => ([], 3)) else ([], checkChange c)
end File
namespace Fl
open Go.RowKit
theorem drop_ed {vs : List EdV} {k : Nat} {x : EdV} (h : vs[k]? = some x) : (vs.map EdV.ed).drop k = x.ed :: (vs.map EdV.ed).drop (k + 1) := drop_at (by rw [List.getElem?_map, h]; rfl)
set_option maxHeartbeats 2000000 in
theorem Cost_spec (A : Option Addr) (vs : List EdV) (c : Nat) (w : World) (hm : vs.length ≤ 1000) (hs : Sl edE w A vs) (hok : ∀ r ∈ vs, EdOk w r) (hb1 : ∀ r ∈ vs, r.old.length ≤ big ∧ r.new.length ≤ big) :
  Calls Tryz.prog 55 #[.slice A vs.length c] w fun e w' => e = .returned (.tuple #[iv (if File.checkChange (vs.map EdV.ed) = 0 then ((File.cost (vs.map EdV.ed) : Nat) : Int) else 0), iv (File.checkChange (vs.map EdV.ed))]) ∧ Below w.heap.size w w' := by
 have HC := lH (cc_spec A vs c w hm hs hok hb1)
 by_cases hz : File.checkChange (vs.map EdV.ed) = 0
 ·have hch := File.ch_of hz;rw [if_pos hz];rw [hz] at HC ⊢;obtain ⟨ans, hans⟩ : ∃ ans, ans = File.cost (vs.map EdV.ed) := ⟨_, rfl⟩;rw [← hans];have HSZ : Hid (∀ r ∈ vs, r.old.length ≤ 24 ∧ r.new.length ≤ 24) := lH fun r hr => ⟨hch.old r.ed (List.mem_map_of_mem hr), hch.new r.ed (List.mem_map_of_mem hr)⟩
  have HA := lH hans;clear hans hch hz hok hb1
  go_enter Tryz.func55, Tryz.ntmps55
  (go_wp2_with fail);refine HC.out.mono ?_;rintro _ w1 ⟨rfl, hb1⟩;clear HC;(go_wp2_with fail)
  go_loopw [5, 7, 15] (fun n _ i wr => ∃ (k m : Nat), k ≤ vs.length ∧ i = iv k ∧ n = iv m ∧ m ≤ k * 48 ∧ Hid (m + File.cost ((vs.map EdV.ed).drop k) = ans) ∧ Below w1.heap.size w1 wr) (fun _ _ i _ => vs.length - (intOf i).toNat)
  case atStart => exact ⟨0, 0, by omega, rfl, rfl, by omega, lH (by rw [HA.out]; simp), rB⟩
  case round =>
   obtain ⟨k, m, hk, rfl, rfl, hmk, HN, hbr⟩ := hrel
   by_cases hlt : k < vs.length
   ·have hki : (k : Int) < (vs.length : Int) := (by omega);obtain ⟨b, off, x, rfl, hb0, hx, hc0, hc1, hc2⟩ := Sl.atEd (hs.below (hb1.next hbr nL)) hlt;have hxs := HSZ.out x (mem_at hx);have hn := HN.out;rw [drop_ed hx] at hn;simp only [File.cost, EdV.ed] at hn;have HN2 := lH hn;have hbM : Below wr.heap.size wr (wr.alloc (.cells #[iv x.at_, .slice x.A x.old.length x.c, .slice x.A' x.new.length x.c'] 36)) := rB.alloc nL _;clear hn HN hx;(go_wp2_with fail);go_roundw
    case rel => exact ⟨k + 1, m + (x.old.length + x.new.length), by omega, by go_num, by go_num, by omega, lH (by rw [← HN2.out]; unfold EdV.ed; omega), hbr.next hbM nL⟩
    case measure => simp [intOf]; omega
   ·have hki : ¬ (k : Int) < (vs.length : Int) := (by omega);have hn := HN.out;rw [show (vs.map EdV.ed).drop k = [] from List.drop_eq_nil_of_le (by rw [List.length_map]; omega)] at hn
    have HN2 : Hid (ans = m) := lH (by rw [← hn]; rfl);clear hn HN;(go_wp2_with fail);go_ret2;exact ⟨ret_eq (by rw [HN2.out]; rfl), hb1.next hbr nL⟩
 ·rw [if_neg hz];generalize File.checkChange (vs.map EdV.ed) = e0 at *;have he0 : (e0 != 0) = true := by simpa using hz
  clear hz
  go_enter Tryz.func55, Tryz.ntmps55
  (go_wp2_with fail);refine HC.out.mono ?_;rintro _ w1 ⟨rfl, hb1⟩;(go_wp2_with fail);go_ret2;exact ⟨rfl, hb1⟩
set_option maxHeartbeats 8000000 in
theorem Back_spec (A : Option Addr) (vs : List EdV) (c : Nat) (w : World) (hm : vs.length ≤ 1000) (hs : Sl edE w A vs) (hok : ∀ r ∈ vs, EdOk w r) (hb1 : ∀ r ∈ vs, r.old.length ≤ big ∧ r.new.length ≤ big) :
  Calls Tryz.prog 57 #[.slice A vs.length c] w fun e w' => ∃ v rs, e = .returned (.tuple #[v, iv (File.backAns (vs.map EdV.ed)).2]) ∧ Own rawE 36 w.heap.size w' v rs ∧ EdsR w.heap.size w' rs (File.backAns (vs.map EdV.ed)).1 ∧ Below w.heap.size w w' := by
 have HC := lH (cc_spec A vs c w hm hs hok hb1)
 by_cases hz : File.checkChange (vs.map EdV.ed) = 0
 ·have hch := File.ch_of hz;rw [hz] at HC;have HA : Hid (File.backAns (vs.map EdV.ed) = match File.backTry 0 (vs.map EdV.ed) with | some l => (l, 0) | none => ([], 3)) := lH (by unfold File.backAns; rw [if_pos hz]);have HSZ : Hid (∀ r ∈ vs, 0 ≤ r.at_ ∧ r.at_ ≤ 24 ∧ r.old.length ≤ 24 ∧ r.new.length ≤ 24) := lH fun r hr => ⟨(hch.at_ r.ed (List.mem_map_of_mem hr)).1, (hch.at_ r.ed (List.mem_map_of_mem hr)).2, hch.old r.ed (List.mem_map_of_mem hr), hch.new r.ed (List.mem_map_of_mem hr)⟩
  have HOK := lH hok;generalize File.backAns (vs.map EdV.ed) = ans at *;obtain ⟨R, hR⟩ : ∃ R, R = File.backTry 0 (vs.map EdV.ed) := ⟨_, rfl⟩;rw [← hR] at HA;have HR := lH hR;clear hR hch hz hok hb1
  go_enter Tryz.func57, Tryz.ntmps57
  (go_wp2_with fail);refine HC.out.mono ?_;rintro _ w3 ⟨rfl, hb03⟩;clear HC;(go_wp2_with fail)
  go_loopw [5, 6, 8, 16] (fun v n _ i wr => ∃ (k : Nat) (n0 : Int) (rs : List RawEd) (acc : List (File.Edit ByteArray)), k ≤ vs.length ∧ i = iv k ∧ n = iv n0 ∧ -(k * 24 : Int) ≤ n0 ∧ n0 ≤ (k * 24 : Int) ∧ Hid (Own rawE 36 w3.heap.size wr v rs) ∧ Hid (EdsR w3.heap.size wr rs acc) ∧ rs.length ≤ k ∧ Hid ((File.backTry n0 ((vs.map EdV.ed).drop k)).map (acc ++ ·) = R) ∧ Below w3.heap.size w3 wr) (fun _ _ _ i _ => vs.length - (intOf i).toNat)
  case atStart => exact ⟨0, 0, [], [], by omega, rfl, rfl, by omega, by omega, Own.nil, trivial, by simp, lH (by rw [HR.out, List.drop_zero]; cases File.backTry 0 (vs.map EdV.ed) <;> rfl), rB⟩
  case round =>
   obtain ⟨k, n0, rs, acc, hk, rfl, rfl, hn1, hn2, HO, HE, hrl, HB, hbr⟩ := hrel;have hb0r := hb03.next hbr nL
   by_cases hlt : k < vs.length
   ·have hki : (k : Int) < (vs.length : Int) := (by omega);obtain ⟨b, off, x, rfl, hb0, hx, hc0, hc1, hc2⟩ := Sl.atEd (hs.below hb0r) hlt;have hxs := HSZ.out x (mem_at hx);have hbt := HB.out;rw [drop_ed hx] at hbt;have HXO0 : Hid (∀ z : World, Below w3.heap.size w3 z → Sl strE z x.A x.old) := lH fun z h => ((HOK.out x (mem_at hx)).below (hb03.next h nL)).old
    have HXN0 : Hid (∀ z : World, Below w3.heap.size w3 z → Sl strE z x.A' x.new) := lH fun z h => ((HOK.out x (mem_at hx)).below (hb03.next h nL)).new
    obtain ⟨xa, xA, xc, xo, xA', xc', xn⟩ := x;simp only at hc0 hc1 hc2 hxs HXO0 HXN0;have hbt : (if 24 < xa + n0 then none else (File.backTry (n0 + ((xn.length : Int) - (xo.length : Int))) ((vs.map EdV.ed).drop (k + 1))).map ((⟨xa + n0, xn, xo⟩ : File.Edit ByteArray) :: ·)).map (acc ++ ·) = R := hbt;have hbM : Below wr.heap.size wr (wr.alloc (.cells #[iv xa, .slice xA xo.length xc, .slice xA' xn.length xc'] 36)) := rB.alloc nL _;have hM : Blk (wr.alloc (.cells #[iv xa, .slice xA xo.length xc, .slice xA' xn.length xc'] 36)) wr.heap.size 36 #[iv xa, .slice xA xo.length xc, .slice xA' xn.length xc'] := Blk.new _ _ _;obtain ⟨Ax, cx, rfl, _, _⟩ := HO.out.form;have ew1 : IntKind.i64.wrap (xa + n0) = xa + n0 := IntWalk.i64_in _ (by omega)
    by_cases h24 : 24 < xa + n0
    ·rw [if_pos h24] at hbt;have HX : Hid (ans = ([], 3)) := lH (by rw [HA.out, ← hbt]; rfl);clear hbt hx HO HE HB;(go_wp2_with fail);go_ret2;exact ⟨.slice none 0 0, [], by rw [HX.out]; rfl, Own.nil, by rw [HX.out]; exact trivial, hb0r.next hbM nL⟩
    ·rw [if_neg h24] at hbt
     have HBN : Hid ((File.backTry (n0 + ((xn.length : Int) - (xo.length : Int))) ((vs.map EdV.ed).drop (k + 1))).map ((acc ++ [⟨xa + n0, xn, xo⟩]) ++ ·) = R) := lH (by
      rw [← hbt, Option.map_map]
      congr 1
      funext l
      simp)
     clear hbt hx HB
     go_upto_region 11 with fail
     generalize wr.alloc (.cells #[iv xa, .slice xA xo.length xc, .slice xA' xn.length xc'] 36) = w4 at *;have hb34 : Below w3.heap.size w3 w4 := hbr.trans (hbM.mono hbr.size);have HBX : Hid (∀ x, Below w4.heap.size w4 x → x.cell? ⟨wr.heap.size, 0, none⟩ = some (iv xa) ∧ x.cell? ⟨wr.heap.size, 1, none⟩ = some (.slice xA xo.length xc) ∧ x.cell? ⟨wr.heap.size, 2, none⟩ = some (.slice xA' xn.length xc')) := lH fun x h => ⟨(hM.under h).cell 0, (hM.under h).cell 1, (hM.under h).cell 2⟩
     have HCN : Hid (∀ x, Below w4.heap.size w4 x → Calls Tryz.prog 19 #[.slice xA' xn.length xc'] x fun e w' => ∃ v, e = .returned v ∧ Own strE 9 x.heap.size w' v xn ∧ Below x.heap.size x w') := lH fun x h => cloneS xA' xn xc' x (by unfold big; omega) (HXN0.out x (hb34.next h nL))
     have HCO : Hid (∀ x, Below w4.heap.size w4 x → Calls Tryz.prog 19 #[.slice xA xo.length xc] x fun e w' => ∃ v, e = .returned v ∧ Own strE 9 x.heap.size w' v xo ∧ Below x.heap.size x w') := lH fun x h => cloneS xA xo xc x (by unfold big; omega) (HXO0.out x (hb34.next h nL))
     have HZ4 := lH hb34.size;have HO4 := lH (HO.out.below hbM);have HE4 := lH (EdsR.keep (Strs.below hbM) HE.out);have HB34 := lH hb34;have HMB := lH hM;have HNEB : Hid ((Value.slice Ax rs.length cx).ownBlock ≠ some wr.heap.size) := lH fun e => Nat.lt_irrefl _ (HO.out.lt _ e).2
     clear hM HO HE hbM hb34 hc0 hc1 hc2 hb0r hbr
     refine wp_free_lit (by kernel_rfl) 13 (by kernel_rfl) (by kernel_rfl) (by decide) (fun _ x => Below w4.heap.size w4 x) (fun x x' => Below x.heap.size x x')
      [fun _ u _ => u = .slice Ax rs.length cx,
       fun _ u _ => u = .pointer (some ⟨wr.heap.size, 0, none⟩),
       fun _ u _ => u = iv xa,
       fun _ u _ => u = iv n0,
       fun _ u _ => u = iv (xa + n0),
       fun _ u _ => u = .pointer (some ⟨wr.heap.size, 2, none⟩),
       fun _ u _ => u = .slice xA' xn.length xc',
       fun _ u x => ∃ A1 c1, u = .slice A1 xn.length c1 ∧ Own strE 9 w3.heap.size x u xn,
       fun _ u _ => u = .pointer (some ⟨wr.heap.size, 1, none⟩),
       fun _ u _ => u = .slice xA xo.length xc,
       fun _ u x => ∃ A1 c1, u = .slice A1 xo.length c1 ∧ Own strE 9 w3.heap.size x u xo,
       fun _ u x => ∃ A1 c1 A2 c2, u = .agg #[iv (xa + n0), .slice A1 xn.length c1, .slice A2 xo.length c2] ∧ Own strE 9 w3.heap.size x (.slice A1 xn.length c1) xn ∧ Own strE 9 w3.heap.size x (.slice A2 xo.length c2) xo,
       fun _ u x => ∃ g A1 c1 A2 c2, u = .slice (some ⟨g, 0, none⟩) 1 1 ∧ Blk x g 36 #[iv (xa + n0), .slice A1 xn.length c1, .slice A2 xo.length c2] ∧ Own strE 9 w3.heap.size x (.slice A1 xn.length c1) xn ∧ Own strE 9 w3.heap.size x (.slice A2 xo.length c2) xo]
      (Below.refl _ w4).drew ?_ ?_
     ·simp only [List.take_succ_cons, List.take_zero, HopL];refine ⟨?_, ?_, ?_, ?_, ?_, ?_, ?_, ?_, ?_, ?_, ?_, ?_, ?_, trivial⟩
      ·refine fv fun v n x hn hR hk => ?_
       exact tV
      ·refine fv fun v n x hn hR hk => ?_
       exact tV
      ·refine fv fun v n x hn hR hk => ?_
       have h1 : v 1 = .pointer (some ⟨wr.heap.size, 0, none⟩) := hk.at 1;obtain ⟨g0, g1, g2⟩ := HBX.out x hR;exact tV
      ·refine fv fun v n x hn hR hk => ?_
       exact tV
      ·refine fv fun v n x hn hR hk => ?_
       have h2 : v 2 = iv xa := hk.at 2;have h3 : v 3 = iv n0 := hk.at 3;exact tV
      ·refine fv fun v n x hn hR hk => ?_
       exact tV
      ·refine fv fun v n x hn hR hk => ?_
       have h5 : v 5 = .pointer (some ⟨wr.heap.size, 2, none⟩) := hk.at 5;obtain ⟨g0, g1, g2⟩ := HBX.out x hR;exact tV
      ·refine ⟨fun _ _ _ _ _ h => h, fun _ _ _ _ h hS => (by obtain ⟨A1, c1, e1, o1⟩ := h; exact ⟨A1, c1, e1, o1.below hS⟩), fun v n x hn hR hk => ?_⟩;have h6 : v 6 = .slice xA' xn.length xc' := hk 6 (by kernel_rfl);simp only [List.take_succ_cons, List.take_zero, frameF, Act.put, List.setIfInBounds_toArray, List.set_cons_zero, List.set_cons_succ];refine stepF_call (by rfl) (by go_simp) (HCN.out x hR) ?_;rintro e x' ⟨u, rfl, ho, hb⟩;obtain ⟨A1, c1, rfl, _, _⟩ := ho.form;exact ⟨_, rfl, ⟨A1, c1, rfl, ho.base (Nat.le_trans HZ4.out hR.size)⟩, hb, hR.next hb nL⟩
      ·refine fv fun v n x hn hR hk => ?_
       exact tV
      ·refine fv fun v n x hn hR hk => ?_
       have h8 : v 8 = .pointer (some ⟨wr.heap.size, 1, none⟩) := hk.at 8;obtain ⟨g0, g1, g2⟩ := HBX.out x hR;exact tV
      ·refine ⟨fun _ _ _ _ _ h => h, fun _ _ _ _ h hS => (by obtain ⟨A1, c1, e1, o1⟩ := h; exact ⟨A1, c1, e1, o1.below hS⟩), fun v n x hn hR hk => ?_⟩;have h9 : v 9 = .slice xA xo.length xc := hk 9 (by kernel_rfl);simp only [List.take_succ_cons, List.take_zero, frameF, Act.put, List.setIfInBounds_toArray, List.set_cons_zero, List.set_cons_succ];refine stepF_call (by rfl) (by go_simp) (HCO.out x hR) ?_;rintro e x' ⟨u, rfl, ho, hb⟩;obtain ⟨A1, c1, rfl, _, _⟩ := ho.form;exact ⟨_, rfl, ⟨A1, c1, rfl, ho.base (Nat.le_trans HZ4.out hR.size)⟩, hb, hR.next hb nL⟩
      ·refine ⟨fun _ _ _ _ _ h => h, fun _ _ _ _ h hS => (by obtain ⟨A1, c1, A2, c2, e1, o1, o2⟩ := h; exact ⟨A1, c1, A2, c2, e1, o1.below hS, o2.below hS⟩), fun v n x hn hR hk => ?_⟩;have h4 : v 4 = iv (xa + n0) := hk 4 (by kernel_rfl);have h7 := hk 7 (by kernel_rfl);obtain ⟨A7, c7, h7, o7⟩ := h7;have h10 := hk 10 (by kernel_rfl);obtain ⟨A10, c10, h10, o10⟩ := h10;rw [h7] at o7;rw [h10] at o10;simp only [List.take_succ_cons, List.take_zero, frameF, Act.put, List.setIfInBounds_toArray, List.set_cons_zero, List.set_cons_succ];exact stepF_val (u := .agg #[iv (xa + n0), .slice A7 xn.length c7, .slice A10 xo.length c10]) (by rfl) (by go_simp <;> omega) ⟨⟨A7, c7, A10, c10, rfl, o7, o10⟩, rB, hR⟩
      ·refine ⟨fun _ _ _ _ _ h => h, fun _ _ _ _ h hS => (by obtain ⟨g, A1, c1, A2, c2, e1, b1, o1, o2⟩ := h; exact ⟨g, A1, c1, A2, c2, e1, b1.under hS, o1.below hS, o2.below hS⟩), fun v n x hn hR hk => ?_⟩;have h11 := hk 11 (by kernel_rfl);obtain ⟨A1, c1, A2, c2, h11, p1, p2⟩ := h11;simp only [List.take_succ_cons, List.take_zero, frameF, Act.put, List.setIfInBounds_toArray, List.set_cons_zero, List.set_cons_succ];exact stepF_new (u := .slice (some ⟨x.heap.size, 0, none⟩) 1 1) (w' := x.alloc (.cells #[iv (xa + n0), .slice A1 xn.length c1, .slice A2 xo.length c2] 36)) (by rfl) (by go_simp) ⟨⟨x.heap.size, A1, c1, A2, c2, rfl, Blk.new _ _ _, p1.below (rB.alloc nL _), p2.below (rB.alloc nL _)⟩, rB.alloc nL _, hR.alloc hR.size _⟩
     ·intro v n x hn hR hall;have hsg : ∃ g A1 c1 A2 c2, v 12 = .slice (some ⟨g, 0, none⟩) 1 1 ∧ Blk x g 36 #[iv (xa + n0), .slice A1 xn.length c1, .slice A2 xo.length c2] ∧ Own strE 9 w3.heap.size x (.slice A1 xn.length c1) xn ∧ Own strE 9 w3.heap.size x (.slice A2 xo.length c2) xo := hall 12 (by decide);obtain ⟨g, A1, c1, A2, c2, h12, hB, hon, hoo⟩ := hsg;have h0 : v 0 = .slice Ax rs.length cx := hall 0 (by decide);clear hall hn;simp only [List.drop_succ_cons, List.drop_zero, List.take_succ_cons, List.take_zero, frameF, Act.put, List.setIfInBounds_toArray, List.set_cons_zero, List.set_cons_succ, Nat.zero_add, Nat.reduceAdd, h0, h12]
      have hsl : Sl rawE x (some ⟨g, 0, none⟩) [(⟨xa + n0, A1, xn.length, c1, A2, xo.length, c2⟩ : RawEd)] := fun _ => ⟨g, 0, rfl, hB.lt, fun i y hi j u hu => by
       have h1 := (List.getElem?_eq_some_iff.1 hi).1;have hi0 : i = 0 := by simpa using h1
       subst hi0;simp at hi;subst hi;have hc := hB.cell j;rw [Nat.zero_mul, Nat.zero_add, hc];rw [← hu];simp [rawE]⟩
      have hox := HO4.out.below hR;have hzx : w3.heap.size ≤ x.heap.size := Nat.le_trans HZ4.out hR.size
      go_upto_region 12 with (at_builtin; refine wpAppS rawE tyEdits rfl _ _ rfl hox hsl rfl rfl hzx (by simp [big]; omega) ?_; intro v5 w5 hown5 hb5 hk5)
      have hst : Strs w3.heap.size x w5 := strs_app hox hb5.size hk5;have HE5 := lH (EdsR.snoc (r := (⟨xa + n0, A1, xn.length, c1, A2, xo.length, c2⟩ : RawEd)) (x := ⟨xa + n0, xn, xo⟩) ⟨rfl, rfl, rfl, hst.own hon, hst.own hoo⟩ (EdsR.keep ((Strs.below hR).trans hst) HE4.out));have hb35 := HB34.out.trans ((hR.mono HZ4.out).trans hb5);have ew2 : IntKind.i64.wrap ((xn.length : Int) - (xo.length : Int)) = (xn.length : Int) - (xo.length : Int) := IntWalk.i64_in _ (by omega);have ew3 : IntKind.i64.wrap (n0 + ((xn.length : Int) - (xo.length : Int))) = n0 + ((xn.length : Int) - (xo.length : Int)) := IntWalk.i64_in _ (by omega);have hBx := Blk.under HMB.out hR;have hB5 : Blk w5 wr.heap.size 36 #[iv xa, .slice xA xo.length xc, .slice xA' xn.length xc'] := (hk5 _ hBx.lt HNEB.out).trans hBx;have y1 : w5.cell? ⟨wr.heap.size, 1, none⟩ = some (.slice xA xo.length xc) := hB5.cell 1;have y2 : w5.cell? ⟨wr.heap.size, 2, none⟩ = some (.slice xA' xn.length xc') := hB5.cell 2
      have yl := hB5.lt;clear hBx hB5 hB hsl hox hon hoo hst;(go_wp2_with fail);go_roundw
      case rel => exact ⟨k + 1, n0 + ((xn.length : Int) - (xo.length : Int)), _, _, by omega, by go_num, by go_num, by omega, by omega, hown5, HE5, by simp; omega, HBN, hb35⟩
      case measure => simp [intOf]; omega
   ·have hki : ¬ (k : Int) < (vs.length : Int) := (by omega);have hbt := HB.out;rw [show (vs.map EdV.ed).drop k = [] from List.drop_eq_nil_of_le (by rw [List.length_map]; omega)] at hbt
    have HX : Hid (ans = (acc, 0)) := lH (by rw [HA.out, ← hbt]; simp [File.backTry]);clear hbt HB;(go_wp2_with fail);go_ret2;exact ⟨_, by rw [HX.out]; rfl, rs, HO.out.base hb03.size, by rw [HX.out]; exact EdsR.base hb03.size HE.out, hb0r⟩
 ·have HA : Hid (File.backAns (vs.map EdV.ed) = ([], File.checkChange (vs.map EdV.ed))) := lH (by unfold File.backAns; rw [if_neg hz]);generalize File.backAns (vs.map EdV.ed) = ans at *;generalize File.checkChange (vs.map EdV.ed) = e0 at *;have he0 : (e0 != 0) = true := by simpa using hz
  clear hz
  go_enter Tryz.func57, Tryz.ntmps57
  (go_wp2_with fail);refine HC.out.mono ?_;rintro _ w1 ⟨rfl, hb1⟩;(go_wp2_with fail);go_ret2;exact ⟨.slice none 0 0, [], by rw [HA.out]; rfl, Own.nil, by rw [HA.out]; exact trivial, hb1⟩
end Fl
end
section
namespace File
def fitGo (f : List ByteArray) : Nat → List ByteArray → Bool
 | _, [] => true
 | i, s :: r => decide (f[i]? = some s) && fitGo f (i + 1) r
def fitAt (f : List ByteArray) (x : Edit ByteArray) : Bool := decide (x.at_ ≤ (f.length : Int)) && fitGo f x.at_.toNat x.old
def makeAns (f : List ByteArray) (c : List (Edit ByteArray)) : List ByteArray × Int :=
 if check f = 0 then (if checkChange c = 0 then (if c.all (fitAt f) then (if 24 < (make f c).length then ([], 2) else (make f c, 0)) else ([], 7)) else ([], checkChange c)) else ([], check f)
theorem fitGo_hi {f : List ByteArray} : ∀ {l : List ByteArray} {i : Nat}, i ≤ f.length → fitGo f i l = true → i + l.length ≤ f.length
 | [], _, h, _ => h
 | s :: r, i, _, h => by
  unfold fitGo at h;rw [Bool.and_eq_true, decide_eq_true_eq] at h;have h1 := (List.getElem?_eq_some_iff.1 h.1).1;have := fitGo_hi (by omega) h.2;simp only [List.length_cons];omega
theorem fit_hi {f : List ByteArray} {x : Edit ByteArray} (h0 : 0 ≤ x.at_) (h : fitAt f x = true) : x.hi ≤ f.length := by
 unfold fitAt at h;rw [Bool.and_eq_true, decide_eq_true_eq] at h;exact fitGo_hi (by omega) h.2
theorem chain_of : ∀ {c : List (Edit ByteArray)} {lo : Nat}, ordered c = true → (∀ x ∈ c, 0 ≤ x.at_) → (∀ x, c.head? = some x → (lo : Int) ≤ x.at_) → Chain lo c
 | [], _, _, _, _ => trivial
 | [x], lo, _, _, h => ⟨h x rfl, trivial⟩
 | x :: y :: r, lo, ho, h0, h => by
  unfold ordered at ho;rw [Bool.and_eq_true, Bool.not_eq_true', decide_eq_false_iff_not] at ho;refine ⟨h x rfl, chain_of ho.2 (fun z hz => h0 z (List.mem_cons_of_mem _ hz)) fun z hz => ?_⟩;simp at hz;subst hz;have := h0 x (by simp);unfold Edit.hi;omega
theorem ch_chain {c : List (Edit ByteArray)} (h : ChOk c) : Chain 0 c := chain_of h.order (fun x hx => (h.at_ x hx).1) fun x hx => (h.at_ x (List.mem_of_mem_head? (by rw [hx]; rfl))).1
theorem make_ge {f : List ByteArray} : ∀ {c : List (Edit ByteArray)} {lo : Nat}, Chain lo c → (∀ x ∈ c, x.hi ≤ f.length) → lo ≤ f.length → lo ≤ (make f c).length
 | [], _, _, _, h => h
 | x :: r, lo, ⟨h1, h2⟩, hh, _ => by
  have hx := hh x (by simp);have ih := make_ge (h2.weaken (Nat.le_succ _)) (fun y hy => hh y (List.mem_cons_of_mem _ hy)) hx
  show lo ≤ (made (make f r) x).length
  unfold made;rw [List.length_append, List.length_take];have : x.at_.toNat ≤ x.hi := Nat.le_add_right _ _;omega
theorem chain_drop : ∀ {c : List (Edit ByteArray)} {lo k : Nat} {x : Edit ByteArray}, Chain lo c → c[k]? = some x → Chain (x.hi + 1) (c.drop (k + 1))
 | [], _, _, _, _, h => by simp at h
 | y :: r, lo, 0, x, ⟨_, h2⟩, h => by simp at h; subst h; simpa using h2
 | y :: r, lo, k + 1, x, ⟨_, h2⟩, h => by
  have := chain_drop (k := k) h2 (by simpa using h)
  simpa using this
theorem chain_len : ∀ {c : List (Edit ByteArray)} {lo : Nat}, Chain lo c → (∀ x ∈ c, x.at_ ≤ 24) → c ≠ [] → c.length + lo ≤ 25
 | [], _, _, _, h => absurd rfl h
 | [x], lo, ⟨h1, _⟩, ha, _ => by have := ha x (by simp); simp; omega
 | x :: y :: r, lo, ⟨h1, h2⟩, ha, _ => by
  have := chain_len h2 (fun z hz => ha z (List.mem_cons_of_mem _ hz)) (by simp);have h3 : lo ≤ x.hi := by unfold Edit.hi; omega
  simp only [List.length_cons] at this ⊢;omega
theorem make_le {f : List ByteArray} : ∀ {c : List (Edit ByteArray)}, (∀ x ∈ c, x.new.length ≤ 24) → (make f c).length ≤ f.length + c.length * 24
 | [], _ => by simp [make]
 | x :: r, h => by
  have ih := make_le (f := f) (c := r) fun y hy => h y (List.mem_cons_of_mem _ hy)
  have hx := h x (by simp)
  show (made (make f r) x).length ≤ _
  unfold made;simp only [List.length_append, List.length_take, List.length_drop, List.length_cons];omega
end File
namespace Fl
open Go.RowKit
set_option maxHeartbeats 8000000 in
theorem make_spec (F : Option Addr) (f : List ByteArray) (cf : Nat) (A : Option Addr) (vs : List EdV) (c : Nat) (w : World) (hF : f.length ≤ big) (hfc : f.length ≤ cf) (hsF : Sl strE w F f) (hm : vs.length ≤ 1000) (hs : Sl edE w A vs) (hok : ∀ r ∈ vs, EdOk w r) (hb1 : ∀ r ∈ vs, r.old.length ≤ big ∧ r.new.length ≤ big) :
  Calls Tryz.prog 56 #[.slice F f.length cf, .slice A vs.length c] w fun e w' => ∃ v, e = .returned (.tuple #[v, iv (File.makeAns f (vs.map EdV.ed)).2]) ∧ Own strE 9 w.heap.size w' v (File.makeAns f (vs.map EdV.ed)).1 ∧ Below w.heap.size w w' := by
 have HCF := lH (check_spec F f cf w hF hsF);have HCC := lH (fun W (h : Below w.heap.size w W) => cc_spec A vs c W hm (hs.below h) (fun r hr => (hok r hr).below h) hb1);obtain ⟨ans, hans⟩ : ∃ ans, ans = File.makeAns f (vs.map EdV.ed) := ⟨_, rfl⟩;rw [← hans];unfold File.makeAns at hans
 by_cases hz : File.check f = 0
 ·rw [if_pos hz] at hans;rw [hz] at HCF;have hgf := good_of_check hz;have hf24 := hgf.many
  by_cases hz2 : File.checkChange (vs.map EdV.ed) = 0
  ·rw [if_pos hz2] at hans;simp only [hz2] at HCC;have hch := File.ch_of hz2;have hchain := File.ch_chain hch;have HSZ : Hid (∀ r ∈ vs, 0 ≤ r.at_ ∧ r.at_ ≤ 24 ∧ r.old.length ≤ 24 ∧ r.new.length ≤ 24) := lH fun r hr => ⟨(hch.at_ r.ed (List.mem_map_of_mem hr)).1, (hch.at_ r.ed (List.mem_map_of_mem hr)).2, hch.old r.ed (List.mem_map_of_mem hr), hch.new r.ed (List.mem_map_of_mem hr)⟩
   have HCL : Hid ((vs.map EdV.ed).all (File.fitAt f) = false → ans = ([], 7)) := lH fun h => by rw [hans, h]; rfl
   have HFT : Hid ((vs.map EdV.ed).all (File.fitAt f) = true → ans = if 24 < (File.make f (vs.map EdV.ed)).length then ([], 2) else (File.make f (vs.map EdV.ed), 0)) := lH fun h => by rw [hans, h]; rfl
   have HCH := lH hchain;have HCO := lH hch;have HOK := lH hok;clear hz hz2 hans hch hchain hok hb1 hgf
   go_enter Tryz.func56, Tryz.ntmps56
   (go_wp2_with fail)
   go_step3
   (go_wp2_with fail);refine HCF.out.mono ?_;rintro _ w1 ⟨rfl, hb1⟩;(go_wp2_with fail);refine (HCC.out w1 hb1).mono ?_;rintro _ w2 ⟨rfl, hb2⟩;have hb02 := hb1.next hb2 nL;clear HCF HCC hb1 hb2;(go_wp2_with fail)
   go_step3
   (go_wp2_with fail)
   go_loopw [8, 10, 11, 12, 13, 28] (fun cl _ _ _ _ i wr => ∃ k : Nat, k ≤ vs.length ∧ i = iv k ∧ cl = .bool false ∧ Hid (((vs.map EdV.ed).drop k).all (File.fitAt f) = (vs.map EdV.ed).all (File.fitAt f)) ∧ Below w2.heap.size w2 wr) (fun _ _ _ _ _ i _ => vs.length - (intOf i).toNat)
   case atStart => exact ⟨0, by omega, rfl, rfl, rfl, rB⟩
   case round =>
    obtain ⟨k, hk, rfl, rfl, HA, hbr⟩ := hrel;have hb0r := hb02.next hbr nL
    by_cases hlt : k < vs.length
    ·have hki : (k : Int) < (vs.length : Int) := (by omega);obtain ⟨b, off, x, rfl, hb0, hx, hc0, hc1, hc2⟩ := Sl.atEd (hs.below hb0r) hlt;have hxs := HSZ.out x (mem_at hx);have ha := HA.out;rw [drop_ed hx, List.all_cons] at ha;have HXO : Hid (∀ z : World, Below w2.heap.size w2 z → Sl strE z x.A x.old) := lH fun z h => ((HOK.out x (mem_at hx)).below (hb02.next h nL)).old
     obtain ⟨xa, xA, xc, xo, xA', xc', xn⟩ := x;simp only at hc0 hc1 hc2 hxs HXO;obtain ⟨n, rfl⟩ : ∃ n : Nat, xa = (n : Int) := ⟨xa.toNat, by omega⟩;have ha : ((decide ((n : Int) ≤ (f.length : Int)) && File.fitGo f n xo) && ((vs.map EdV.ed).drop (k + 1)).all (File.fitAt f)) = (vs.map EdV.ed).all (File.fitAt f) := ha;have hbM : Below wr.heap.size wr (wr.alloc (.cells #[iv (n : Int), .slice xA xo.length xc, .slice xA' xn.length xc'] 36)) := rB.alloc nL _;have hM : Blk (wr.alloc (.cells #[iv (n : Int), .slice xA xo.length xc, .slice xA' xn.length xc'] 36)) wr.heap.size 36 #[iv (n : Int), .slice xA xo.length xc, .slice xA' xn.length xc'] := Blk.new _ _ _;have HAL := lH ha;clear ha HA hx
     go_upto_region 11 with fail
     generalize wr.alloc (.cells #[iv (n : Int), .slice xA xo.length xc, .slice xA' xn.length xc'] 36) = w4 at *;have hb24 : Below w2.heap.size w2 w4 := hbr.trans (hbM.mono hbr.size);have m0 := hM.cell 0;have m1 := hM.cell 1;have ml := hM.lt;have hb04 := hb02.next hb24 nL;clear hc0 hc1 hc2 hbM
     by_cases hnl : n ≤ f.length
     ·have hni : ¬ (f.length : Int) < (n : Int) := (by omega)
      have HAL2 : Hid ((File.fitGo f n xo && ((vs.map EdV.ed).drop (k + 1)).all (File.fitAt f)) = (vs.map EdV.ed).all (File.fitAt f)) := lH (by
       rw [← HAL.out, decide_eq_true (show (n : Int) ≤ (f.length : Int) by omega), Bool.true_and])
      (go_wp2_with fail)
      go_loopw [8, 11, 12, 13, 40] (fun cl _ _ _ i wx => ∃ j : Nat, j ≤ xo.length ∧ i = iv j ∧ cl = .bool false ∧ Hid (File.fitGo f (n + j) (xo.drop j) = File.fitGo f n xo) ∧ wx = w4) (fun _ _ _ _ i _ => xo.length - (intOf i).toNat)
      case atStart => exact ⟨0, by omega, rfl, rfl, rfl, rfl⟩
      case round =>
       obtain ⟨j, hj, rfl, rfl, HFG, rfl⟩ := hrel
       by_cases hjl : j < xo.length
       ·have hji : (j : Int) < (xo.length : Int) := (by omega);obtain ⟨b2, off2, s, hA2, hb2', hs2, hd2⟩ := Sl.atS (HXO.out _ hb24) hjl;subst hA2;have hg := HFG.out;rw [drop_at hs2, File.fitGo] at hg;obtain ⟨p, hp⟩ : ∃ p, p = n + j := ⟨_, rfl⟩;have hpi : (n : Int) + (j : Int) = (p : Int) := (by omega);have ep : IntKind.i64.wrap (p : Int) = (p : Int) := IntWalk.i64_in _ (by omega);have ew : IntKind.i64.wrap ((n : Int) + (j : Int)) = (p : Int) := by rw [hpi]; exact ep
        rw [← hp] at hg;have HP := lH hp;clear hp hs2
        by_cases hpl : p < f.length
        ·have hge : ¬ (f.length : Int) ≤ (p : Int) := (by omega);have hpl2 : (p : Int) < (f.length : Int) := (by omega);obtain ⟨b3, off3, y, hA3, hb3, hy, hd3⟩ := Sl.atS (hsF.below hb04) hpl;subst hA3;have hsq := str_eq y s;rw [hy] at hg
         by_cases hys : y = s
         ·rw [decide_eq_true hys] at hsq;have hsq' : (y.toList != s.toList) = false := by unfold bne; rw [hsq]; rfl
          rw [decide_eq_true (by rw [hys]), Bool.true_and] at hg
          have HN : Hid (File.fitGo f (n + (j + 1)) (xo.drop (j + 1)) = File.fitGo f n xo) := lH (by
           have := HP.out; rw [show n + (j + 1) = p + 1 by omega]; exact hg)
          clear hg hy HFG hys;(go_wp2_with fail);go_roundw
          case rel => exact ⟨j + 1, hjl, by go_num, rfl, HN, trivial⟩
          case measure => simp [intOf]; omega
         ·rw [decide_eq_false hys] at hsq;have hsq' : (y.toList != s.toList) = true := by unfold bne; rw [hsq]; rfl
          rw [decide_eq_false (fun e => hys (Option.some.inj e)), Bool.false_and] at hg;have hall : (vs.map EdV.ed).all (File.fitAt f) = false := by rw [← HAL2.out, ← hg]; rfl
          clear hg hy HFG hys HAL HAL2 HFT HCO HCH;have HX : Hid (ans = ([], 7)) := lH (HCL.out hall);(go_wp2_with fail)
          try rw [Exit.noGoto_ret]
          go_ret2;exact ⟨.slice none 0 0, by rw [HX.out]; rfl, by rw [HX.out]; exact Own.nil, hb04⟩
        ·have hge : (f.length : Int) ≤ (p : Int) := (by omega);rw [List.getElem?_eq_none (by omega), decide_eq_false (by simp), Bool.false_and] at hg;have hall : (vs.map EdV.ed).all (File.fitAt f) = false := by rw [← HAL2.out, ← hg]; rfl
         clear hg HFG HAL HAL2 HFT HCO HCH;have HX : Hid (ans = ([], 7)) := lH (HCL.out hall);(go_wp2_with fail)
         try rw [Exit.noGoto_ret]
         go_ret2;exact ⟨.slice none 0 0, by rw [HX.out]; rfl, by rw [HX.out]; exact Own.nil, hb04⟩
       ·have hji : ¬ (j : Int) < (xo.length : Int) := (by omega);have hg := HFG.out;rw [List.drop_eq_nil_of_le (by omega), File.fitGo] at hg;have HA2 : Hid (((vs.map EdV.ed).drop (k + 1)).all (File.fitAt f) = (vs.map EdV.ed).all (File.fitAt f)) := lH (by rw [← HAL2.out, ← hg, Bool.true_and]);clear hg HFG HAL HAL2;(go_wp2_with fail);go_roundw
        case rel => exact ⟨k + 1, by omega, by go_num, rfl, HA2, hb24⟩
        case measure => simp [intOf]; omega
     ·have hni : (f.length : Int) < (n : Int) := (by omega);have hall : (vs.map EdV.ed).all (File.fitAt f) = false := by rw [← HAL.out, decide_eq_false (show ¬ (n : Int) ≤ (f.length : Int) by omega)]; rfl
      have en : IntKind.i64.wrap (n : Int) = (n : Int) := IntWalk.i64_in _ (by omega);have hgn : (f.length : Int) ≤ (n : Int) := (by omega);clear HAL HFT HCO HCH;(go_wp2_with fail)
      go_loopw [8, 11, 12, 13, 40] (fun cl _ _ _ i wx => i = iv 0 ∧ cl = .bool true ∧ wx = w4) (fun _ _ _ _ i _ => 0)
      case atStart => exact ⟨rfl, rfl, rfl⟩
      case round =>
       obtain ⟨rfl, rfl, rfl⟩ := hrel
       by_cases hx0 : 0 < xo.length
       ·have hxi : (0 : Int) < (xo.length : Int) := (by omega);obtain ⟨b2, off2, s, hA2, hb2', hs2, hd2⟩ := Sl.atS (HXO.out _ hb24) hx0;subst hA2;rw [Nat.add_zero] at hd2;clear hs2;have HX : Hid (ans = ([], 7)) := lH (HCL.out hall);(go_wp2_with fail)
        try rw [Exit.noGoto_ret]
        go_ret2;exact ⟨.slice none 0 0, by rw [HX.out]; rfl, by rw [HX.out]; exact Own.nil, hb04⟩
       ·have hxi : ¬ (0 : Int) < (xo.length : Int) := (by omega);have HX : Hid (ans = ([], 7)) := lH (HCL.out hall);(go_wp2_with fail)
        try rw [Exit.noGoto_ret]
        go_ret2;exact ⟨.slice none 0 0, by rw [HX.out]; rfl, by rw [HX.out]; exact Own.nil, hb04⟩
    ·have hki : ¬ (k : Int) < (vs.length : Int) := (by omega);have ha := HA.out;rw [show (vs.map EdV.ed).drop k = [] from List.drop_eq_nil_of_le (by rw [List.length_map]; omega)] at ha
     have HX := lH (HFT.out ha.symm);have HFI : Hid (∀ r ∈ vs, r.ed.hi ≤ f.length) := lH fun r hr => File.fit_hi (HSZ.out r hr).1 (List.all_eq_true.1 ha.symm r.ed (List.mem_map_of_mem hr))
     have hvl : vs.length ≤ 25 := by
      by_cases h : vs.map EdV.ed = []
      ·have := congrArg List.length h; rw [List.length_map, List.length_nil] at this; omega
      ·have := File.chain_len HCH.out (fun x hx => (HCO.out.at_ x hx).2) h;rw [List.length_map] at this; omega
     have HMK : Hid (∀ q, (File.make f ((vs.map EdV.ed).drop q)).length ≤ 700) := lH fun q => by
      have h1 := File.make_le (f := f) (c := (vs.map EdV.ed).drop q) (fun x hx => HCO.out.new x (List.mem_of_mem_drop hx));have h2 : ((vs.map EdV.ed).drop q).length ≤ 25 := by rw [List.length_drop, List.length_map]; omega
      omega
     clear ha HA HFT HCL;(go_wp2_with fail);refine (cloneS F f cf _ hF (hsF.below hb0r)).mono ?_;rintro _ w5 ⟨v5, rfl, ho5, hb5⟩;have hb05 := hb0r.next hb5 nL;have hz5 := hb0r.size;have ho5' : Own strE 9 w.heap.size w5 v5 f := ho5.base hz5;clear ho5 hb5 hz5 hbr hb0r;have ei : IntKind.i64.wrap ((vs.length : Int) - 1) = (vs.length : Int) - 1 := IntWalk.i64_in _ (by omega);(go_wp2_with fail)
     go_loopw [14, 15] (fun v i wx => ∃ q : Nat, q ≤ vs.length ∧ i = iv ((q : Int) - 1) ∧ Hid (Own strE 9 w.heap.size wx v (File.make f ((vs.map EdV.ed).drop q))) ∧ Below w5.heap.size w5 wx) (fun _ i _ => (intOf i + 1).toNat)
     case atStart => exact ⟨vs.length, Nat.le_refl _, rfl, lH (by rw [show (vs.map EdV.ed).drop vs.length = [] from List.drop_eq_nil_of_le (by rw [List.length_map]; omega)]; exact ho5'), rB⟩
     case round =>
      obtain ⟨q, hq, rfl, HO, hbx⟩ := hrel;have hb0x := hb05.next hbx nL;obtain ⟨Ax, cx, rfl, hcx, _⟩ := HO.out.form;have hml := HMK.out q
      by_cases hq0 : q = 0
      ·subst hq0;have hqi : ¬ (0 : Int) ≤ -1 := (by omega);have ho := HO.out;rw [List.drop_zero] at ho hml ⊢
       by_cases h24 : 24 < (File.make f (vs.map EdV.ed)).length
       ·have h24i : (24 : Int) < ((File.make f (vs.map EdV.ed)).length : Int) := (by omega);have HX2 : Hid (ans = ([], 2)) := lH (by rw [HX.out, if_pos h24]);clear HO ho;(go_wp2_with fail)
        try rw [Exit.noGoto_ret]
        go_ret2;exact ⟨.slice none 0 0, by rw [HX2.out]; rfl, by rw [HX2.out]; exact Own.nil, hb0x⟩
       ·have h24i : ¬ (24 : Int) < ((File.make f (vs.map EdV.ed)).length : Int) := (by omega);have HX2 : Hid (ans = (File.make f (vs.map EdV.ed), 0)) := lH (by rw [HX.out, if_neg h24]);have HO2 := lH ho;clear HO ho;(go_wp2_with fail)
        try rw [Exit.noGoto_ret]
        go_ret2;exact ⟨_, by rw [HX2.out]; rfl, by rw [HX2.out]; exact HO2.out, hb0x⟩
      ·obtain ⟨r, rfl⟩ : ∃ r, q = r + 1 := ⟨q - 1, by omega⟩;have hri : ((r + 1 : Nat) : Int) - 1 = (r : Int) := (by omega);have hrl : r < vs.length := (by omega);have hrli : (r : Int) < (vs.length : Int) := (by omega);have hr0 : (0 : Int) ≤ (r : Int) := (by omega);rw [hri];obtain ⟨b, off, x, rfl, hb0, hx, hc0, hc1, hc2⟩ := Sl.atEd (hs.below hb0x) hrl;have hxs := HSZ.out x (mem_at hx);have hxh := HFI.out x (mem_at hx);have hxn := ((HOK.out x (mem_at hx)).below hb0x).new;have hd := drop_ed hx
       have hge := File.make_ge (f := f) ((File.chain_drop HCH.out (by rw [List.getElem?_map, hx]; rfl)).weaken (Nat.le_succ x.ed.hi)) (fun y hy => by
        obtain ⟨z, hz, rfl⟩ := List.mem_map.1 (List.mem_of_mem_drop hy);exact HFI.out z hz) hxh
       have hmk : File.make f ((vs.map EdV.ed).drop r) = File.made (File.make f ((vs.map EdV.ed).drop (r + 1))) x.ed := by rw [hd]; rfl
       obtain ⟨xa, xA, xc, xo, xA', xc', xn⟩ := x;simp only at hc0 hc1 hc2 hxs hxn;obtain ⟨n, rfl⟩ : ∃ n : Nat, xa = (n : Int) := ⟨xa.toNat, by omega⟩;have hge2 : n + xo.length ≤ (File.make f ((vs.map EdV.ed).drop (r + 1))).length := hge;have hmk2 : File.make f ((vs.map EdV.ed).drop r) = (File.make f ((vs.map EdV.ed).drop (r + 1))).take n ++ (xn ++ (File.make f ((vs.map EdV.ed).drop (r + 1))).drop (n + xo.length)) := hmk;have HMD := lH (made_spec Ax (File.make f ((vs.map EdV.ed).drop (r + 1))) cx n xA xo.length xc xA' xn xc' wr (by omega) (by omega) hge2 hcx HO.out.sl hxn);rw [← hmk2] at HMD;have HMR := lH (rfl : File.make f ((vs.map EdV.ed).drop r) = File.make f ((vs.map EdV.ed).drop r));have hzx := hb0x.size;clear hge hge2 hmk hmk2 hd hx hxh hxn HO;generalize (File.make f ((vs.map EdV.ed).drop (r + 1))).length = L at *;(go_wp2_with fail);refine HMD.out.mono ?_;rintro _ w7 ⟨v7, rfl, ho7, hb7⟩
       (go_wp2_with fail);go_roundw
       case rel => exact ⟨r, by omega, by go_num, lH (ho7.base hzx), hbx.next hb7 nL⟩
       case measure => first | (simp [intOf]; done) | (simp [intOf]; omega)
  ·rw [if_neg hz2] at hans;have HX := lH hans;generalize File.checkChange (vs.map EdV.ed) = e0 at *;have he0 : (e0 != 0) = true := by simpa using hz2
   clear hz hz2 hans hgf
   go_enter Tryz.func56, Tryz.ntmps56
   (go_wp2_with fail)
   go_step3
   (go_wp2_with fail);refine HCF.out.mono ?_;rintro _ w1 ⟨rfl, hb1⟩;(go_wp2_with fail);refine (HCC.out w1 hb1).mono ?_;rintro _ w2 ⟨rfl, hb2⟩;(go_wp2_with fail)
   try rw [Exit.noGoto_ret]
   go_ret2;exact ⟨.slice none 0 0, by rw [HX.out]; rfl, by rw [HX.out]; exact Own.nil, hb1.next hb2 nL⟩
 ·rw [if_neg hz] at hans;have HX := lH hans;generalize File.check f = e0 at *;have he0 : (e0 != 0) = true := by simpa using hz
  clear hz hans
  go_enter Tryz.func56, Tryz.ntmps56
  (go_wp2_with fail)
  go_step3
  (go_wp2_with fail);refine HCF.out.mono ?_;rintro _ w1 ⟨rfl, hb1⟩;(go_wp2_with fail)
  try rw [Exit.noGoto_ret]
  go_ret2;exact ⟨.slice none 0 0, by rw [HX.out]; rfl, by rw [HX.out]; exact Own.nil, hb1⟩
end Fl
end
end Go.Proofs.YtblgkmdadholmabGreatDoor
section
namespace Go.Proofs.YtblgkmdadholmabGreatDoor
namespace File
set_option linter.unusedSectionVars false
section
variable {α : Type} [DecidableEq α]
def Block.swap (b : Block α) : Block α := ⟨b.lo, b.hi, b.e1, b.e0⟩
theorem make_has {f : List α} : ∀ {c : List (Edit α)} {lo : Nat}, Chain lo c → Within f.length c → make f c = f.take lo ++ hasGo f f.length lo c
 | [], lo, _, _ => by
  simp only [make, List.foldr_nil, hasGo, cut];rw [List.take_of_length_le (l := f.drop lo) (by simp), List.take_append_drop]
 | x :: r, lo, ⟨h1, h2⟩, hw => by
  have hx := hw x List.mem_cons_self;have hr : Within f.length r := fun y hy => hw y (List.mem_cons_of_mem _ hy)
  have hlh := x.lo_hi;have hlo : lo ≤ x.lo := by unfold Edit.lo; omega
  have ih := make_has (f := f) (h2.weaken (Nat.le_succ x.hi)) hr
  show made (make f r) x = _
  rw [ih];simp only [made, hasGo];have e1 : x.at_.toNat = x.lo := rfl;have e2 : x.at_.toNat + x.old.length = x.hi := rfl;have hl : (f.take x.hi).length = x.hi := by rw [List.length_take]; omega
  rw [e2, e1, List.take_append_of_le_length (by omega), List.take_take, Nat.min_eq_left hlh]
  have e3 : (f.take x.hi ++ hasGo f f.length x.hi r).drop x.hi = hasGo f f.length x.hi r := by
   rw [List.drop_append_of_le_length (by omega), List.drop_of_length_le (by omega), List.nil_append]
  rw [e3, ← List.append_assoc (f.take lo)]
  congr 1
  unfold cut
  have : f.take x.lo = f.take lo ++ (f.drop lo).take (x.lo - lo) := by
   rw [← List.take_add]
   congr 1
   omega
  rw [this]
def Parts (n : Nat) : Nat → List (Nat × Nat) → Prop
 | _, [] => True
 | i, p :: r => i ≤ p.1 ∧ p.1 ≤ p.2 ∧ p.2 ≤ n ∧ Parts n (p.2 + 1) r
theorem Parts.weaken {n : Nat} : ∀ {l : List (Nat × Nat)} {i i' : Nat}, Parts n i l → i' ≤ i → Parts n i' l
 | [], _, _, _, _ => trivial
 | _ :: _, _, _, ⟨h1, h2⟩, h => ⟨Nat.le_trans h h1, h2⟩
theorem joinGo_parts {base : List α} {n : Nat} : ∀ {l : List (Block α)} {i j : Nat}, BlocksOk n i l → Parts n i (joinGo base j l).2
 | [], _, _, _ => trivial
 | b :: r, i, j, ⟨h1, h2, h3, _, _, _, _, h8⟩ => by
  have ih : Parts n (b.hi + 1) (joinGo base b.hi r).2 := joinGo_parts h8;simp only [joinGo]
  split
  ·exact ih.weaken (by omega)
  ·split
   ·exact ih.weaken (by omega)
   ·exact ⟨h1, h2, h3, ih⟩
theorem join_parts (base a b : List α) : Parts base.length 0 (join base a b).2 := joinGo_parts (blocks_ok (chain_diff base a) (chain_diff base b) (within_diff base a) (within_diff base b))
theorem mem_cut {a : List α} {i k : Nat} {s : α} (h : s ∈ cut a i k) : s ∈ a := List.mem_of_mem_drop (List.mem_of_mem_take h)
end
end File
end Go.Proofs.YtblgkmdadholmabGreatDoor
namespace Go.Proofs.YtblgkmdadholmabGreatDoor
namespace File
theorem ordered_of : ∀ {c : List (Edit ByteArray)} {lo : Nat}, Chain lo c → ordered c = true
 | [], _, _ => rfl
 | [_], _, _ => rfl
 | x :: y :: r, lo, ⟨h1, h2⟩ => by
  have ih := ordered_of h2;unfold ordered;rw [Bool.and_eq_true, Bool.not_eq_true', decide_eq_false_iff_not];refine ⟨?_, ih⟩;have := h2.1;unfold Edit.hi at this;omega
theorem go_some {a b : List ByteArray} : ∀ (l : List (Nat × Nat)) (i j : Nat), Pairs a b i j l → i ≤ a.length → j ≤ b.length → ∀ x ∈ diffGo a b i j (l ++ [(a.length, b.length)]), 0 < x.old.length + x.new.length
 | [], i, j, _, hi, hj, x, hx => by
  simp only [List.nil_append, diffGo, List.append_nil] at hx
  split at hx
  ·cases hx
  ·rename_i h
   rw [List.mem_singleton.1 hx];simp only [cut_length nL hi, cut_length nL hj];omega
 | p :: r, i, j, ⟨h1, h2, ⟨h3, h4, _⟩, h6⟩, hi, hj, x, hx => by
  simp only [List.cons_append, diffGo] at hx
  rcases List.mem_append.1 hx with hx | hx
  ·split at hx
   ·cases hx
   ·rename_i h
    rw [List.mem_singleton.1 hx];simp only [cut_length (Nat.le_of_lt h3) h1, cut_length (Nat.le_of_lt h4) h2];omega
  ·exact go_some r _ _ h6 (by omega) (by omega) x hx
theorem go_mem {a b : List ByteArray} : ∀ (l : List (Nat × Nat)) (i j : Nat), ∀ x ∈ diffGo a b i j l, (∀ s ∈ x.old, s ∈ a) ∧ (∀ s ∈ x.new, s ∈ b) ∧ x.old.length ≤ a.length ∧ x.new.length ≤ b.length
 | [], _, _, _, h => by cases h
 | p :: r, i, j, x, h => by
  unfold diffGo at h
  rcases List.mem_append.1 h with h | h
  ·split at h
   ·cases h
   ·rw [List.mem_singleton.1 h];exact ⟨fun s hs => mem_cut hs, fun s hs => mem_cut hs, cut_len _ _ _, cut_len _ _ _⟩
  ·exact go_mem r _ _ x h
theorem lined_ok {l : List ByteArray} (h : ∀ s ∈ l, okLine s = true ∧ s.size ≤ 40) : lined l = 0 := by
 unfold lined;rw [if_pos (List.all_eq_true.2 fun s hs => by have := (h s hs).2; simp only [wide, decide_eq_true_eq]; omega), if_pos (List.all_eq_true.2 fun s hs => (h s hs).1)]
theorem ch_go {a b : List ByteArray} (ga : Fl.Good a) (gb : Fl.Good b) {l : List (Nat × Nat)} (hp : Pairs a b 0 0 l) : ChOk (diffGo a b 0 0 (l ++ [(a.length, b.length)])) := by
 obtain ⟨hc, hw⟩ := chain_go l 0 0 hp (Nat.zero_le _) (Nat.zero_le _);have h1 := ga.many;have h2 := gb.many;have hm := go_mem (a := a) (b := b) (l ++ [(a.length, b.length)]) 0 0;refine ⟨fun x hx => ?_, fun x hx => by have := (hm x hx).2.2.1; omega, fun x hx => by have := (hm x hx).2.2.2; omega, go_some l 0 0 hp (Nat.zero_le _) (Nat.zero_le _), lined_ok fun s hs => ?_, ordered_of hc⟩
 ·have k1 : ((0 : Nat) : Int) ≤ x.at_ := hc.pos x hx;have k2 : x.at_.toNat + x.old.length ≤ a.length := hw x hx;omega
 ·obtain ⟨x, hx, hs⟩ := List.mem_flatMap.1 hs
  rcases List.mem_append.1 hs with hs | hs
  ·have := (hm x hx).1 s hs; exact ⟨ga.ok s this, ga.wide s this⟩
  ·have := (hm x hx).2.1 s hs; exact ⟨gb.ok s this, gb.wide s this⟩
theorem backTry_of : ∀ {c : List (Edit ByteArray)} {n : Int}, (∀ x ∈ backGo n c, x.at_ ≤ 24) → backTry n c = some (backGo n c)
 | [], _, _ => rfl
 | x :: r, n, h => by
  have h0 := h ⟨x.at_ + n, x.new, x.old⟩ (by simp [backGo]);simp only at h0;unfold backTry backGo;rw [if_neg (by omega), show n + ((x.new.length : Int) - (x.old.length : Int)) = n + x.new.length - x.old.length by omega, backTry_of (fun y hy => h y (by unfold backGo; exact List.mem_cons_of_mem _ hy))];rfl
theorem back_facts {a b : List ByteArray} (ga : Fl.Good a) (gb : Fl.Good b) : checkChange (diff a b) = 0 ∧ checkChange (back (diff a b)) = 0 ∧ backAns (diff a b) = (back (diff a b), 0) ∧ backAns (back (diff a b)) = (diff a b, 0) := by
 have hp := common_pairs a b
 have e1 : back (diff a b) = diffGo b a 0 0 (swap (common a b) ++ [(b.length, a.length)]) := by
  have := back_go (common a b) 0 0 hp (Nat.zero_le _) (Nat.zero_le _)
  simpa [back, diff] using this
 have c1 : ChOk (diff a b) := ch_go ga gb hp;have c2 : ChOk (back (diff a b)) := by rw [e1]; exact ch_go gb ga (pairs_swap hp)
 have e2 := back_back (diff a b);refine ⟨ch_zero c1, ch_zero c2, ?_, ?_⟩
 ·unfold backAns;rw [if_pos (ch_zero c1), backTry_of (n := 0) (fun x hx => (c2.at_ x hx).2)];rfl
 ·unfold backAns;rw [if_pos (ch_zero c2), backTry_of (n := 0) (fun x hx => (c1.at_ x (by rw [← e2]; exact hx)).2)]
  show (back (back (diff a b)), (0 : Int)) = _
  rw [e2]
def more : List (Edit ByteArray) → Int
 | [] => 0
 | x :: r => (x.new.length : Int) - (x.old.length : Int) + more r
end File
end Go.Proofs.YtblgkmdadholmabGreatDoor
namespace Go.Proofs.YtblgkmdadholmabGreatDoor
namespace File
section
variable {α : Type} [DecidableEq α]
theorem parts_len {n : Nat} : ∀ {l : List (Nat × Nat)} {i : Nat}, Parts n i l → l ≠ [] → l.length + i ≤ n + 1
 | [], _, _, h => absurd rfl h
 | [p], i, ⟨h1, h2, h3, _⟩, _ => by simp; omega
 | p :: q :: r, i, ⟨h1, h2, h3, h4⟩, _ => by
  have := parts_len h4 (by simp);simp only [List.length_cons] at this ⊢;omega
end
end File
end Go.Proofs.YtblgkmdadholmabGreatDoor
namespace Go.Proofs.YtblgkmdadholmabGreatDoor
namespace File
theorem joinAns_good {base a b : List ByteArray} (gB : Fl.Good base) (ga : Fl.Good a) (gb : Fl.Good b) : joinAns base a b = if 24 < (join base a b).1.length then (2, [], []) else (0, (join base a b).1, (join base a b).2) := by
 unfold joinAns Fl.errOf;rw [if_neg (by rw [Fl.check_of_good gB]; simp), if_pos (Fl.check_of_good ga), if_neg (by rw [Fl.check_of_good gb]; simp)]
theorem joinAns_small {base a b : List ByteArray} (gB : Fl.Good base) (ga : Fl.Good a) (gb : Fl.Good b) : (joinAns base a b).2.1.length ≤ 24 ∧ (joinAns base a b).2.2.length ≤ 25 := by
 rw [joinAns_good gB ga gb]
 split
 ·exact ⟨Nat.zero_le _, Nat.zero_le _⟩
 ·refine ⟨by simp only; omega, ?_⟩;have hp := join_parts base a b;simp only
  by_cases h : (join base a b).2 = []
  ·rw [h]; exact Nat.zero_le _
  ·have := parts_len hp h;have := gB.many;omega
end File
end Go.Proofs.YtblgkmdadholmabGreatDoor
namespace Go.Proofs.YtblgkmdadholmabGreatDoor
namespace File
def posOf : (Int × Nat) ⊕ (List ByteArray × List UInt8 × Nat) → Nat
 | .inl x => x.2
 | .inr x => x.2.2
theorem takes_eq {a : UInt8} {l : List UInt8} (h : takes (· == a) l = true) : l = a :: rest (· == a) l := by
 cases l with
 | nil => cases h
 | cons b r =>
  have hb : b = a := by simpa [takes] using h
  subst hb;rw [show rest (· == b) (b :: r) = r from if_pos (by simp)]
theorem dig_of {b : UInt8} (h : isDig b = true) : 48 ≤ b.toNat ∧ b.toNat ≤ 57 := by simpa [isDig] using h
theorem readNum_eq {l : List UInt8} {k : Nat} (h : (readNum l k).2.1 = true) : l = Lib.decDigits (readNum l k).1 ++ 58 :: (readNum l k).2.2.1 := by
 cases l with
 | nil => cases h
 | cons b r =>
  unfold readNum at h ⊢
  by_cases hb : isDig b = true
  ·simp only [hb, if_true] at h ⊢;have h48 := dig_of hb
   by_cases hc : 0 < b.toNat - 48 ∧ isDig (nextB r) = true ∧ 10 * (b.toNat - 48) + ((nextB r).toNat - 48) ≤ 40
   ·rw [if_pos hc] at h ⊢;dsimp only at h ⊢
    cases r with
    | nil => exact absurd hc.2.1 (by decide)
    | cons c q =>
     have hcd : isDig c = true := hc.2.1;have h49 := dig_of hcd;rw [show rest isDig (c :: q) = q from if_pos hcd] at h ⊢;rw [show nextB (c :: q) = c from rfl];rw [Lib.decDigits_two (by omega) (by omega)]
     have e1 : UInt8.ofNat (48 + (10 * (b.toNat - 48) + (c.toNat - 48)) / 10) = b := by
      rw [show 48 + (10 * (b.toNat - 48) + (c.toNat - 48)) / 10 = b.toNat by omega];exact UInt8.ofNat_toNat
     have e2 : UInt8.ofNat (48 + (10 * (b.toNat - 48) + (c.toNat - 48)) % 10) = c := by
      rw [show 48 + (10 * (b.toNat - 48) + (c.toNat - 48)) % 10 = c.toNat by omega];exact UInt8.ofNat_toNat
     rw [e1, e2, ← takes_eq h];rfl
   ·rw [if_neg hc] at h ⊢;dsimp only at h ⊢;rw [Lib.decDigits_one (by omega), show 48 + (b.toNat - 48) = b.toNat by omega, UInt8.ofNat_toNat, ← takes_eq h];rfl
  ·simp only [if_neg hb] at h; cases h
theorem bts_ba (x : List UInt8) : bts (ba x) = x := by simp [ba]
theorem takes_cons (a : UInt8) (l : List UInt8) : takes (· == a) (a :: l) = true := by simp [takes]
theorem rest_cons (a : UInt8) (l : List UInt8) : rest (· == a) (a :: l) = l := if_pos (by simp)
theorem readNum_self {n : Nat} (h : n ≤ 40) (r : List UInt8) (k : Nat) : ∃ k', readNum (Lib.decDigits n ++ 58 :: r) k = (n, true, r, k') := by
 by_cases h1 : n < 10
 ·rw [Lib.decDigits_one h1]
  have ht : (UInt8.ofNat (48 + n)).toNat = 48 + n := by
   rw [UInt8.toNat_ofNat']; omega
  have hd : isDig (UInt8.ofNat (48 + n)) = true := by simp [isDig, ht]; omega
  refine ⟨k + 1 + 1, ?_⟩;unfold readNum;simp only [List.cons_append, List.nil_append, hd, if_true];rw [if_neg (by rintro ⟨_, h, _⟩; exact absurd h (by show ¬ isDig 58 = true; decide)), takes_cons, rest_cons, ht];unfold on;rw [if_pos (takes_cons _ _)];exact congrArg (fun m => (m, true, r, k + 1 + 1)) (by omega)
 ·rw [Lib.decDigits_two h1 (by omega)]
  have ht : (UInt8.ofNat (48 + n / 10)).toNat = 48 + n / 10 := by
   rw [UInt8.toNat_ofNat']; omega
  have ht2 : (UInt8.ofNat (48 + n % 10)).toNat = 48 + n % 10 := by
   rw [UInt8.toNat_ofNat']; omega
  have hd : isDig (UInt8.ofNat (48 + n / 10)) = true := by simp [isDig, ht]; omega
  have hd2 : isDig (UInt8.ofNat (48 + n % 10)) = true := by simp [isDig, ht2]; omega
  refine ⟨k + 1 + 1 + 1, ?_⟩;unfold readNum;simp only [List.cons_append, List.nil_append, hd, if_true];rw [if_pos ⟨by omega, hd2, by show 10 * _ + ((UInt8.ofNat (48 + n % 10)).toNat - 48) ≤ 40; omega⟩];rw [show rest isDig (UInt8.ofNat (48 + n % 10) :: 58 :: r) = 58 :: r from if_pos hd2, takes_cons, rest_cons];rw [show nextB (UInt8.ofNat (48 + n % 10) :: 58 :: r) = UInt8.ofNat (48 + n % 10) from rfl, ht, ht2];rw [show on isDig (UInt8.ofNat (48 + n % 10) :: 58 :: r) (k + 1) = k + 1 + 1 from if_pos hd2];unfold on;rw [if_pos (takes_cons _ _)];exact congrArg (fun m => (m, true, r, k + 1 + 1 + 1)) (by omega)
theorem rest_len (p : UInt8 → Bool) (l : List UInt8) (k : Nat) : on p l k + (rest p l).length = k + l.length := by
 cases l with
 | nil => rfl
 | cons b r =>
  unfold on rest takes
  by_cases h : p b = true
  ·simp only [h, if_true, List.length_cons]; omega
  ·simp only [h, if_false, Bool.false_eq_true]
theorem takeN_len : ∀ (n : Nat) (l : List UInt8) (k : Nat), (takeN n l k).2.2 + (takeN n l k).2.1.length = k + l.length
 | 0, _, _ => rfl
 | n + 1, l, k => by
  unfold takeN
  split
  ·rw [takeN_len n, rest_len]
  ·rfl
theorem readNum_len' (l : List UInt8) (k : Nat) : (readNum l k).2.2.2 + (readNum l k).2.2.1.length = k + l.length := by
 cases l with
 | nil => rfl
 | cons b r =>
  unfold readNum;dsimp only
  split
  ·split
   ·dsimp only;rw [rest_len, rest_len, List.length_cons]; omega
   ·dsimp only;rw [rest_len, List.length_cons]; omega
  ·rfl
theorem readLine_len' (l : List UInt8) (k : Nat) : (readLine l k).2.2 + (readLine l k).2.1.length = k + l.length := by
 have h1 := readNum_len' l k;unfold readLine;dsimp only;generalize readNum l k = q at *;obtain ⟨n, s, l1, k1⟩ := q;dsimp only at h1 ⊢
 have h2 : (runN s n l1 k1).2.2 + (runN s n l1 k1).2.1.length = k1 + l1.length := by
  unfold runN
  split
  ·exact takeN_len _ _ _
  ·rfl
 generalize runN s n l1 k1 = t at *
 split
 ·split
  ·dsimp only; rw [rest_len]; omega
  ·dsimp only; omega
 ·dsimp only; omega
theorem lines_len : ∀ (n : Nat) (out : List ByteArray) (l : List UInt8) (k : Nat), (∀ x, lines n out l k = .inl x → (x.1 = 2 ∨ x.1 = 11) ∧ x.2 ≤ k + l.length) ∧ (∀ o r p, lines n out l k = .inr (o, r, p) → p + r.length = k + l.length)
 | 0, _, _, _ => ⟨fun _ h => by injection h with h; subst h; exact ⟨.inr rfl, Nat.le_add_right _ _⟩, fun _ _ _ h => by cases h⟩
 | n + 1, out, l, k => by
  unfold lines
  split
  ·exact ⟨fun _ h => (by cases h), fun o r p e => by injection e with e; injection e with e1 e2; injection e2 with e2 e3; subst e2; subst e3; rfl⟩
  ·split
   ·refine ⟨fun _ h => ?_, fun _ _ _ h => by cases h⟩;injection h with h;subst h;refine ⟨?_, Nat.le_add_right _ _⟩;dsimp only
    split
    ·exact .inl rfl
    ·exact .inr rfl
   ·have hl := readLine_len' l k
    split
    ·obtain ⟨h1, h2⟩ := lines_len n (out ++ [ba _]) (readLine l k).2.1 (readLine l k).2.2;exact ⟨fun x h => ⟨(h1 x h).1, by have := (h1 x h).2; omega⟩, fun o r p h => by rw [h2 o r p h, hl]⟩
    ·refine ⟨fun _ h => ?_, fun _ _ _ h => by cases h⟩;injection h with h;subst h;exact ⟨.inr rfl, by dsimp only; omega⟩
theorem matchAll_len : ∀ (ws l : List UInt8) (k : Nat), (matchAll ws l k).2.2 + (matchAll ws l k).2.1.length = k + l.length
 | [], _, _ => rfl
 | a :: ws, l, k => by
  unfold matchAll
  split
  ·rw [matchAll_len ws, rest_len]
  ·rfl
theorem parse_err (t : List UInt8) (h : (parse t).2.2 ≠ 0) : (parse t).1 = [] ∧ (parse t).2.1 ≤ t.length ∧ ((parse t).2.2 = 2 ∨ (parse t).2.2 = 8 ∨ (parse t).2.2 = 11) := by
 obtain ⟨a1, a2⟩ := lines_len 25 [] t 0;unfold parse at h ⊢
 cases hL : lines 25 [] t 0 with
 | inl x =>
  obtain ⟨b1, b2⟩ := a1 x hL;refine ⟨rfl, ?_, ?_⟩
  ·show x.2 ≤ t.length; omega
  ·rcases b1 with b1 | b1
   ·exact .inl b1
   ·exact .inr (.inr b1)
 | inr x =>
  obtain ⟨o, r, p⟩ := x;have b := a2 o r p hL;rw [hL] at h;unfold ending at h ⊢;dsimp only at h ⊢;have m := matchAll_len (endOf o) (rest (· == 61) r) (on (· == 61) r p);have q := rest_len (· == 61) r p
  split
  ·rename_i hc; rw [if_pos hc] at h; exact absurd rfl h
  ·refine ⟨rfl, ?_, .inr (.inl rfl)⟩;dsimp only;omega
end File
namespace File
theorem lines_good : ∀ (n : Nat) (out : List ByteArray) (l : List UInt8) (k : Nat) (o : List ByteArray) (r : List UInt8) (p : Nat), Fl.Good out → lines n out l k = .inr (o, r, p) → Fl.Good o
 | 0, _, _, _, _, _, _, _, h => by cases h
 | n + 1, out, l, k, o, r, p, hg, h => by
  unfold lines at h
  by_cases h1 : nextB l = 61
  ·rw [if_pos h1] at h;injection h with e;injection e with e1 e2;exact e1 ▸ hg
  ·rw [if_neg h1] at h
   by_cases h2 : out.length = 24
   ·rw [if_pos h2] at h; cases h
   ·rw [if_neg h2] at h
    cases hx : (readLine l k).1 with
    | none => rw [hx] at h; cases h
    | some x =>
     simp only [hx] at h;have hxg := Fl.readLine_good hx;have := hg.many;exact lines_good n _ _ _ _ _ _ (hg.snoc (by omega) hxg.1 hxg.2) h
theorem parse_good {t : List UInt8} {g : List ByteArray} {n : Nat} (h : parse t = (g, n, 0)) : check g = 0 := by
 by_cases he : (parse t).2.2 = 0
 ·unfold parse at h he
  cases hL : lines 25 [] t 0 with
  | inl x =>
   rw [hL] at h he;have := ((lines_len 25 [] t 0).1 x hL).1;have he : x.1 = 0 := he;omega
  | inr x =>
   obtain ⟨o, r, p⟩ := x;rw [hL] at h he;unfold ending at h he;dsimp only at h he
   by_cases hc : (matchAll (endOf o) (rest (· == 61) r) (on (· == 61) r p)).1 = true ∧ (matchAll (endOf o) (rest (· == 61) r) (on (· == 61) r p)).2.1 = []
   ·rw [if_pos hc] at h;injection h with h1 h2;rw [← h1];exact Fl.check_of_good (lines_good _ _ _ _ _ _ _ Fl.Good.nil hL)
   ·rw [if_neg hc] at he;exact absurd he (by decide : (8 : Int) ≠ 0)
 ·rw [h] at he; exact absurd rfl he
end File
end Go.Proofs.YtblgkmdadholmabGreatDoor
end
namespace Go.Proofs.YtblgkmdadholmabGreatDoor
section
namespace File
theorem on_no' {p : UInt8 → Bool} {l : List UInt8} (h : takes p l = false) (k : Nat) : on p l k = k := by unfold on; rw [h]; rfl
end File
namespace File
def head (n : Nat) : List UInt8 := Lib.decDigits n ++ [58]
def bodyOk (n : Nat) : Nat → List UInt8 → Bool
 | _, [] => true
 | k, b :: r => if k < n then okB b && bodyOk n (k + 1) r else if k = n then b == 10 && bodyOk n (k + 1) r else false
def canAt (n : Nat) (s : List UInt8) : Option (Bool × Bool) :=
 if s.length ≤ (head n).length then (if (head n).take s.length = s then some (true, false) else none)
 else if s.take (head n).length = head n then some (if bodyOk n 0 (s.drop (head n).length) then (true, decide ((s.drop (head n).length).length = n + 1)) else (false, false))
 else none
def canGo : Nat → Nat → List UInt8 → Bool × Bool
 | 0, _, _ => (false, false)
 | f + 1, n, s => match canAt n s with
  | some r => r
  | none => canGo f (n + 1) s
def can (s : List UInt8) : Bool × Bool := canGo 41 0 s
theorem canGo_of {s : List UInt8} {r : Bool × Bool} : ∀ (f n : Nat), (∃ m, n ≤ m ∧ m < n + f ∧ canAt m s = some r) → (∀ m, m < n + f → ∀ r', canAt m s = some r' → r' = r) → canGo f n s = r
 | 0, n, ⟨m, h1, h2, _⟩, _ => by omega
 | f + 1, n, ⟨m, h1, h2, h3⟩, h => by
  unfold canGo
  cases hc : canAt n s with
  | some r' => exact h n (by omega) r' hc
  | none =>
   have : n ≠ m := fun e => by rw [e, h3] at hc; cases hc
   exact canGo_of f (n + 1) ⟨m, by omega, by omega, h3⟩ fun m hm => h m (by omega)
theorem canGo_no {s : List UInt8} : ∀ (f n : Nat), (∀ m, m < n + f → canAt m s = none) → canGo f n s = (false, false)
 | 0, _, _ => rfl
 | f + 1, n, h => by
  unfold canGo;rw [h n (by omega)];exact canGo_no f (n + 1) fun m hm => h m (by omega)
theorem canAt_head (n : Nat) (body : List UInt8) : canAt n (head n ++ body) = some (if bodyOk n 0 body then (true, decide (body.length = n + 1)) else (false, false)) := by
 unfold canAt
 by_cases hb : body = []
 ·subst hb;rw [if_pos (by simp), if_pos (by simp)];simp [bodyOk]
 ·have : 0 < body.length := List.length_pos_iff.2 hb;rw [if_neg (by simp; omega), List.take_left, if_pos rfl, List.drop_left]
theorem canAt_pre {n : Nat} {s u : List UInt8} (h : s ++ u = head n) : canAt n s = some (true, false) := by
 unfold canAt;rw [← h, if_pos (by simp), List.take_left, if_pos rfl]
theorem canAt_cases {n : Nat} {s : List UInt8} {r : Bool × Bool} (h : canAt n s = some r) : (∃ u, s ++ u = head n ∧ r = (true, false)) ∨ ∃ body, s = head n ++ body ∧ body ≠ [] := by
 unfold canAt at h
 split at h
 ·split at h
  ·rename_i h1 h2
   injection h with h
   exact .inl ⟨(head n).drop s.length, by conv => lhs; lhs; rw [← h2]
                                          exact List.take_append_drop _ _, h.symm⟩
  ·cases h
 ·split at h
  ·rename_i h1 h2
   refine .inr ⟨s.drop (head n).length, by conv => rhs; lhs; rw [← h2]
                                           exact (List.take_append_drop _ _).symm, fun e => h1 ?_⟩
   have := congrArg List.length e;rw [List.length_drop] at this;simp at this;omega
  ·cases h
theorem head_inj {n m : Nat} {x y : List UInt8} (hn : n ≤ 40) (hm : m ≤ 40) (h : head n ++ x = head m ++ y) : n = m ∧ x = y := by
 obtain ⟨k1, h1⟩ := readNum_self hn x 0;obtain ⟨k2, h2⟩ := readNum_self hm y 0;unfold head at h;rw [List.append_assoc, List.append_assoc] at h;have h : Lib.decDigits n ++ 58 :: x = Lib.decDigits m ++ 58 :: y := h;rw [h, h2] at h1;injection h1 with a b;injection b with b c;injection c with c d;exact ⟨a.symm, c.symm⟩
theorem can_head {n : Nat} (hn : n ≤ 40) (body : List UInt8) : can (head n ++ body) = if bodyOk n 0 body then (true, decide (body.length = n + 1)) else (false, false) := by
 refine canGo_of 41 0 ⟨n, by omega, by omega, canAt_head n body⟩ fun m hm r hr => ?_
 have e : m = n := by
  rcases canAt_cases hr with ⟨u, hu, _⟩ | ⟨b, hb, _⟩
  ·exact (head_inj (x := body ++ u) (y := []) hn (by omega) (by rw [List.append_nil, ← hu, List.append_assoc])).1.symm
  ·exact (head_inj hn (by omega) hb).1.symm
 rw [e, canAt_head] at hr;injection hr with hr;exact hr.symm
theorem can_pre {n : Nat} (hn : n ≤ 40) {s u : List UInt8} (h : s ++ u = head n) : can s = (true, false) := by
 refine canGo_of 41 0 ⟨n, by omega, by omega, canAt_pre h⟩ fun m hm r hr => ?_
 rcases canAt_cases hr with ⟨_, _, e⟩ | ⟨b, hb, hne⟩
 ·exact e
 ·obtain ⟨_, e⟩ := head_inj (x := b ++ u) (y := []) (by omega : m ≤ 40) hn (by rw [List.append_nil, ← h, hb, List.append_assoc]);exact absurd (List.append_eq_nil_iff.1 e).1 hne
theorem can_no {s : List UInt8} (h : ∀ m, m ≤ 40 → (∀ u, s ++ u ≠ head m) ∧ ∀ b, s ≠ head m ++ b) : can s = (false, false) := by
 refine canGo_no 41 0 fun m hm => ?_
 cases hc : canAt m s with
 | none => rfl
 | some r =>
  obtain ⟨h1, h2⟩ := h m (by omega)
  rcases canAt_cases hc with ⟨u, hu, _⟩ | ⟨b, hb, _⟩
  ·exact absurd hu (h1 u)
  ·exact absurd hb (h2 b)
theorem head_one {m : Nat} (h : m < 10) : head m = [UInt8.ofNat (48 + m), 58] := by unfold head; rw [Lib.decDigits_one h]; rfl
theorem head_two {m : Nat} (h1 : ¬ m < 10) (h2 : m ≤ 40) : head m = [UInt8.ofNat (48 + m / 10), UInt8.ofNat (48 + m % 10), 58] := by unfold head; rw [Lib.decDigits_two h1 (by omega)]; rfl
theorem dig_nat {m : Nat} (h : m < 10) : isDig (UInt8.ofNat (48 + m)) = true ∧ (UInt8.ofNat (48 + m)).toNat = 48 + m := by
 have ht : (UInt8.ofNat (48 + m)).toNat = 48 + m := by rw [UInt8.toNat_ofNat']; omega
 exact ⟨by simp [isDig, ht]; omega, ht⟩
theorem head_form {m : Nat} (h : m ≤ 40) : (∃ b, isDig b = true ∧ b.toNat = 48 + m ∧ head m = [b, 58] ∧ m < 10) ∨ ∃ b c, isDig b = true ∧ isDig c = true ∧ 48 < b.toNat ∧ m = 10 * (b.toNat - 48) + (c.toNat - 48) ∧ head m = [b, c, 58] := by
 by_cases h1 : m < 10
 ·obtain ⟨a, b⟩ := dig_nat h1;exact .inl ⟨_, a, b, head_one h1, h1⟩
 ·obtain ⟨a, b⟩ := dig_nat (m := m / 10) (by omega);obtain ⟨c, d⟩ := dig_nat (m := m % 10) (by omega);exact .inr ⟨_, _, a, c, by omega, by omega, head_two h1 h⟩
theorem can_b {b : UInt8} (h : isDig b = false) : can [b] = (false, false) := by
 refine can_no fun m hm => ?_
 rcases head_form hm with ⟨x, d, _, e, _⟩ | ⟨x, y, d, _, _, _, e⟩
 ·rw [e];exact ⟨fun u hu => (by injection hu with hu _; rw [hu, d] at h; cases h), fun u hu => (by injection hu with _ hu; cases hu)⟩
 ·rw [e];exact ⟨fun u hu => (by injection hu with hu _; rw [hu, d] at h; cases h), fun u hu => (by injection hu with _ hu; cases hu)⟩
theorem can_bcd {b c d : UInt8} (h : isDig c = true) (hd : d ≠ 58) : can [b, c, d] = (false, false) := by
 have hc : c ≠ 58 := fun e => by rw [e] at h; cases h
 refine can_no fun m hm => ?_
 rcases head_form hm with ⟨x, _, _, e, _⟩ | ⟨x, y, _, _, _, _, e⟩
 ·rw [e];exact ⟨fun u hu => (by injection hu with _ hu; injection hu with _ hu; cases hu), fun u hu => (by injection hu with _ hu; injection hu with hu _; exact hc hu)⟩
 ·rw [e];exact ⟨fun u hu => (by injection hu with _ hu; injection hu with _ hu; injection hu with hu _; exact hd hu), fun u hu => (by injection hu with _ hu; injection hu with _ hu; injection hu with hu _; exact hd hu)⟩
theorem can_bc {b c : UInt8} (hc : c ≠ 58) (h : ¬ (0 < b.toNat - 48 ∧ isDig c = true ∧ 10 * (b.toNat - 48) + (c.toNat - 48) ≤ 40)) : can [b, c] = (false, false) := by
 refine can_no fun m hm => ?_
 rcases head_form hm with ⟨x, _, _, e, _⟩ | ⟨x, y, _, hy, hx, hm2, e⟩
 ·rw [e];exact ⟨fun u hu => (by injection hu with _ hu; injection hu with hu _; exact hc hu), fun u hu => (by injection hu with _ hu; injection hu with hu _; exact hc hu)⟩
 ·rw [e];exact ⟨fun u hu => (by injection hu with h1 hu; injection hu with h2 hu; subst h1; subst h2; exact h ⟨by omega, hy, by omega⟩), fun u hu => (by injection hu with _ hu; injection hu with _ hu; cases hu)⟩
theorem bodyOk_app {n : Nat} : ∀ (x y : List UInt8) (k : Nat), (∀ b ∈ x, okB b = true) → k + x.length ≤ n → bodyOk n k (x ++ y) = bodyOk n (k + x.length) y
 | [], _, _, _, _ => rfl
 | b :: x, y, k, h, hl => by
  simp only [List.length_cons] at hl;rw [List.cons_append, bodyOk, if_pos (by omega), h b (by simp), Bool.true_and, bodyOk_app x y (k + 1) (fun c hc => h c (List.mem_cons_of_mem _ hc)) (by omega), List.length_cons];exact congrArg (fun m => bodyOk n m y) (by omega)
theorem takeN_cases : ∀ (n : Nat) (l : List UInt8) (k : Nat), ∃ a, a ≤ n ∧ a ≤ l.length ∧ (∀ b ∈ l.take a, okB b = true) ∧ (takeN n l k).2.2 = k + a ∧ (takeN n l k).2.1 = l.drop a ∧ ((takeN n l k).1 = true ∧ a = n ∨ (takeN n l k).1 = false ∧ a < n ∧ (a = l.length ∨ ∃ b r, l.drop a = b :: r ∧ okB b = false))
 | 0, l, k => ⟨0, Nat.le_refl _, Nat.zero_le _, (fun _ h => by cases h), rfl, rfl, .inl ⟨rfl, rfl⟩⟩
 | n + 1, l, k => by
  unfold takeN
  cases l with
  | nil => exact ⟨0, Nat.zero_le _, Nat.zero_le _, (fun _ h => by cases h), rfl, rfl, .inr ⟨rfl, Nat.zero_lt_succ _, .inl rfl⟩⟩
  | cons b r =>
   by_cases hb : okB b = true
   ·rw [if_pos (show takes okB (b :: r) = true from hb), show rest okB (b :: r) = r from if_pos hb, show on okB (b :: r) k = k + 1 from if_pos hb];obtain ⟨a, h1, h2, h3, h4, h5, h6⟩ := takeN_cases n r (k + 1);refine ⟨a + 1, by omega, by simp; omega, fun c hc => ?_, by rw [h4]; omega, h5, ?_⟩
    ·rw [List.take_succ_cons] at hc
     rcases List.mem_cons.1 hc with rfl | hc
     ·exact hb
     ·exact h3 c hc
    ·rcases h6 with ⟨e, h6⟩ | ⟨e, h6, h7⟩
     ·exact .inl ⟨e, by omega⟩
     ·refine .inr ⟨e, by omega, ?_⟩
      rcases h7 with h7 | h7
      ·exact .inl (by simp; omega)
      ·exact .inr h7
   ·rw [if_neg (show ¬ takes okB (b :: r) = true from hb)];exact ⟨0, Nat.zero_le _, Nat.zero_le _, (fun _ h => by cases h), rfl, rfl, .inr ⟨rfl, Nat.zero_lt_succ _, .inr ⟨b, r, rfl, by simpa using hb⟩⟩⟩
structure LineIs (l : List UInt8) (j : Nat) : Prop where
 le : j ≤ l.length
 pre : ∀ i, 1 ≤ i → i ≤ j → can (l.take i) = (true, false)
 stop : j = l.length ∨ can (l.take (j + 1)) = (false, false)
structure LineSome (l x : List UInt8) (j : Nat) : Prop where
 pos : 1 ≤ j
 le : j ≤ l.length
 pre : ∀ i, 1 ≤ i → i < j → can (l.take i) = (true, false)
 all : can (l.take j) = (true, true)
 form : l.take (j - 1) = Lib.decDigits x.length ++ 58 :: x
theorem read_none {l : List UInt8} {k : Nat} (h : (readNum l k).2.1 = false) : ∃ j, (readNum l k).2.2.2 = k + j ∧ LineIs l j := by
 cases l with
 | nil => exact ⟨0, rfl, Nat.le_refl _, (fun i h1 h2 => by omega), .inl rfl⟩
 | cons b r =>
  unfold readNum at h ⊢
  by_cases hb : isDig b = true
  ·simp only [hb, if_true] at h ⊢;have h48 := dig_of hb
   by_cases hc : 0 < b.toNat - 48 ∧ isDig (nextB r) = true ∧ 10 * (b.toNat - 48) + ((nextB r).toNat - 48) ≤ 40
   ·rw [if_pos hc] at h ⊢;dsimp only at h ⊢
    cases r with
    | nil => exact absurd hc.2.1 (by decide)
    | cons c q =>
     have hcd : isDig c = true := hc.2.1;have h49 := dig_of hcd;rw [show rest isDig (c :: q) = q from if_pos hcd, show on isDig (c :: q) (k + 1) = k + 1 + 1 from if_pos hcd] at *;have e := on_no' h (k + 1 + 1);rw [e]
     have hh : head (10 * (b.toNat - 48) + (c.toNat - 48)) = [b, c, 58] := by
      have h40 : 10 * (b.toNat - 48) + (c.toNat - 48) ≤ 40 := hc.2.2;rw [head_two (by omega) h40];rw [show 48 + (10 * (b.toNat - 48) + (c.toNat - 48)) / 10 = b.toNat by omega, show 48 + (10 * (b.toNat - 48) + (c.toNat - 48)) % 10 = c.toNat by omega, UInt8.ofNat_toNat, UInt8.ofNat_toNat]
     refine ⟨2, rfl, by simp, fun i h1 h2 => ?_, ?_⟩
     ·rcases (show i = 1 ∨ i = 2 by omega) with rfl | rfl
      ·exact can_pre (n := 10 * (b.toNat - 48) + (c.toNat - 48)) hc.2.2 (u := [c, 58]) hh.symm
      ·exact can_pre (n := 10 * (b.toNat - 48) + (c.toNat - 48)) hc.2.2 (u := [58]) hh.symm
     ·cases q with
      | nil => exact .inl rfl
      | cons d q =>
       refine .inr (can_bcd hcd fun e => ?_);rw [e] at h;simp [takes] at h
   ·rw [if_neg hc] at h ⊢;dsimp only at h ⊢;have e := on_no' h (k + 1);rw [e]
    have hh : head (b.toNat - 48) = [b, 58] := by
     rw [head_one (by omega), show 48 + (b.toNat - 48) = b.toNat by omega, UInt8.ofNat_toNat]
    refine ⟨1, rfl, by simp, fun i h1 h2 => ?_, ?_⟩
    ·obtain rfl : i = 1 := by omega
     exact can_pre (n := b.toNat - 48) (by omega) (u := [58]) hh.symm
    ·cases r with
     | nil => exact .inl rfl
     | cons c q =>
      refine .inr (can_bc (fun e => ?_) hc);rw [e] at h;simp [takes] at h
  ·simp only [if_neg hb];exact ⟨0, rfl, Nat.zero_le _, (fun i h1 h2 => by omega), .inr (can_b (by simpa using hb))⟩
theorem readNum_pos {l : List UInt8} {k : Nat} (h : (readNum l k).2.1 = true) : (readNum l k).2.2.2 = k + (head (readNum l k).1).length := by
 have h1 := readNum_len' l k;have h2 := congrArg List.length (readNum_eq h);unfold head;simp only [List.length_append, List.length_cons, List.length_nil] at h2 ⊢;omega
theorem take_app_add {α : Type} (h r : List α) (q : Nat) : (h ++ r).take (h.length + q) = h ++ r.take q := by
 rw [List.take_append, List.take_of_length_le (Nat.le_add_right _ _), Nat.add_sub_cancel_left]
theorem pre_head {n : Nat} (hn : n ≤ 40) (l1 : List UInt8) {i : Nat} (hi : i ≤ (head n).length) : can ((head n ++ l1).take i) = (true, false) := by
 rw [List.take_append_of_le_length hi];exact can_pre hn (List.take_append_drop i (head n))
theorem read_line (l : List UInt8) (k : Nat) : (∃ x j, (readLine l k).1 = some x ∧ (readLine l k).2.2 = k + j ∧ (readLine l k).2.1 = l.drop j ∧ LineSome l x j) ∨ (∃ j, (readLine l k).1 = none ∧ (readLine l k).2.2 = k + j ∧ LineIs l j) := by
 have hle := readNum_le l k
 cases hs : (readNum l k).2.1 with
 | false =>
  obtain ⟨j, h1, h2⟩ := read_none hs;refine .inr ⟨j, ?_, ?_, h2⟩
  ·unfold readLine; dsimp only; rw [hs]; rfl
  ·unfold readLine; dsimp only; rw [hs]; exact h1
 | true =>
  have hl := readNum_eq hs;have hp := readNum_pos hs;unfold readLine;dsimp only;generalize readNum l k = q at *;obtain ⟨n, s, l1, k1⟩ := q;dsimp only at hl hp hle hs ⊢;subst hs;subst hp;have hl : l = head n ++ l1 := by rw [hl]; unfold head; rw [List.append_assoc]; rfl
  obtain ⟨a, h1, h2, h3, h4, h5, h6⟩ := takeN_cases n l1 (k + (head n).length);simp only [runN, if_true];generalize takeN n l1 (k + (head n).length) = t at *;obtain ⟨t1, t2, t3⟩ := t;dsimp only at h4 h5 h6 ⊢;subst h4;subst h5
  have hbody : ∀ q, q ≤ a → can (l.take ((head n).length + q)) = (true, false) := fun q hq => by
   rw [hl, take_app_add, can_head hle];have hx : ∀ b ∈ l1.take q, okB b = true := fun b hb => h3 b (List.take_subset_take_left l1 hq hb)
   have hql : (l1.take q).length = q := by rw [List.length_take]; omega
   have := bodyOk_app (n := n) (l1.take q) [] 0 hx (by omega);rw [List.append_nil] at this;rw [this, hql];rw [show bodyOk n (0 + q) [] = true from by unfold bodyOk; rfl, if_pos rfl]
   congr 1
   simp;omega
  have hpre : ∀ i, i ≤ (head n).length + a → can (l.take i) = (true, false) := fun i hi => by
   by_cases hh : i ≤ (head n).length
   ·rw [hl]; exact pre_head hle l1 hh
   ·have := hbody (i - (head n).length) (by omega)
    rwa [show (head n).length + (i - (head n).length) = i by omega] at this
  have hbad : ∀ b r, l1.drop a = b :: r → bodyOk n a [b] = false → can (l.take ((head n).length + a + 1)) = (false, false) := fun b r hb hno => by
   have e : l1.take (a + 1) = l1.take a ++ [b] := by
    rw [List.take_add_one];have : l1[a]? = some b := by rw [← List.head?_drop, hb]; rfl
    rw [this]; rfl
   rw [hl, Nat.add_assoc, take_app_add, can_head hle, e, bodyOk_app (l1.take a) [b] 0 h3 (by rw [List.length_take]; omega)]
   rw [List.length_take, Nat.min_eq_left h2, Nat.zero_add, hno];rfl
  have hll : l.length = (head n).length + l1.length := by rw [hl, List.length_append]
  rcases h6 with ⟨rfl, rfl⟩ | ⟨rfl, h7, h8⟩
  ·simp only [if_true]
   by_cases ht : takes (· == 10) (l1.drop a) = true
   ·rw [if_pos ht];have he := takes_eq ht;have e1 : on (· == 10) (l1.drop a) (k + (head a).length + a) = k + ((head a).length + a + 1) := by unfold on; rw [if_pos ht]; omega
    have hlt : a < l1.length := by
     refine Nat.lt_of_not_le fun hge => ?_
     rw [List.drop_eq_nil_of_le hge] at ht
     cases ht
    refine .inl ⟨l1.take a, (head a).length + a + 1, rfl, e1, ?_, by omega, by omega, fun i _ hi => hpre i (by omega), ?_, ?_⟩
    ·dsimp only
     have : l1.drop (a + 1) = rest (· == 10) (l1.drop a) := by
      have h9 := congrArg (List.drop 1) he;rw [List.drop_drop] at h9;exact h9
     rw [← this, hl, List.drop_append, List.drop_eq_nil_of_le (show (head a).length ≤ (head a).length + a + 1 by omega), List.nil_append]
     congr 1
     omega
    ·have e : l1.take (a + 1) = l1.take a ++ [10] := by
      rw [List.take_add_one];have : l1[a]? = some 10 := by rw [← List.head?_drop, he]; rfl
      rw [this]; rfl
     rw [hl, Nat.add_assoc, take_app_add, can_head hle, e, bodyOk_app (l1.take a) [10] 0 h3 (by rw [List.length_take]; omega)]
     have hm : (l1.take a).length = a := by rw [List.length_take]; omega
     rw [hm, Nat.zero_add];have : bodyOk a a [10] = true := by unfold bodyOk; rw [if_neg (by omega), if_pos rfl]; rfl
     rw [this, if_pos rfl, List.length_append, hm];simp
    ·rw [show (head a).length + a + 1 - 1 = (head a).length + a by omega];rw [hl, take_app_add];have hm : (l1.take a).length = a := by rw [List.length_take]; omega
     rw [hm];unfold head;rw [List.append_assoc];rfl
   ·rw [if_neg ht];refine .inr ⟨(head a).length + a, rfl, by dsimp only; omega, by omega, fun i _ hi => hpre i hi, ?_⟩
    cases hd : l1.drop a with
    | nil =>
     left
     have := congrArg List.length hd;rw [List.length_drop] at this;simp at this;omega
    | cons b r =>
     right
     refine hbad b r hd ?_;rw [hd] at ht;unfold bodyOk;rw [if_neg (by omega), if_pos rfl];have : (b == 10) = false := by simpa [takes] using ht
     rw [this]; rfl
  ·rw [if_neg (by simp)];refine .inr ⟨(head n).length + a, rfl, by dsimp only; omega, by omega, fun i _ hi => hpre i hi, ?_⟩
   rcases h8 with h8 | ⟨b, r, hd, hno⟩
   ·exact .inl (by omega)
   ·right
    refine hbad b r hd ?_;unfold bodyOk;rw [if_pos h7, hno]; rfl
end File
end
section
namespace File
theorem canGo_some {f n : Nat} {s : List UInt8} {r x : Bool × Bool} (h : canGo (f + 1) n s = r) (hc : canAt n s = some x) : r = x := by
 unfold canGo at h;rw [hc] at h;exact h.symm
theorem canGo_none {f n : Nat} {s : List UInt8} {r : Bool × Bool} (h : canGo (f + 1) n s = r) (hc : canAt n s = none) : canGo f (n + 1) s = r := by
 unfold canGo at h;rw [hc] at h;exact h
end File
namespace Fl
open Go.RowKit
theorem bTo {L : List UInt8} {i : Nat} (h : i ≤ L.length) (W : World) : (Instr.slice 9 (.string (File.ba L)) none (some (iv (i : Int))) none).run Tryz.prog W = .ok (.string (File.ba (L.take i))) W := by
 rw [run_slice_string_to_if W 9 (File.ba L) .i64 i Tryz.underlying9, if_pos ⟨by omega, by rw [ba_size]; omega⟩]
 have : (File.ba L).extract 0 (i : Int).toNat = File.ba (L.take i) := by
  apply ByteArray.ext;simp [File.ba]
 rw [this]
theorem bFrom {L : List UInt8} {i : Nat} (h : i ≤ L.length) (W : World) : (Instr.slice 9 (.string (File.ba L)) (some (iv (i : Int))) none none).run Tryz.prog W = .ok (.string (File.ba (L.drop i))) W := by
 rw [run_slice_string_from_if W 9 (File.ba L) .i64 i Tryz.underlying9, if_pos ⟨by omega, by rw [ba_size]; omega⟩]
 have : (File.ba L).extract (i : Int).toNat (File.ba L).size = File.ba (L.drop i) := by
  apply ByteArray.ext;simp [File.ba, ByteArray.size];exact List.take_of_length_le (by simp)
 rw [this]
theorem bCut {L : List UInt8} {i j : Nat} (hi : i ≤ j) (h : j ≤ L.length) (W : World) : (Instr.slice 9 (.string (File.ba L)) (some (iv (i : Int))) (some (iv (j : Int))) none).run Tryz.prog W = .ok (.string (File.ba ((L.drop i).take (j - i)))) W := by
 rw [run_slice_string W 9 (File.ba L) .i64 .i64 i j Tryz.underlying9 (by omega) (by omega) (by rw [ba_size]; omega)]
 have : (File.ba L).extract (i : Int).toNat (j : Int).toNat = File.ba ((L.drop i).take (j - i)) := by
  apply ByteArray.ext;simp [File.ba]
 rw [this]
theorem ba_idx {L : List UInt8} {k : Nat} (h : k < (File.ba L).size) (h' : k < L.length) : (File.ba L)[k]'h = L[k]'h' := rfl
set_option maxHeartbeats 2000000 in
theorem can_spec (s : List UInt8) (w : World) (hs : s.length ≤ 1000000) :
  Calls Tryz.prog 76 #[.string (File.ba s)] w fun e w' => e = .returned (.tuple #[.bool (File.can s).1, .bool (File.can s).2]) ∧ w = w' := by
 obtain ⟨r, hr⟩ : ∃ r, r = File.can s := ⟨_, rfl⟩;rw [← hr];have H0 : Hid (File.canGo 41 0 s = r) := lH hr.symm;clear hr;obtain ⟨S, hS⟩ : ∃ S, S = File.ba s := ⟨_, rfl⟩;have HSz : Hid (S.size = s.length) := lH (by rw [hS]; exact ba_size s);rw [← hS];have HS := lH hS;clear hS
 go_enter Tryz.func76, Tryz.ntmps76
 (go_wp2_with fail)
 go_loopw [4, 5, 6, 7] (fun i _ _ _ wr => ∃ n : Nat, n ≤ 41 ∧ i = iv n ∧ Hid (File.canGo (41 - n) n s = r) ∧ w = wr) (fun i _ _ _ _ => 41 - (intOf i).toNat)
 case atStart => exact ⟨0, by omega, rfl, H0, rfl⟩
 case round =>
  obtain ⟨n, hn, rfl, HG, rfl⟩ := hrel
  by_cases hlt : n ≤ 40
  ·have hni : (n : Int) ≤ 40 := (by omega);have hgo := HG.out;rw [show 41 - n = (40 - n) + 1 by omega] at hgo;obtain ⟨D, hD⟩ : ∃ D, D = File.ba (Lib.decDigits n) := ⟨_, rfl⟩;obtain ⟨H, hH⟩ : ∃ H, H = File.ba (File.head n) := ⟨_, rfl⟩;have hDH : D ++ ⟨#[58]⟩ = H := by rw [hD, hH]; unfold File.head; exact ba_append _ _
   have z1 : D.size ≤ 6 := by rw [hD, ba_size']; exact dec_len 5 _ (by omega)
   have HHz : Hid (H.size = (File.head n).length) := lH (by rw [hH]; exact ba_size _)
   have hHl : (File.head n).length ≤ 8 := by
    have := dec_len 5 n (by omega);unfold File.head;simp;omega
   have HDG := lH (digits_spec n w (by omega));rw [← hD] at HDG;have HGO := lH hgo;clear hgo HG hD;have HTA : Hid (s.length ≤ (File.head n).length → ∀ W : World, (Instr.slice 9 (.string H) none (some (iv (S.size : Int))) none).run Tryz.prog W = .ok (.string (File.ba ((File.head n).take s.length))) W) := lH fun h W => by rw [hH, HSz.out]; exact bTo h W
   have HTB : Hid (¬ s.length ≤ (File.head n).length → ∀ W : World, (Instr.slice 9 (.string S) none (some (iv (H.size : Int))) none).run Tryz.prog W = .ok (.string (File.ba (s.take (File.head n).length))) W) := lH fun h W => by rw [HS.out, HHz.out]; exact bTo (by omega) W
   have HTC : Hid (¬ s.length ≤ (File.head n).length → ∀ W : World, (Instr.slice 9 (.string S) (some (iv (H.size : Int))) none none).run Tryz.prog W = .ok (.string (File.ba (s.drop (File.head n).length))) W) := lH fun h W => by rw [HS.out, HHz.out]; exact bFrom (by omega) W
   by_cases hc : s.length ≤ (File.head n).length
   ·have hci : (S.size : Int) ≤ (H.size : Int) := by have := HSz.out; have := HHz.out; omega
    have hrun := HTA.out hc;obtain ⟨P, hP⟩ : ∃ P, P = File.ba ((File.head n).take s.length) := ⟨_, rfl⟩;rw [← hP] at hrun;have hsq := str_eq P S
    by_cases hq : (File.head n).take s.length = s
    ·have hPS : P = S := by rw [hP, HS.out, hq]
     have HX : Hid (r = (true, false)) := lH (File.canGo_some HGO.out (by unfold File.canAt; rw [if_pos hc, if_pos hq]));rw [decide_eq_true hPS] at hsq;clear HTA HTB HTC hP hq hc hH hPS;(go_wp2_with fail);refine HDG.out.mono ?_;rintro e w1 ⟨rfl, rfl⟩;(go_wp2_with fail);go_ret2;exact ⟨ret_eq (by rw [HX.out]; rfl), rfl⟩
    ·have hPS : ¬ P = S := fun h => hq (by rw [hP, HS.out] at h; have := congrArg File.bts h; rwa [File.bts_ba, File.bts_ba] at this)
     have HX : Hid (File.canGo (41 - (n + 1)) (n + 1) s = r) := lH (by
      rw [show 41 - (n + 1) = 40 - n by omega];exact File.canGo_none HGO.out (by unfold File.canAt; rw [if_pos hc, if_neg hq]))
     rw [decide_eq_false hPS] at hsq;clear HTA HTB HTC hP hq hc hH hPS;(go_wp2_with fail);refine HDG.out.mono ?_;rintro e w1 ⟨rfl, rfl⟩;(go_wp2_with fail);go_roundw
     case rel => exact ⟨n + 1, by omega, by go_num, HX, trivial⟩
     case measure => simp [intOf]; omega
   ·have hci : ¬ (S.size : Int) ≤ (H.size : Int) := by have := HSz.out; have := HHz.out; omega
    have hrun := HTB.out hc;have hrun2 := HTC.out hc;obtain ⟨P, hP⟩ : ∃ P, P = File.ba (s.take (File.head n).length) := ⟨_, rfl⟩;rw [← hP] at hrun;obtain ⟨bd, hbd⟩ : ∃ bd, bd = s.drop (File.head n).length := ⟨_, rfl⟩;obtain ⟨B, hB⟩ : ∃ B, B = File.ba bd := ⟨_, rfl⟩;rw [← hbd, ← hB] at hrun2;have hsq := str_eq P H;have hbl : bd.length ≤ 1000000 := by rw [hbd, List.length_drop]; omega
    have HBz : Hid (B.size = bd.length) := lH (by rw [hB]; exact ba_size bd);have hB6 : B.size ≤ 1000000 := by have := HBz.out; omega
    by_cases hq : s.take (File.head n).length = File.head n
    ·have hPS : P = H := by rw [hP, hH, hq]
     have HX : Hid (r = if File.bodyOk n 0 bd then (true, decide (bd.length = n + 1)) else (false, false)) := lH (File.canGo_some HGO.out (by unfold File.canAt; rw [if_neg hc, if_pos hq, ← hbd]));rw [decide_eq_true hPS] at hsq;have HB := lH hB;clear HTA HTB HTC hP hq hc hH hbd hB hPS HGO;(go_wp2_with fail);refine HDG.out.mono ?_;rintro e w1 ⟨rfl, rfl⟩;(go_wp2_with fail)
     go_loopw [7] (fun i wx => ∃ q : Nat, q ≤ B.size ∧ i = iv q ∧ Hid (File.bodyOk n q (bd.drop q) = File.bodyOk n 0 bd) ∧ w = wx) (fun i _ => B.size - (intOf i).toNat)
     case atStart => exact ⟨0, Nat.zero_le _, rfl, rfl, rfl⟩
     case round =>
      obtain ⟨q, hq, rfl, hr, rfl⟩ := hrel
      by_cases hp : q < B.size
      ·have hqi : (q : Int) < (B.size : Int) := (by omega);have hpl : q < bd.length := by have := HBz.out; omega
       have hr' := hr.out;rw [List.drop_eq_getElem_cons hpl, File.bodyOk] at hr'
       have hget : B[q]'hp = bd[q]'hpl := by
        have h2 := HB.out;subst h2;rfl
       generalize hv : (B[q]'hp).toNat = v at *;rw [hget] at hv;generalize bd[q]'hpl = bb at *;have HF : Hid (File.bodyOk n 0 bd = false → r = (false, false)) := lH fun h => by rw [HX.out, h]; rfl
       by_cases h1 : q < n
       ·have h1i : (q : Int) < (n : Int) := (by omega);rw [if_pos h1] at hr'
        by_cases h32 : v < 32
        ·have h32i : (v : Int) < 32 := (by omega);have HN := lH (HF.out (by rw [← hr', show File.okB bb = false by simp [File.okB, hv]; omega]; rfl));clear hr hr';(go_wp2_with fail);go_ret2;exact ⟨ret_eq (by rw [HN.out]; rfl), rfl⟩
        ·have h32i : ¬ (v : Int) < 32 := (by omega)
         by_cases h126 : 126 < v
         ·have h126i : (126 : Int) < (v : Int) := (by omega);have HN := lH (HF.out (by rw [← hr', show File.okB bb = false by simp [File.okB, hv]; omega]; rfl));clear hr hr';(go_wp2_with fail);go_ret2;exact ⟨ret_eq (by rw [HN.out]; rfl), rfl⟩
         ·have h126i : ¬ (126 : Int) < (v : Int) := (by omega);have hne : ((q : Int) == (n : Int)) = false := by simp; omega
          have hgt : ¬ (n : Int) < (q : Int) := (by omega);have HN : Hid (File.bodyOk n (q + 1) (bd.drop (q + 1)) = File.bodyOk n 0 bd) := lH (by rw [← hr', show File.okB bb = true by simp [File.okB, hv]; omega, Bool.true_and]);clear hr hr';(go_wp2_with fail);go_roundw
          case rel => exact ⟨q + 1, hp, by go_num, HN, trivial⟩
          case measure => simp [intOf]; omega
       ·have h1i : ¬ (q : Int) < (n : Int) := (by omega);rw [if_neg h1] at hr'
        by_cases h2 : q = n
        ·have hne : ((q : Int) == (n : Int)) = true := by simp [h2]
         have hgt : ¬ (n : Int) < (q : Int) := (by omega);rw [if_pos h2] at hr'
         by_cases h10 : v = 10
         ·have h10i : ((v : Int) != 10) = false := by simp [h10]
          have h10j : (v : Int) = 10 := (by omega)
          have hb10 : (bb == 10) = true := by
           have : bb = 10 := UInt8.toNat_inj.1 (by rw [hv, h10]; rfl);rw [this]; rfl
          have HN : Hid (File.bodyOk n (q + 1) (bd.drop (q + 1)) = File.bodyOk n 0 bd) := lH (by rw [← hr', hb10, Bool.true_and]);clear hr hr' h10 h2;(go_wp2_with fail);go_roundw
          case rel => exact ⟨q + 1, hp, by go_num, HN, trivial⟩
          case measure => simp [intOf]; omega
         ·have h10i : ((v : Int) != 10) = true := by simp; omega
          have h10j : ¬ (v : Int) = 10 := (by omega)
          have hb10 : (bb == 10) = false := by
           refine beq_eq_false_iff_ne.2 fun e => h10 ?_
           rw [← hv, e]; rfl
          have HN := lH (HF.out (by rw [← hr', hb10]; rfl));clear hr hr' h10 h2;(go_wp2_with fail);go_ret2;exact ⟨ret_eq (by rw [HN.out]; rfl), rfl⟩
        ·have hne : ((q : Int) == (n : Int)) = false := by simp; omega
         have hgt : (n : Int) < (q : Int) := (by omega);rw [if_neg h2] at hr';have HN := lH (HF.out hr'.symm);clear hr hr' h2;(go_wp2_with fail);go_ret2;exact ⟨ret_eq (by rw [HN.out]; rfl), rfl⟩
      ·have hqi : ¬ (q : Int) < (B.size : Int) := (by omega);have hr' := hr.out;rw [List.drop_eq_nil_of_le (by have := HBz.out; omega)] at hr';have HN : Hid (r = (true, decide (bd.length = n + 1))) := lH (by rw [HX.out, ← hr']; rfl)
       have hle : ((B.size : Int) == (n : Int) + 1) = decide (bd.length = n + 1) := by
        rw [HBz.out]
        by_cases h : bd.length = n + 1
        ·rw [decide_eq_true h, h]; simp
        ·rw [decide_eq_false h]; simp; omega
       obtain ⟨bz, hbz⟩ : ∃ bz, bz = decide (bd.length = n + 1) := ⟨_, rfl⟩;rw [← hbz] at hle HN;clear hr hr' hbz;(go_wp2_with fail);go_ret2;exact ⟨ret_eq (by rw [HN.out]; rfl), rfl⟩
    ·have hPS : ¬ P = H := fun h => hq (by rw [hP, hH] at h; have := congrArg File.bts h; rwa [File.bts_ba, File.bts_ba] at this)
     have HX : Hid (File.canGo (41 - (n + 1)) (n + 1) s = r) := lH (by
      rw [show 41 - (n + 1) = 40 - n by omega];exact File.canGo_none HGO.out (by unfold File.canAt; rw [if_neg hc, if_neg hq]))
     rw [decide_eq_false hPS] at hsq;have hsq' : (P.toList != H.toList) = true := by unfold bne; rw [hsq]; rfl
     clear HTA HTB HTC hP hq hc hH hPS hbd hB;(go_wp2_with fail);refine HDG.out.mono ?_;rintro e w1 ⟨rfl, rfl⟩;(go_wp2_with fail);go_roundw
     case rel => exact ⟨n + 1, by omega, by go_num, HX, trivial⟩
     case measure => simp [intOf]; omega
  ·have hni : ¬ (n : Int) ≤ 40 := (by omega);obtain rfl : n = 41 := by omega
   have HN : Hid (r = (false, false)) := lH HG.out.symm;clear HG;(go_wp2_with fail);go_ret2;exact ⟨ret_eq (by rw [HN.out]; rfl), rfl⟩
end Fl
end
section
namespace File
theorem ending_all (out : List ByteArray) (l : List UInt8) (k : Nat) (h : nextB l = 61) :
  ending (.inr (out, l, k)) = (if (matchAll (61 :: endOf out) l k).1 = true ∧ (matchAll (61 :: endOf out) l k).2.1 = [] then (out, 0, 0) else ([], (matchAll (61 :: endOf out) l k).2.2, 8)) := by
 have ht : takes (· == 61) l = true := by
  cases l with
  | nil => exact absurd h (by decide)
  | cons b r => have : b = 61 := h; subst this; rfl
 have e : matchAll (61 :: endOf out) l k = matchAll (endOf out) (rest (· == 61) l) (on (· == 61) l k) := by
  conv => lhs; unfold matchAll
  rw [if_pos ht]
 rw [e];rfl
theorem lines_eq61 {n : Nat} {out : List ByteArray} {l : List UInt8} {k : Nat} (h : nextB l = 61) : lines (n + 1) out l k = .inr (out, l, k) := by
 unfold lines; rw [if_pos h]
theorem lines_full {n : Nat} {out : List ByteArray} {l : List UInt8} {k : Nat} (h : nextB l ≠ 61) (ho : out.length = 24) : lines (n + 1) out l k = .inl (if isDig (nextB l) then 2 else 11, k) := by
 unfold lines; rw [if_neg h, if_pos ho]
theorem lines_some {n : Nat} {out : List ByteArray} {l : List UInt8} {k : Nat} {x : List UInt8} (h : nextB l ≠ 61) (ho : out.length ≠ 24) (hx : (readLine l k).1 = some x) : lines (n + 1) out l k = lines n (out ++ [ba x]) (readLine l k).2.1 (readLine l k).2.2 := by
 conv => lhs; unfold lines
 rw [if_neg h, if_neg ho, hx]
theorem lines_none {n : Nat} {out : List ByteArray} {l : List UInt8} {k : Nat} (h : nextB l ≠ 61) (ho : out.length ≠ 24) (hx : (readLine l k).1 = none) : lines (n + 1) out l k = .inl (11, (readLine l k).2.2) := by
 conv => lhs; unfold lines
 rw [if_neg h, if_neg ho, hx]
theorem lines_nil {n : Nat} {out : List ByteArray} {k : Nat} : lines (n + 1) out [] k = .inl (11, k) := by
 unfold lines;rw [if_neg (by decide)]
 split
 ·rfl
 ·rfl
theorem match_nil {a : UInt8} {ws : List UInt8} {k : Nat} : matchAll (a :: ws) [] k = (false, [], k) := rfl
theorem match_no {a b : UInt8} {ws l : List UInt8} {k : Nat} (h : b ≠ a) : matchAll (a :: ws) (b :: l) k = (false, b :: l, k) := by
 unfold matchAll;rw [if_neg (by simpa [takes] using h)]
theorem match_yes {a : UInt8} {ws l : List UInt8} {k : Nat} : matchAll (a :: ws) (a :: l) k = matchAll ws l (k + 1) := by
 conv => lhs; unfold matchAll
 rw [if_pos (takes_cons a l), rest_cons]
 congr 1
 unfold on;rw [if_pos (takes_cons a l)]
theorem dec_no58 {n : Nat} (h : n ≤ 40) : ∀ b ∈ Lib.decDigits n, b ≠ 58 := by
 intro b hb e;subst e
 by_cases h1 : n < 10
 ·rw [Lib.decDigits_one h1] at hb;have := List.mem_singleton.1 hb;have := (dig_nat h1).1;rw [← List.mem_singleton.1 hb] at this
  cases this
 ·rw [Lib.decDigits_two h1 (by omega)] at hb;have h2 := (dig_nat (m := n / 10) (by omega)).1;have h3 := (dig_nat (m := n % 10) (by omega)).1
  rcases List.mem_cons.1 hb with e | hb
  ·rw [← e] at h2; cases h2
  ·rw [← List.mem_singleton.1 hb] at h3; cases h3
end File
namespace Fl
open Go.RowKit
theorem can_call (s : List UInt8) (hs : s.length ≤ 1500) {k i : Nat} (hi : k + i ≤ s.length) (r1 r2 : Bool) (h : File.can ((s.drop k).take i) = (r1, r2)) (w : World) :
  Calls Tryz.prog 76 #[.string (File.ba ((s.drop k).take i))] w fun e w' => e = .returned (.tuple #[.bool r1, .bool r2]) ∧ w = w' := by
 have := can_spec ((s.drop k).take i) w (by rw [List.length_take]; omega);rw [h] at this;exact this
set_option maxHeartbeats 1500000 in
theorem rparse_spec (s : List UInt8) (w : World) (hs : s.length ≤ 1500) :
  Calls Tryz.prog 24 #[.string (File.ba s)] w fun e w' => ParseOk w.heap.size (File.parse s) e w' ∧ Below w.heap.size w w' := by
 obtain ⟨L, hL⟩ : ∃ L, L = File.lines 25 [] s 0 := ⟨_, rfl⟩;have HP : Hid (File.parse s = File.ending L) := lH (by rw [hL]; rfl);have HL := lH hL;clear hL;obtain ⟨S, hS⟩ : ∃ S, S = File.ba s := ⟨_, rfl⟩;have HSz : Hid (S.size = s.length) := lH (by rw [hS]; exact ba_size s);have hS15 : S.size ≤ 1500 := by have := HSz.out; omega
 have HCUT : Hid (∀ i j : Nat, i ≤ j → j ≤ S.size → ∀ W : World, (Instr.slice 9 (.string S) (some (iv (i : Int))) (some (iv (j : Int))) none).run Tryz.prog W = .ok (.string (File.ba ((s.drop i).take (j - i)))) W) := lH fun i j h1 h2 W => by rw [hS]; exact bCut h1 (by have := HSz.out; omega) W
 have HGET : Hid (∀ (k : Nat) (h : k < S.size), ∃ h' : k < s.length, S[k]'h = s[k]'h') := lH fun k h => ⟨by have := HSz.out; omega, by subst hS; rfl⟩
 rw [← hS];clear hS
 go_enter Tryz.func24, Tryz.ntmps24
 (go_wp2_with fail)
 go_loopw [5, 6, 7, 8, 9, 10, 11] (fun v f _ _ _ _ _ wr => ∃ (out : List ByteArray) (k : Nat), f = iv k ∧ k ≤ S.size ∧ Own strE 9 w.heap.size wr v out ∧ Hid (Good out) ∧ out.length ≤ 24 ∧ Hid (File.lines (25 - out.length) out (s.drop k) k = L) ∧ Below w.heap.size w wr) (fun _ f _ _ _ _ _ _ => S.size - (intOf f).toNat)
 case atStart => exact ⟨[], 0, rfl, Nat.zero_le _, Own.nil, lH Good.nil, by simp, lH HL.out.symm, rB⟩
 case round =>
  obtain ⟨out, k, rfl, hk, hown, HG, ho24, HLN, hbr⟩ := hrel;obtain ⟨Ao, co, rfl, hco, _⟩ := hown.form
  by_cases hlt : k < S.size
  ·have hki : (k : Int) < (S.size : Int) := (by omega);obtain ⟨hks, hget⟩ := HGET.out k hlt;have hdr := List.drop_eq_getElem_cons hks;have hnx : File.nextB (s.drop k) = s[k]'hks := by rw [hdr]; rfl
   generalize hv : (S[k]'hlt).toNat = v at *;rw [hget] at hv
   by_cases h61 : v = 61
   ·-- the end of the text
    have h61i : ((v : Int) != 61) = false := by simp [h61]
    have h61j : (v : Int) = 61 := (by omega);have hn61 : File.nextB (s.drop k) = 61 := by rw [hnx]; exact UInt8.toNat_inj.1 (by rw [hv, h61]; rfl)
    have hLx := HLN.out;rw [show 25 - out.length = (24 - out.length) + 1 by omega, File.lines_eq61 hn61] at hLx;have hP := HP.out;rw [← hLx, File.ending_all _ _ _ hn61] at hP;have hgd := HG.out;have hb := sum_bounds out;obtain ⟨n, hn⟩ : ∃ n : Nat, File.sum out = n := ⟨(File.sum out).toNat, by omega⟩;have HSM : Hid (Calls Tryz.prog 23 #[.slice Ao out.length co] wr fun e w' => e = .returned (iv (n : Int)) ∧ Below wr.heap.size wr w') := lH (by rw [← hn]; exact rsum_spec Ao out co wr hgd.many hgd.wide hown.sl);obtain ⟨D, hD⟩ : ∃ D, D = File.ba (Lib.decDigits n) := ⟨_, rfl⟩;obtain ⟨FE, hFE⟩ : ∃ FE, FE = File.ba [10] := ⟨_, rfl⟩;obtain ⟨ws, hws⟩ : ∃ ws, ws = 61 :: File.endOf out := ⟨_, rfl⟩;obtain ⟨WB, hWB⟩ : ∃ WB, WB = File.ba ws := ⟨_, rfl⟩;have z1 : D.size ≤ 6 := by rw [hD, ba_size']; exact dec_len 5 _ (by omega)
    have z2 : FE.size = 1 := by rw [hFE]; rfl
    have HDG : Hid (∀ x : World, Calls Tryz.prog 21 #[iv (n : Int)] x fun e w' => e = .returned (.string D) ∧ x = w') := lH fun x => by
     rw [hD];exact digits_spec n x (by omega)
    have HFE : Hid (∀ x : World, Calls Tryz.prog 22 #[] x fun e w' => e = .returned (.string FE) ∧ Below x.heap.size x w') := lH fun x => by rw [hFE]; exact feed_spec x
    have hcat : (⟨#[61]⟩ : ByteArray) ++ D ++ FE = WB := by
     rw [hD, hFE, hWB, hws];apply ByteArray.ext;simp [File.ba, File.endOf, hn]
    have hWz : WB.size = D.size + 2 := by rw [← hcat, ByteArray.size_append, ByteArray.size_append, z2]; show 1 + D.size + 1 = _; omega
    have HWL : Hid (WB.size = ws.length) := lH (by rw [hWB]; exact ba_size ws);have HWG : Hid (∀ (i : Nat) (h : i < WB.size), ∃ h' : i < ws.length, WB[i]'h = ws[i]'h') := lH fun i h => ⟨by have := HWL.out; omega, by subst hWB; rfl⟩
    rw [← hws] at hP;obtain ⟨T, hT⟩ : ∃ T, T = File.matchAll ws (s.drop k) k := ⟨_, rfl⟩;rw [← hT] at hP;have HPX := lH hP;have HT := lH hT;have hW8 : WB.size ≤ 8 := (by omega);have hke : ((k : Int) == (S.size : Int)) = false := by simp; omega
    have hkf : ¬ (k : Int) = (S.size : Int) := (by omega);clear hD hFE hWB hws hT hP hLx hn61 hnx hdr hgd hb hn hWz h61;(go_wp2_with fail);refine HSM.out.mono ?_;rintro e w1 ⟨rfl, hb1⟩;(go_wp2_with fail);refine (HDG.out w1).mono ?_;rintro e w2 ⟨rfl, rfl⟩;(go_wp2_with fail);refine (HFE.out w1).mono ?_;rintro e w3 ⟨rfl, hb3⟩;have hb03 := (hbr.next hb1 nL).next hb3 nL;have hown3 := (hown.below hb1).below hb3;clear hb1 hb3 hown HSM HDG HFE;(go_wp2_with fail)
    go_loopw [13] (fun i wx => ∃ q : Nat, q ≤ WB.size ∧ i = iv q ∧ k + q ≤ S.size ∧ Hid (File.matchAll (ws.drop q) (s.drop (k + q)) (k + q) = T) ∧ Below w3.heap.size w3 wx) (fun i _ => WB.size - (intOf i).toNat)
    case atStart => exact ⟨0, Nat.zero_le _, rfl, hk, lH HT.out.symm, rB⟩
    case round =>
     obtain ⟨q, hq, rfl, hkq, hm, hbx⟩ := hrel
     by_cases hqw : q < WB.size
     ·have hqi : (q : Int) < (WB.size : Int) := (by omega);obtain ⟨hqs, hwg⟩ := HWG.out q hqw;have hm' := hm.out;rw [List.drop_eq_getElem_cons hqs] at hm';obtain ⟨p, hp⟩ : ∃ p, p = k + q := ⟨_, rfl⟩;have hsum : (k : Int) + (q : Int) = (p : Int) := (by omega);have eq2 : IntKind.i64.wrap (p : Int) = (p : Int) := IntWalk.i64_in _ (by omega);have eq1 : IntKind.i64.wrap ((k : Int) + (q : Int)) = (p : Int) := by rw [hsum]; exact eq2
      rw [← hp] at hm' hkq;have HP2 := lH hp;clear hp hm
      by_cases hend : p < S.size
      ·have hge : ¬ (S.size : Int) ≤ (p : Int) := (by omega);have hpi : (p : Int) < (S.size : Int) := (by omega);obtain ⟨hs', hsg⟩ := HGET.out p hend;rw [List.drop_eq_getElem_cons hs'] at hm';obtain ⟨v1, hv1⟩ : ∃ v1, (S[p]'hend).toNat = v1 := ⟨_, rfl⟩;obtain ⟨v2, hv2⟩ : ∃ v2, (WB[q]'hqw).toNat = v2 := ⟨_, rfl⟩;have hq1 := hv1;have hq2 := hv2;rw [hsg] at hq1;rw [hwg] at hq2;obtain ⟨nb, hnb⟩ : ∃ nb, nb = ((v1 : Int) != (v2 : Int)) := ⟨_, rfl⟩;have hne : ((v1 : Int) != (v2 : Int)) = nb := hnb.symm
       have HTRUE : Hid (nb = true → File.parse s = ([], p, 8)) := lH fun h => by
        rw [hnb] at h
        have hnq : s[p]'hs' ≠ ws[q]'hqs := fun e => by
         have : v1 = v2 := by rw [← hq1, ← hq2, e]
         simp [this] at h
        rw [File.match_no hnq] at hm';rw [HPX.out, ← hm', if_neg (by rintro ⟨h, _⟩; cases h)]
       have HFALSE : Hid (nb = false → File.matchAll (ws.drop (q + 1)) (s.drop (k + (q + 1))) (k + (q + 1)) = T) := lH fun h => by
        rw [hnb] at h
        have he : v1 = v2 := by
         have : (v1 : Int) = (v2 : Int) := by simpa using h
         omega
        have heq : s[p]'hs' = ws[q]'hqs := UInt8.toNat_inj.1 (by rw [hq1, hq2, he]);rw [heq, File.match_yes] at hm';have h2 := HP2.out;rw [show k + (q + 1) = p + 1 by omega]; exact hm'
       clear hm' hq1 hq2 hsg hwg hv hnb;(go_wp2_with fail)
       refine wp_free_lit (by kernel_rfl) 17 (by kernel_rfl) (by kernel_rfl) (by decide) (fun _ x => Below wr.heap.size wr x) (fun x x' => Below x.heap.size x x')
        [fun _ u _ => u = iv (k : Int),
         fun _ u _ => u = iv (q : Int),
         fun _ u _ => u = iv (p : Int),
         fun _ u _ => u = .string S,
         fun _ u _ => u = iv (S.size : Int),
         fun _ u _ => u = .bool false,
         fun _ u _ => u = .bool false,
         fun _ u _ => u = .string S,
         fun _ u _ => u = iv (k : Int),
         fun _ u _ => u = iv (q : Int),
         fun _ u _ => u = iv (p : Int),
         fun _ u _ => u = .int .u8 (v1 : Int),
         fun _ u _ => u = .string WB,
         fun _ u _ => u = iv (q : Int),
         fun _ u _ => u = .int .u8 (v2 : Int),
         fun _ u _ => u = .bool nb,
         fun _ u _ => u = .bool nb]
        (Below.refl _ wr).drew ?_ ?_
       ·simp only [List.take_succ_cons, List.take_zero, HopL];refine ⟨?_, ?_, ?_, ?_, ?_, ?_, ?_, ?_, ?_, ?_, ?_, ?_, ?_, ?_, ?_, ?_, ?_, trivial⟩
        ·refine fv fun v n x hn hR hk => ?_
         exact tV
        ·refine fv fun v n x hn hR hk => ?_
         exact tV
        ·refine fv fun v n x hn hR hk => ?_
         have h0 : v 0 = iv (k : Int) := hk.at 0;have h1 : v 1 = iv (q : Int) := hk.at 1;exact tV
        ·refine fv fun v n x hn hR hk => ?_
         exact tV
        ·refine fv fun v n x hn hR hk => ?_
         have h3 : v 3 = .string S := hk.at 3;exact tV
        ·refine fv fun v n x hn hR hk => ?_
         have h2 : v 2 = iv (p : Int) := hk.at 2;have h4 : v 4 = iv (S.size : Int) := hk.at 4;exact tV
        ·refine fv fun v n x hn hR hk => ?_
         have h5 : v 5 = .bool false := hk.at 5;exact tV
        ·refine fv fun v n x hn hR hk => ?_
         have h6 : v 6 = .bool false := hk.at 6;exact tV
        ·refine fv fun v n x hn hR hk => ?_
         have h6 : v 6 = .bool false := hk.at 6;exact tV
        ·refine fv fun v n x hn hR hk => ?_
         have h6 : v 6 = .bool false := hk.at 6;exact tV
        ·refine fv fun v n x hn hR hk => ?_
         have h6 : v 6 = .bool false := hk.at 6;have h8 : v 8 = iv (k : Int) := hk.at 8;have h9 : v 9 = iv (q : Int) := hk.at 9;exact tV
        ·refine fv fun v n x hn hR hk => ?_
         have h6 : v 6 = .bool false := hk.at 6;have h7 : v 7 = .string S := hk.at 7;have h10 : v 10 = iv (p : Int) := hk.at 10;exact tV
        ·refine fv fun v n x hn hR hk => ?_
         have h6 : v 6 = .bool false := hk.at 6;exact tV
        ·refine fv fun v n x hn hR hk => ?_
         have h6 : v 6 = .bool false := hk.at 6;exact tV
        ·refine fv fun v n x hn hR hk => ?_
         have h6 : v 6 = .bool false := hk.at 6;have h12 : v 12 = .string WB := hk.at 12;have h13 : v 13 = iv (q : Int) := hk.at 13;exact tV
        ·refine fv fun v n x hn hR hk => ?_
         have h6 : v 6 = .bool false := hk.at 6;have h11 : v 11 = .int .u8 (v1 : Int) := hk.at 11;have h14 : v 14 = .int .u8 (v2 : Int) := hk.at 14;exact tV
        ·refine fv fun v n x hn hR hk => ?_
         have h6 : v 6 = .bool false := hk.at 6;have h15 : v 15 = .bool nb := hk.at 15;exact tV
       ·intro v n x hn hR hall;have h16 : v 16 = .bool nb := hall 16 (by decide);clear hall hn;simp only [List.drop_succ_cons, List.drop_zero, List.drop_nil, List.take_succ_cons, List.take_zero, frameF, Act.put, List.setIfInBounds_toArray, List.set_cons_zero, List.set_cons_succ, Nat.zero_add, Nat.reduceAdd, h16];have hbq := hbx.next hR nL
        cases nb
        ·have HN := lH (HFALSE.out rfl);(go_wp2_with fail);go_roundw
         case rel => exact ⟨q + 1, hqw, by go_num, by have := HP2.out; omega, HN, hbq⟩
         case measure => simp [intOf]; omega
        ·have HX := lH (HTRUE.out rfl);(go_wp2_with fail);go_ret3;refine ⟨?_, hb03.next hbq nL⟩;rw [HX.out];exact ⟨.slice none 0 0, by go_num, Own.nil, fun _ => rfl⟩
      ·have hge : (S.size : Int) ≤ (p : Int) := (by omega);have hdn : s.drop p = [] := List.drop_eq_nil_of_le (by have := HSz.out; omega);rw [hdn, File.match_nil] at hm';have HX : Hid (File.parse s = ([], p, 8)) := lH (by rw [HPX.out, ← hm', if_neg (by rintro ⟨h, _⟩; cases h)]);clear hm' hwg hv hdn;(go_wp2_with fail)
       go_quiet (fail)
       have hbq : Below w3.heap.size w3 (wr.drewN nq) := ⟨hbx.os, hbx.tape, hbx.output, hbx.size, hbx.block⟩;generalize wr.drewN nq = wq at *;(go_wp2_with fail);go_ret3;refine ⟨?_, hb03.next hbq nL⟩;rw [HX.out];exact ⟨.slice none 0 0, by go_num, Own.nil, fun _ => rfl⟩
     ·have hqi : ¬ (q : Int) < (WB.size : Int) := (by omega);obtain rfl : q = WB.size := by omega
      have hm' := hm.out;have hwn : ws.drop WB.size = [] := List.drop_eq_nil_of_le (by have := HWL.out; omega);rw [hwn] at hm';have eq1 : IntKind.i64.wrap ((k : Int) + (WB.size : Int)) = (k : Int) + (WB.size : Int) := IntWalk.i64_in _ (by omega);have hT2 : T = (true, s.drop (k + WB.size), k + WB.size) := hm'.symm
      by_cases hend : k + WB.size < S.size
      ·have hei : (k : Int) + (WB.size : Int) < (S.size : Int) := (by omega)
       have HX : Hid (File.parse s = ([], k + WB.size, 8)) := lH (by
        rw [HPX.out, hT2, if_neg (by
         rintro ⟨_, h⟩;have := congrArg List.length h;rw [List.length_drop] at this;have := HSz.out;simp at *;omega)])
       clear hm hm' hT2 hv;(go_wp2_with fail);go_ret3;refine ⟨?_, hb03.next hbx nL⟩;rw [HX.out];exact ⟨.slice none 0 0, by go_num, Own.nil, fun _ => rfl⟩
      ·have hei : ¬ (k : Int) + (WB.size : Int) < (S.size : Int) := (by omega)
       have HX : Hid (File.parse s = (out, 0, 0)) := lH (by
        rw [HPX.out, hT2, if_pos ⟨rfl, List.drop_eq_nil_of_le (by have := HSz.out; omega)⟩])
       clear hm hm' hT2 hv;(go_wp2_with fail);go_ret3;refine ⟨?_, hb03.next hbx nL⟩;rw [HX.out];exact ⟨_, rfl, hown3.below hbx, fun h => absurd rfl h⟩
   ·have h61i : ((v : Int) != 61) = true := by simp; omega
    have h61j : ¬ (v : Int) = 61 := (by omega);have hn61 : File.nextB (s.drop k) ≠ 61 := fun h => h61 (by rw [← hv, ← hnx, h]; rfl)
    have hLx := HLN.out;rw [show 25 - out.length = (24 - out.length) + 1 by omega] at hLx
    by_cases h24 : out.length = 24
    ·rw [File.lines_full hn61 h24, hnx] at hLx;have h24i : ((out.length : Int) == 24) = true := by simp; omega
     have h24j : (out.length : Int) = 24 := (by omega)
     by_cases hd : 48 ≤ v ∧ v ≤ 57
     ·have hdg : File.isDig (s[k]'hks) = true := by simp [File.isDig, hv]; exact hd
      have d1 : (48 : Int) ≤ (v : Int) := (by omega);have d2 : (v : Int) ≤ 57 := (by omega);have HX : Hid (File.parse s = ([], k, 2)) := lH (by rw [HP.out, ← hLx, hdg]; rfl);clear hLx h61 hd hdr hnx hn61;(go_wp2_with fail);go_ret3;refine ⟨?_, hbr⟩;rw [HX.out];exact ⟨_, rfl, Own.nil, fun _ => rfl⟩
     ·have hdg : File.isDig (s[k]'hks) = false := by simp [File.isDig, hv]; omega
      have HX : Hid (File.parse s = ([], k, 11)) := lH (by rw [HP.out, ← hLx, hdg]; rfl)
      by_cases hd1 : 48 ≤ v
      ·have d1 : (48 : Int) ≤ (v : Int) := (by omega);have d2 : ¬ (v : Int) ≤ 57 := (by omega);clear hLx h61 hd hdr hnx hn61;(go_wp2_with fail);go_ret3;refine ⟨?_, hbr⟩;rw [HX.out];exact ⟨_, rfl, Own.nil, fun _ => rfl⟩
      ·have d1 : ¬ (48 : Int) ≤ (v : Int) := (by omega);clear hLx h61 hd hdr hnx hn61;(go_wp2_with fail);go_ret3;refine ⟨?_, hbr⟩;rw [HX.out];exact ⟨_, rfl, Own.nil, fun _ => rfl⟩
    ·have h24i : ((out.length : Int) == 24) = false := by simp; omega
     have h24j : ¬ (out.length : Int) = 24 := (by omega);have hdl : (s.drop k).length = S.size - k := by rw [List.length_drop]; have := HSz.out; omega
     rcases File.read_line (s.drop k) k with ⟨x, j0, hx1, hx2, hx3, hls⟩ | ⟨j0, hx1, hx2, hln⟩
     ·have hxg := readLine_good hx1;rw [File.lines_some hn61 h24 hx1, hx2, hx3, List.drop_drop] at hLx
      have HN : Hid (File.lines (25 - (out ++ [File.ba x]).length) (out ++ [File.ba x]) (s.drop (k + j0)) (k + j0) = L) := lH (by
       rw [← hLx, List.length_append, List.length_singleton, show 25 - (out.length + 1) = 24 - out.length by omega])
      have HGN : Hid (Good (out ++ [File.ba x])) := lH (HG.out.snoc (by omega) hxg.1 hxg.2);have hj0 : j0 ≤ S.size - k := by rw [← hdl]; exact hls.le
      have hj1 := hls.pos;have hx40 : x.length ≤ 40 := by have := hxg.1; rwa [ba_size] at this
      have HLS := lH hls;have ho23 : out.length < 24 := (by omega);clear hLx h61 hdr hnx hn61 hx1 hx2 hx3 hls hdl h24 hxg;(go_wp2_with fail)
      go_loopw [7, 8, 9] (fun t b _ wx => ∃ (p : Nat) (z : Bool), k ≤ p ∧ p ≤ k + j0 ∧ t = iv p ∧ b = .bool z ∧ (z = true ↔ p = k + j0) ∧ wr = wx) (fun t _ _ _ => S.size - (intOf t).toNat)
      case atStart => exact ⟨k, false, Nat.le_refl _, Nat.le_add_right _ _, rfl, rfl, by simp; omega, rfl⟩
      case round =>
       obtain ⟨p, z, hp0, hp1, rfl, rfl, hz, rfl⟩ := hrel
       cases z
       ·have hjj : p < k + j0 := by
         have : ¬ p = k + j0 := fun h => by have := hz.2 h; cases this
         omega
        clear hz;have hei : (p : Int) < (S.size : Int) := (by omega)
        have hrun : ∀ W : World, (Instr.slice 9 (.string S) (some (iv (k : Int))) (some (iv ((p : Int) + 1))) none).run Tryz.prog W = .ok (.string (File.ba ((s.drop k).take (p - k + 1)))) W := fun W => by
         have := HCUT.out k (p + 1) (by omega) (by omega) W;rw [show p + 1 - k = p - k + 1 by omega] at this;exact this
        have ei : IntKind.i64.wrap ((p : Int) + 1) = (p : Int) + 1 := IntWalk.i64_in _ (by omega)
        by_cases hl : p + 1 = k + j0
        ·have HC := lH (can_call s hs (k := k) (i := p - k + 1) (by have := HSz.out; omega) true true (by rw [show p - k + 1 = j0 by omega]; exact HLS.out.all) wr);generalize File.ba ((s.drop k).take (p - k + 1)) = Z at *;(go_wp2_with fail);refine HC.out.mono ?_;rintro e w1 ⟨rfl, rfl⟩;(go_wp2_with fail);go_roundw
         case rel => exact ⟨p + 1, true, by omega, by omega, by go_num, rfl, by simp [hl], trivial⟩
         case measure => simp [intOf]; omega
        ·have HC := lH (can_call s hs (k := k) (i := p - k + 1) (by have := HSz.out; omega) true false (HLS.out.pre (p - k + 1) (by omega) (by omega)) wr);generalize File.ba ((s.drop k).take (p - k + 1)) = Z at *;(go_wp2_with fail);refine HC.out.mono ?_;rintro e w1 ⟨rfl, rfl⟩;(go_wp2_with fail);go_roundw
         case rel => exact ⟨p + 1, false, by omega, by omega, by go_num, rfl, by simp [hl], trivial⟩
         case measure => simp [intOf]; omega
       ·obtain rfl : p = k + j0 := hz.1 rfl;clear hz hp0 hp1;have hpS : k + j0 ≤ S.size := (by omega);have hpk : k < k + j0 := (by omega);obtain ⟨dl, hdl⟩ : ∃ dl, dl = (Lib.decDigits x.length).length := ⟨_, rfl⟩;have hdl6 : dl ≤ 6 := by rw [hdl]; exact dec_len 5 _ (by omega)
        obtain ⟨ln, hln⟩ : ∃ ln, ln = Lib.decDigits x.length ++ 58 :: x := ⟨_, rfl⟩;have hlnl : ln.length = dl + 1 + x.length := by rw [hln, hdl]; simp; omega
        have hrun : ∀ W : World, (Instr.slice 9 (.string S) (some (iv (k : Int))) (some (iv (((k + j0 : Nat) : Int) - 1))) none).run Tryz.prog W = .ok (.string (File.ba ln)) W := fun W => by
         have := HCUT.out k (k + j0 - 1) (by omega) (by omega) W;rw [show k + j0 - 1 - k = j0 - 1 by omega, HLS.out.form, ← hln] at this;rw [show (((k + j0 : Nat) : Int) - 1) = ((k + j0 - 1 : Nat) : Int) by omega];exact this
        have hrunx : ∀ W : World, (Instr.slice 9 (.string (File.ba ln)) (some (iv ((dl : Int) + 1))) none none).run Tryz.prog W = .ok (.string (File.ba x)) W := fun W => by
         have := bFrom (L := ln) (i := dl + 1) (by omega) W
         have hd : ln.drop (dl + 1) = x := by
          rw [hln, hdl, List.drop_append, List.drop_eq_nil_of_le (Nat.le_succ _), List.nil_append, Nat.add_sub_cancel_left]; rfl
         rw [hd] at this;exact this
        have HBY : Hid (∀ (q : Nat) (h : q < (File.ba ln).size), q ≤ dl → (((File.ba ln)[q]'h).toNat = 58 ↔ q = dl)) := lH fun q h hq => by
         have h' : q < ln.length := by rwa [ba_size] at h
         rw [ba_idx h h']
         constructor
         ·intro he;refine Classical.byContradiction fun hne => ?_
          have hlt : q < (Lib.decDigits x.length).length := (by omega)
          have hg : ln[q]'h' = (Lib.decDigits x.length)[q]'hlt := by
           simp only [hln];rw [List.getElem_append_left hlt]
          rw [hg] at he;exact File.dec_no58 hx40 _ (List.getElem_mem hlt) (UInt8.toNat_inj.1 (by rw [he]; rfl))
         ·rintro rfl
          have hg : ln[q]'h' = 58 := by
           simp only [hln];rw [List.getElem_append_right (by omega)];simp [hdl]
          rw [hg]; rfl
        have hlz : (File.ba ln).size = dl + 1 + x.length := by rw [ba_size, hlnl]
        have hlz2 : dl < (File.ba ln).size := (by omega);have HLZ := lH hlz;have hlz3 : (File.ba ln).size ≤ 100 := (by omega);have ei2 : IntKind.i64.wrap (((k + j0 : Nat) : Int) - 1) = ((k + j0 : Nat) : Int) - 1 := IntWalk.i64_in _ (by omega);generalize File.ba ln = LN at *;generalize k + j0 = p at *;clear hlz hln hdl hlnl HCUT HGET;have hnot : (!true) = false := rfl
        by_cases hei : (p : Int) < (S.size : Int)
        all_goals
         (go_wp2_with fail)
         go_loopw [11] (fun a wx => ∃ q : Nat, q ≤ dl ∧ a = iv q ∧ wr = wx) (fun a _ => dl - (intOf a).toNat)
         case atStart => exact ⟨0, Nat.zero_le _, rfl, rfl⟩
         case round =>
          obtain ⟨q, hq, rfl, rfl⟩ := hrel;have hqs : q < LN.size := (by omega);have h58 := HBY.out q hqs hq;generalize hu : (LN[q]'hqs).toNat = u at *
          by_cases hqd : q = dl
          ·subst hqd;have h58i : ((u : Int) != 58) = false := by simp; omega
           have h58j : (u : Int) = 58 := by have := h58.2 rfl; omega
           clear h58
           go_wp2_with (at_builtin; refine wpApp1 strE tyStrs rfl _ _ rfl hown (File.ba x) rfl rfl rfl hbr.size (by unfold big; omega) ?_; intro v5 w5 hown5 hb5 hot5)
           go_roundw
           case rel => exact ⟨out ++ [File.ba x], p, rfl, hpS, hown5, HGN, by simp; omega, HN, hbr.trans hb5⟩
           case measure => simp [intOf]; omega
          ·have h58j : ¬ (u : Int) = 58 := fun h => hqd (h58.1 (by omega))
           have h58i : ((u : Int) != 58) = true := by simp; omega
           clear h58;(go_wp2_with fail);go_roundw
           case rel => exact ⟨q + 1, by omega, by go_num, trivial⟩
           case measure => simp [intOf]; omega
     ·rw [File.lines_none hn61 h24 hx1, hx2] at hLx;have HX : Hid (File.parse s = ([], k + j0, 11)) := lH (by rw [HP.out, ← hLx]; rfl);have hj0 : j0 ≤ S.size - k := by rw [← hdl]; exact hln.le
      have HLI := lH hln;have HDL := lH hdl;clear hLx h61 hdr hnx hn61 hx1 hx2 hln hdl h24;(go_wp2_with fail)
      go_loopw [7, 8, 9] (fun t b _ wx => ∃ p : Nat, k ≤ p ∧ p ≤ k + j0 ∧ t = iv p ∧ b = .bool false ∧ wr = wx) (fun t _ _ _ => S.size - (intOf t).toNat)
      case atStart => exact ⟨k, Nat.le_refl _, Nat.le_add_right _ _, rfl, rfl, rfl⟩
      case round =>
       obtain ⟨p, hp0, hp1, rfl, rfl, rfl⟩ := hrel
       by_cases hend : p < S.size
       ·have hei : (p : Int) < (S.size : Int) := (by omega)
        have hrun : ∀ W : World, (Instr.slice 9 (.string S) (some (iv (k : Int))) (some (iv ((p : Int) + 1))) none).run Tryz.prog W = .ok (.string (File.ba ((s.drop k).take (p - k + 1)))) W := fun W => by
         have := HCUT.out k (p + 1) (by omega) (by omega) W;rw [show p + 1 - k = p - k + 1 by omega] at this;exact this
        have ei : IntKind.i64.wrap ((p : Int) + 1) = (p : Int) + 1 := IntWalk.i64_in _ (by omega)
        by_cases hjj : p < k + j0
        ·have HC := lH (can_call s hs (k := k) (i := p - k + 1) (by have := HSz.out; omega) true false (HLI.out.pre (p - k + 1) (by omega) (by omega)) wr);generalize File.ba ((s.drop k).take (p - k + 1)) = Z at *;(go_wp2_with fail);refine HC.out.mono ?_;rintro e w1 ⟨rfl, rfl⟩;(go_wp2_with fail);go_roundw
         case rel => exact ⟨p + 1, by omega, by omega, by go_num, rfl, trivial⟩
         case measure => simp [intOf]; omega
        ·obtain rfl : p = k + j0 := by omega
         have hst : File.can ((s.drop k).take (j0 + 1)) = (false, false) := by
          rcases HLI.out.stop with h | h
          ·exfalso; rw [HDL.out] at h; omega
          ·exact h
         have HC := lH (can_call s hs (k := k) (i := k + j0 - k + 1) (by have := HSz.out; omega) false false (by rw [Nat.add_sub_cancel_left]; exact hst) wr);clear hst;generalize File.ba ((s.drop k).take (k + j0 - k + 1)) = Z at *;generalize k + j0 = p at *;(go_wp2_with fail);refine HC.out.mono ?_;rintro e w1 ⟨rfl, rfl⟩;(go_wp2_with fail);go_ret3;refine ⟨?_, hbr⟩;rw [HX.out];exact ⟨_, rfl, Own.nil, fun _ => rfl⟩
       ·have hei : ¬ (p : Int) < (S.size : Int) := (by omega);obtain rfl : p = k + j0 := by omega
        generalize k + j0 = p at *;(go_wp2_with fail);go_ret3;refine ⟨?_, hbr⟩;rw [HX.out];exact ⟨_, rfl, Own.nil, fun _ => rfl⟩
  ·obtain rfl : k = S.size := by omega
   have hki : ¬ (S.size : Int) < (S.size : Int) := (by omega);have hLx := HLN.out;rw [show 25 - out.length = (24 - out.length) + 1 by omega, List.drop_eq_nil_of_le (by have := HSz.out; omega), File.lines_nil] at hLx;have HX : Hid (File.parse s = ([], S.size, 11)) := lH (by rw [HP.out, ← hLx]; rfl);clear hLx;(go_wp2_with fail);go_ret3;refine ⟨?_, hbr⟩;rw [HX.out];exact ⟨_, rfl, Own.nil, fun _ => rfl⟩
end Fl
end
section
namespace Fl
open Go.RowKit Go.Shelf
theorem parses_len (s : List UInt8) : (File.parse s).1.length ≤ 24 := by
 by_cases h : (File.parse s).2.2 = 0
 ·exact (good_of_check (File.parse_good (t := s) (g := (File.parse s).1) (n := (File.parse s).2.1) (by rw [← h]))).many
 ·rw [(File.parse_err s h).1]; simp
set_option maxHeartbeats 4000000 in
theorem parses_law (s : ByteArray) (w : World) (ht : Tab w) :
  Calls Tryz.prog 5 #[.string s] w fun e w' => e = .returned (.bool true) ∧ Below w.heap.size w w' := by
 have HT := lH ht;clear ht
 by_cases hl : 1500 < s.size
 ·have hi : (1500 : Int) < (s.size : Int) := (by omega)
  go_enter Tryz.func5, Tryz.ntmps5
  (go_wp2_with fail);refine (awake_spec w HT.out).mono ?_;rintro e w2 ⟨rfl, hb2⟩;(go_wp2_with fail);go_ret;exact ⟨rfl, hb2⟩
 ·have hi : ¬ (1500 : Int) < (s.size : Int) := (by omega);have hsz : (File.bts s).length ≤ 1500 := by simp; omega
  have hsb : File.ba (File.bts s) = s := by apply ByteArray.ext; simp [File.ba]
  have HR := lH (rparse_spec (File.bts s) w hsz);have HF := lH (fun W (h : Below w.heap.size w W) => parse_spec (File.bts s) W (by omega) (HT.out.below h));rw [hsb] at HR;simp only [hsb] at HF;have hgl := parses_len (File.bts s)
  have h0 : (File.parse (File.bts s)).2.2 = 0 ∨ ((File.parse (File.bts s)).2.2 == 0) = false := by
   by_cases h : (File.parse (File.bts s)).2.2 = 0
   ·exact .inl h
   ·exact .inr (by simpa using h)
  generalize File.parse (File.bts s) = r at *;obtain ⟨g, n, z⟩ := r;simp only at hgl h0;have hbig : g.length ≤ big := by unfold big; omega
  clear hsb hsz hl
  go_enter Tryz.func5, Tryz.ntmps5
  (go_wp2_with fail);refine HR.out.mono ?_;rintro _ w1 ⟨⟨v1, rfl, ho1, hn1⟩, hb1⟩;simp only at ho1 hn1;obtain ⟨A1, c1, rfl, _, _⟩ := ho1.form;(go_wp2_with fail);refine (HF.out w1 hb1).mono ?_;rintro _ w2 ⟨⟨v2, rfl, ho2, hn2⟩, hb2⟩;simp only at ho2 hn2
  have HEQ : Hid (∀ (A2 : Option Addr) (c2 : Nat), Sl strE w2 A2 g → Calls Tryz.prog 26 #[.slice A2 g.length c2, .slice A1 g.length c1] w2 fun e w' => e = .returned (.bool true) ∧ Below w2.heap.size w2 w') := lH fun A2 c2 h => by
   have := equalS A2 g c2 A1 g c1 w2 hbig h hbig (ho1.below hb2).sl;rw [decide_eq_true rfl] at this;exact this
  have hb02 := hb1.next hb2 nL;clear HR HF hn1 ho1
  rcases h0 with rfl | hz
  ·obtain ⟨A2, c2, rfl, _, _⟩ := ho2.form;(go_wp2_with fail);refine (HEQ.out A2 c2 ho2.sl).mono ?_;rintro e w3 ⟨rfl, hb3⟩;have hb03 := hb02.next hb3 nL;(go_wp2_with fail);refine (awake_spec w3 (HT.out.below hb03)).mono ?_;rintro e w4 ⟨rfl, hb4⟩;(go_wp2_with fail);go_ret;exact ⟨rfl, hb03.next hb4 nL⟩
  ·obtain rfl := hn2 (by simpa using hz)
   have hgn : g.length = 0 := by
    obtain ⟨A2, c2, e2, _, _⟩ := ho2.form;injection e2 with _ e2 _;exact e2.symm
   have HE0 : Hid (Calls Tryz.prog 26 #[.slice none 0 0, .slice A1 g.length c1] w2 fun e w' => e = .returned (.bool true) ∧ Below w2.heap.size w2 w') := lH (by
    have := HEQ.out none 0 (by rw [List.eq_nil_of_length_eq_zero hgn]; exact fun h => absurd rfl h)
    rwa [hgn] at this ⊢)
   clear hgn;have hnil : ∀ W : World, (binOp .eql 23 (.slice none 0 0) (.slice none 0 0)).run Tryz.prog W = .ok (.bool true) W := fun W => by kernel_rfl
   (go_wp2_with fail);refine HE0.out.mono ?_;rintro e w3 ⟨rfl, hb3⟩;have hb03 := hb02.next hb3 nL;(go_wp2_with fail);refine (awake_spec w3 (HT.out.below hb03)).mono ?_;rintro e w4 ⟨rfl, hb4⟩;(go_wp2_with fail);go_ret;exact ⟨rfl, hb03.next hb4 nL⟩
end Fl
end
section
namespace Fl
open Go.RowKit Go.Shelf
theorem great1row (A : Option Addr) (f : List ByteArray) (c : Nat) (w : World) (hfc : f.length ≤ c) (hs : Sl strE w A f) :
  Calls Tryz.prog 31 #[.slice (some ⟨w.heap.size, 0, none⟩) 1 1] (w.alloc (.cells #[.slice A f.length c] 23)) fun e w' => e = .returned (.bool (G.greatF f)) ∧ Below w.heap.size w w' := by
 have hb : Below w.heap.size w (w.alloc (.cells #[.slice A f.length c] 23)) := rB.alloc nL _;have h1 := Sl.fresh (rwE ByteArray) w 23 #[.slice A f.length c] [⟨A, c, f⟩] rfl (by simp [maxLen])
 have := great_spec (some ⟨w.heap.size, 0, none⟩) [⟨A, c, f⟩] 1 (w.alloc (.cells #[.slice A f.length c] 23)) (by simp [big]) h1 (fun r hr => by
  rw [List.mem_singleton.1 hr];exact ⟨hs.below hb, hfc⟩)
 refine this.mono ?_;rintro e w' ⟨rfl, hb'⟩;exact ⟨by simp, hb.next hb' nL⟩
theorem great_false {f : List ByteArray} (h : G.greatF f = false) : f.length ≤ 30 ∧ ∀ s ∈ f, s.size ≤ 60 := by
 unfold G.greatF at h;rw [Bool.or_eq_false_iff] at h;obtain ⟨h1, h2⟩ := h;rw [decide_eq_false_iff_not] at h1;rw [List.any_eq_false] at h2;refine ⟨by omega, fun s hs => ?_⟩;have := h2 s hs;simp only [G.longS, decide_eq_true_eq] at this;omega
set_option maxHeartbeats 4000000 in
theorem texts_law (A : Option Addr) (f : List ByteArray) (c : Nat) (w : World) (hfc : f.length ≤ c) (hs : Sl strE w A f) (ht : Tab w) :
  Calls Tryz.prog 11 #[.slice A f.length c] w fun e w' => e = .returned (.bool true) ∧ Below w.heap.size w w' := by
 have HT := lH ht;have HGR := lH (great1row A f c w hfc hs);clear ht
 cases hg : G.greatF f
 ·obtain ⟨hfl, _⟩ := great_false hg;rw [hg] at HGR;clear hg;have HSL : Hid (∀ W, Below w.heap.size w W → Sl strE W A f) := lH fun W h => hs.below h
  have hbig : f.length ≤ big := by unfold big; omega
  go_enter Tryz.func11, Tryz.ntmps11
  (go_wp2_with fail);refine HGR.out.mono ?_;rintro e w1 ⟨rfl, hb1⟩;(go_wp2_with fail);refine (dupS A f c w1 hbig (HSL.out w1 hb1)).mono ?_;rintro e w2 ⟨v, rfl, ho2, hb2⟩;obtain ⟨Ao, co, rfl, hco, _⟩ := ho2.form;have hb02 := hb1.next hb2 nL;have HOW : Hid (∀ W, Below w2.heap.size w2 W → Sl strE W Ao f) := lH fun W h => ho2.sl.below h
  clear ho2 hb1 hb2 HGR hs
  have HEQ : Hid (∀ W, Below w2.heap.size w2 W → Calls Tryz.prog 26 #[.slice Ao f.length co, .slice A f.length c] W fun e w' => e = .returned (.bool true) ∧ Below W.heap.size W w') := lH fun W h => by
   have := equalS Ao f co A f c W hbig (HOW.out W h) hbig (HSL.out W (hb02.next h nL));rw [decide_eq_true rfl] at this;exact this
  have HAW : Hid (∀ W, Below w2.heap.size w2 W → Calls Tryz.prog 20 #[] W fun e w' => e = .returned (.bool true) ∧ Below W.heap.size W w') := lH fun W h => awake_spec W (HT.out.below (hb02.next h nL))
  have HRC : Hid (∀ W, Below w2.heap.size w2 W → Calls Tryz.prog 33 #[.slice A f.length c] W fun e w' => e = .returned (iv (File.check f)) ∧ Below W.heap.size W w') := lH fun W h => rcheck_spec A f c W hbig (HSL.out W (hb02.next h nL))
  have HSU : Hid (∀ W, Below w2.heap.size w2 W → Calls Tryz.prog 34 #[.slice Ao f.length co] W fun e w' => e = .returned (.tuple #[iv (if File.check f = 0 then File.sum f else 0), iv (File.check f)]) ∧ Below W.heap.size W w') := lH fun W h => Sum_spec Ao f co W hbig (HOW.out W h)
  have HPR : Hid (∀ W, Below w2.heap.size w2 W → Calls Tryz.prog 18 #[.slice Ao f.length co] W fun e w' => e = .returned (.tuple #[.string (if File.check f = 0 then File.ba (File.text f) else ⟨#[]⟩), iv (File.check f)]) ∧ Below W.heap.size W w') := lH fun W h => print_spec Ao f co W hbig (HOW.out W h) (HT.out.below (hb02.next h nL))
  have HCK : Hid (∀ W, Below w2.heap.size w2 W → Calls Tryz.prog 35 #[.slice Ao f.length co] W fun e w' => e = .returned (iv (File.check f)) ∧ Below W.heap.size W w') := lH fun W h => check_spec Ao f co W hbig (HOW.out W h)
  by_cases hck : File.check f = 0
  ·have hgd := good_of_check hck;have hm24 := hgd.many;have HRS : Hid (∀ W, Below w2.heap.size w2 W → Calls Tryz.prog 23 #[.slice A f.length c] W fun e w' => e = .returned (iv (File.sum f)) ∧ Below W.heap.size W w') := lH fun W h => rsum_spec A f c W hm24 hgd.wide (HSL.out W (hb02.next h nL))
   have HRP : Hid (∀ W, Below w2.heap.size w2 W → Calls Tryz.prog 4 #[.slice A f.length c] W fun e w' => e = .returned (.string (File.ba (File.text f))) ∧ Below W.heap.size W w') := lH fun W h => rprint_spec A f c W hgd (HSL.out W (hb02.next h nL))
   rw [if_pos hck] at HSU HPR;rw [hck] at HRC HSU HPR HCK;generalize File.sum f = sm at *;generalize File.ba (File.text f) = tx at *;clear hck hgd;(go_wp2_with fail);refine (HRC.out w2 rB).mono ?_;rintro e w3 ⟨rfl, hb3⟩;(go_wp2_with fail);refine (HSU.out w3 hb3).mono ?_;rintro e w4 ⟨rfl, hb4⟩;have k4 := hb3.next hb4 nL;(go_wp2_with fail);refine (HPR.out w4 k4).mono ?_;rintro e w5 ⟨rfl, hb5⟩;have k5 := k4.next hb5 nL;(go_wp2_with fail);refine (HRS.out w5 k5).mono ?_;rintro e w6 ⟨rfl, hb6⟩;have k6 := k5.next hb6 nL;(go_wp2_with fail);refine (HRP.out w6 k6).mono ?_;rintro e w7 ⟨rfl, hb7⟩;have k7 := k6.next hb7 nL;clear hb3 hb4 hb5 hb6 hb7 k4 k5 k6;(go_wp2_with fail);refine (HCK.out w7 k7).mono ?_;rintro e w8 ⟨rfl, hb8⟩;have k8 := k7.next hb8 nL;(go_wp2_with fail);refine (HEQ.out w8 k8).mono ?_;rintro e w9 ⟨rfl, hb9⟩
   have k9 := k8.next hb9 nL;(go_wp2_with fail);refine (HAW.out w9 k9).mono ?_;rintro e w10 ⟨rfl, hb10⟩;(go_wp2_with fail);go_ret;exact ⟨rfl, hb02.next (k9.next hb10 nL) nL⟩
  ·rw [if_neg hck] at HSU HPR;generalize File.check f = e0 at *;have he0 : (e0 == 0) = false := by simpa using hck
   clear hck;(go_wp2_with fail);refine (HRC.out w2 rB).mono ?_;rintro e w3 ⟨rfl, hb3⟩;(go_wp2_with fail);refine (HSU.out w3 hb3).mono ?_;rintro e w4 ⟨rfl, hb4⟩;have k4 := hb3.next hb4 nL;(go_wp2_with fail);refine (HPR.out w4 k4).mono ?_;rintro e w5 ⟨rfl, hb5⟩;have k7 := k4.next hb5 nL;(go_wp2_with fail);refine (HCK.out w5 k7).mono ?_;rintro e w8 ⟨rfl, hb8⟩;have k8 := k7.next hb8 nL;(go_wp2_with fail);refine (HEQ.out w8 k8).mono ?_;rintro e w9 ⟨rfl, hb9⟩;have k9 := k8.next hb9 nL;(go_wp2_with fail);refine (HAW.out w9 k9).mono ?_;rintro e w10 ⟨rfl, hb10⟩;(go_wp2_with fail);go_ret;exact ⟨rfl, hb02.next (k9.next hb10 nL) nL⟩
 ·rw [hg] at HGR;clear hg
  go_enter Tryz.func11, Tryz.ntmps11
  (go_wp2_with fail);refine HGR.out.mono ?_;rintro e w1 ⟨rfl, hb1⟩;(go_wp2_with fail);refine (awake_spec w1 (HT.out.below hb1)).mono ?_;rintro e w2 ⟨rfl, hb2⟩;(go_wp2_with fail);go_ret;exact ⟨rfl, hb1.next hb2 nL⟩
end Fl
end
end Go.Proofs.YtblgkmdadholmabGreatDoor
