/- Package file: the cost of a change, and the change that takes it back. Conditions: few edits, lengths are below a great bound. -/
import Derived.Test.YtekkhnjepcebkaaGreatDoorFlCc
set_option linter.unusedVariables false
set_option linter.unusedSimpArgs false
namespace Go.Proofs.YtekkhnjepcebkaaGreatDoor
namespace File
/-- What is so of a change without an error. -/
structure ChOk (c : List (Edit ByteArray)) : Prop where
  at_ : ∀ x ∈ c, 0 ≤ x.at_ ∧ x.at_ ≤ 24
  old : ∀ x ∈ c, x.old.length ≤ 24
  new : ∀ x ∈ c, x.new.length ≤ 24
  some : ∀ x ∈ c, 0 < x.old.length + x.new.length
  lines : lined (allLines c) = 0
  order : ordered c = true
theorem ch_of {c : List (Edit ByteArray)} (h : checkChange c = 0) : ChOk c := by
  unfold checkChange at h
  split at h
  · rename_i h1
    split at h
    · rename_i h2
      split at h
      · rename_i h3
        split at h
        · rename_i h4
          have k1 : ∀ x ∈ c, (decide (0 ≤ x.at_) && decide (x.at_ ≤ 24)) = true := fun x hx => List.all_eq_true.1 h1 x hx
          have k2 : ∀ x ∈ c, (decide (x.old.length ≤ 24) && (decide (x.new.length ≤ 24) && decide (0 < x.old.length + x.new.length))) = true := fun x hx => List.all_eq_true.1 h2 x hx
          simp only [Bool.and_eq_true, decide_eq_true_eq] at k1 k2
          exact ⟨k1, fun x hx => (k2 x hx).1, fun x hx => (k2 x hx).2.1, fun x hx => (k2 x hx).2.2, h3, h4⟩
        · cases h
      · rename_i h3; exact absurd h h3
    · cases h
  · cases h
theorem ch_zero {c : List (Edit ByteArray)} (h : ChOk c) : checkChange c = 0 := by
  unfold checkChange
  rw [if_pos (List.all_eq_true.2 fun x hx => by
    show (decide (0 ≤ x.at_) && decide (x.at_ ≤ 24)) = true
    rw [decide_eq_true (h.at_ x hx).1, decide_eq_true (h.at_ x hx).2]; rfl), if_pos (List.all_eq_true.2 fun x hx => by
    show (decide (x.old.length ≤ 24) && (decide (x.new.length ≤ 24) && decide (0 < x.old.length + x.new.length))) = true
    rw [decide_eq_true (h.old x hx), decide_eq_true (h.new x hx), decide_eq_true (h.some x hx)]; rfl), if_pos h.lines, if_pos h.order]
def backTry : Int → List (Edit ByteArray) → Option (List (Edit ByteArray))
  | _, [] => some []
  | n, x :: r => if 24 < x.at_ + n then none else (backTry (n + ((x.new.length : Int) - (x.old.length : Int))) r).map (⟨x.at_ + n, x.new, x.old⟩ :: ·)
/-- What Back answers. -/
def backAns (c : List (Edit ByteArray)) : List (Edit ByteArray) × Int := if checkChange c = 0 then (match backTry 0 c with
  | some l => (l, 0)
  | none => ([], 3)) else ([], checkChange c)
end File
namespace Fl
open Go.RowKit
set_option maxRecDepth 100000
theorem drop_ed {vs : List EdV} {k : Nat} {x : EdV} (h : vs[k]? = some x) : (vs.map EdV.ed).drop k = x.ed :: (vs.map EdV.ed).drop (k + 1) := drop_at (by rw [List.getElem?_map, h]; rfl)
set_option maxHeartbeats 2000000 in
theorem Cost_spec (A : Option Addr) (vs : List EdV) (c : Nat) (w : World) (hm : vs.length ≤ 1000) (hs : Sl edE w A vs) (hok : ∀ r ∈ vs, EdOk w r) (hb1 : ∀ r ∈ vs, r.old.length ≤ big ∧ r.new.length ≤ big) :
    Calls Tryz.prog 31 #[.slice A vs.length c] w fun e w' => e = .returned (.tuple #[iv (if File.checkChange (vs.map EdV.ed) = 0 then ((File.cost (vs.map EdV.ed) : Nat) : Int) else 0), iv (File.checkChange (vs.map EdV.ed))]) ∧ Below w.heap.size w w' := by
  have HC := Lib.hid (cc_spec A vs c w hm hs hok hb1)
  by_cases hz : File.checkChange (vs.map EdV.ed) = 0
  · have hch := File.ch_of hz
    rw [if_pos hz]
    rw [hz] at HC ⊢
    obtain ⟨ans, hans⟩ : ∃ ans, ans = File.cost (vs.map EdV.ed) := ⟨_, rfl⟩
    rw [← hans]
    have HSZ : Hid (∀ r ∈ vs, r.old.length ≤ 24 ∧ r.new.length ≤ 24) := Lib.hid fun r hr => ⟨hch.old r.ed (List.mem_map_of_mem hr), hch.new r.ed (List.mem_map_of_mem hr)⟩
    have HA := Lib.hid hans
    clear hans hch hz hok hb1
    go_enter Tryz.func31, Tryz.ntmps31
    go_wp2_with fail
    refine HC.out.mono ?_
    rintro _ w1 ⟨rfl, hb1⟩
    clear HC
    go_wp2_with fail
    go_loopw [5, 7, 15] (fun n _ i wr => ∃ (k m : Nat), k ≤ vs.length ∧ i = iv k ∧ n = iv m ∧ m ≤ k * 48 ∧ Hid (m + File.cost ((vs.map EdV.ed).drop k) = ans) ∧ Below w1.heap.size w1 wr) (fun _ _ i _ => vs.length - (intOf i).toNat)
    case atStart => exact ⟨0, 0, by omega, rfl, rfl, by omega, Lib.hid (by rw [HA.out]; simp), Below.refl _ _⟩
    case round =>
      obtain ⟨k, m, hk, rfl, rfl, hmk, HN, hbr⟩ := hrel
      by_cases hlt : k < vs.length
      · have hki : (k : Int) < (vs.length : Int) := by omega
        obtain ⟨b, off, x, rfl, hb0, hx, hc0, hc1, hc2⟩ := Sl.atEd (hs.below (hb1.next hbr (Nat.le_refl _))) hlt
        have hxs := HSZ.out x (mem_at hx)
        have hn := HN.out
        rw [drop_ed hx] at hn
        simp only [File.cost, EdV.ed] at hn
        have HN2 := Lib.hid hn
        have hbM : Below wr.heap.size wr (wr.alloc (.cells #[iv x.at_, .slice x.A x.old.length x.c, .slice x.A' x.new.length x.c'] 53)) := (Below.refl _ _).alloc (Nat.le_refl _) _
        clear hn HN hx
        go_wp2_with fail
        go_roundw
        case rel => exact ⟨k + 1, m + (x.old.length + x.new.length), by omega, by go_num, by go_num, by omega, Lib.hid (by rw [← HN2.out]; unfold EdV.ed; omega), hbr.next hbM (Nat.le_refl _)⟩
        case measure => simp [intOf]; omega
      · have hki : ¬ (k : Int) < (vs.length : Int) := by omega
        have hn := HN.out
        rw [show (vs.map EdV.ed).drop k = [] from List.drop_eq_nil_of_le (by rw [List.length_map]; omega)] at hn
        have HN2 : Hid (ans = m) := Lib.hid (by rw [← hn]; rfl)
        clear hn HN
        go_wp2_with fail
        go_ret2
        exact ⟨ret_eq (by rw [HN2.out]; rfl), hb1.next hbr (Nat.le_refl _)⟩
  · rw [if_neg hz]
    generalize File.checkChange (vs.map EdV.ed) = e0 at *
    have he0 : (e0 != 0) = true := by simpa using hz
    clear hz
    go_enter Tryz.func31, Tryz.ntmps31
    go_wp2_with fail
    refine HC.out.mono ?_
    rintro _ w1 ⟨rfl, hb1⟩
    go_wp2_with fail
    go_ret2
    exact ⟨rfl, hb1⟩
set_option maxHeartbeats 8000000 in
theorem Back_spec (A : Option Addr) (vs : List EdV) (c : Nat) (w : World) (hm : vs.length ≤ 1000) (hs : Sl edE w A vs) (hok : ∀ r ∈ vs, EdOk w r) (hb1 : ∀ r ∈ vs, r.old.length ≤ big ∧ r.new.length ≤ big) :
    Calls Tryz.prog 33 #[.slice A vs.length c] w fun e w' => ∃ v rs, e = .returned (.tuple #[v, iv (File.backAns (vs.map EdV.ed)).2]) ∧ Own rawE 53 w.heap.size w' v rs ∧ EdsR w.heap.size w' rs (File.backAns (vs.map EdV.ed)).1 ∧ Below w.heap.size w w' := by
  have HC := Lib.hid (cc_spec A vs c w hm hs hok hb1)
  by_cases hz : File.checkChange (vs.map EdV.ed) = 0
  · have hch := File.ch_of hz
    rw [hz] at HC
    have HA : Hid (File.backAns (vs.map EdV.ed) = match File.backTry 0 (vs.map EdV.ed) with | some l => (l, 0) | none => ([], 3)) := Lib.hid (by unfold File.backAns; rw [if_pos hz])
    have HSZ : Hid (∀ r ∈ vs, 0 ≤ r.at_ ∧ r.at_ ≤ 24 ∧ r.old.length ≤ 24 ∧ r.new.length ≤ 24) := Lib.hid fun r hr => ⟨(hch.at_ r.ed (List.mem_map_of_mem hr)).1, (hch.at_ r.ed (List.mem_map_of_mem hr)).2, hch.old r.ed (List.mem_map_of_mem hr), hch.new r.ed (List.mem_map_of_mem hr)⟩
    have HOK := Lib.hid hok
    generalize File.backAns (vs.map EdV.ed) = ans at *
    obtain ⟨R, hR⟩ : ∃ R, R = File.backTry 0 (vs.map EdV.ed) := ⟨_, rfl⟩
    rw [← hR] at HA
    have HR := Lib.hid hR
    clear hR hch hz hok hb1
    go_enter Tryz.func33, Tryz.ntmps33
    go_wp2_with fail
    refine HC.out.mono ?_
    rintro _ w3 ⟨rfl, hb03⟩
    clear HC
    go_wp2_with fail
    go_loopw [5, 6, 8, 16] (fun v n _ i wr => ∃ (k : Nat) (n0 : Int) (rs : List RawEd) (acc : List (File.Edit ByteArray)), k ≤ vs.length ∧ i = iv k ∧ n = iv n0 ∧ -(k * 24 : Int) ≤ n0 ∧ n0 ≤ (k * 24 : Int) ∧ Hid (Own rawE 53 w3.heap.size wr v rs) ∧ Hid (EdsR w3.heap.size wr rs acc) ∧ rs.length ≤ k ∧ Hid ((File.backTry n0 ((vs.map EdV.ed).drop k)).map (acc ++ ·) = R) ∧ Below w3.heap.size w3 wr) (fun _ _ _ i _ => vs.length - (intOf i).toNat)
    case atStart => exact ⟨0, 0, [], [], by omega, rfl, rfl, by omega, by omega, Own.nil, trivial, by simp, Lib.hid (by rw [HR.out, List.drop_zero]; cases File.backTry 0 (vs.map EdV.ed) <;> rfl), Below.refl _ _⟩
    case round =>
      obtain ⟨k, n0, rs, acc, hk, rfl, rfl, hn1, hn2, HO, HE, hrl, HB, hbr⟩ := hrel
      have hb0r := hb03.next hbr (Nat.le_refl _)
      by_cases hlt : k < vs.length
      · have hki : (k : Int) < (vs.length : Int) := by omega
        obtain ⟨b, off, x, rfl, hb0, hx, hc0, hc1, hc2⟩ := Sl.atEd (hs.below hb0r) hlt
        have hxs := HSZ.out x (mem_at hx)
        have hbt := HB.out
        rw [drop_ed hx] at hbt
        have HXO0 : Hid (∀ z : World, Below w3.heap.size w3 z → Sl strE z x.A x.old) := Lib.hid fun z h => ((HOK.out x (mem_at hx)).below (hb03.next h (Nat.le_refl _))).old
        have HXN0 : Hid (∀ z : World, Below w3.heap.size w3 z → Sl strE z x.A' x.new) := Lib.hid fun z h => ((HOK.out x (mem_at hx)).below (hb03.next h (Nat.le_refl _))).new
        obtain ⟨xa, xA, xc, xo, xA', xc', xn⟩ := x
        simp only at hc0 hc1 hc2 hxs HXO0 HXN0
        have hbt : (if 24 < xa + n0 then none else (File.backTry (n0 + ((xn.length : Int) - (xo.length : Int))) ((vs.map EdV.ed).drop (k + 1))).map ((⟨xa + n0, xn, xo⟩ : File.Edit ByteArray) :: ·)).map (acc ++ ·) = R := hbt
        have hbM : Below wr.heap.size wr (wr.alloc (.cells #[iv xa, .slice xA xo.length xc, .slice xA' xn.length xc'] 53)) := (Below.refl _ _).alloc (Nat.le_refl _) _
        have hM : Blk (wr.alloc (.cells #[iv xa, .slice xA xo.length xc, .slice xA' xn.length xc'] 53)) wr.heap.size 53 #[iv xa, .slice xA xo.length xc, .slice xA' xn.length xc'] := Blk.new _ _ _
        obtain ⟨Ax, cx, rfl, _, _⟩ := HO.out.form
        have ew1 : IntKind.i64.wrap (xa + n0) = xa + n0 := IntWalk.i64_in _ (by omega)
        by_cases h24 : 24 < xa + n0
        · rw [if_pos h24] at hbt
          have HX : Hid (ans = ([], 3)) := Lib.hid (by rw [HA.out, ← hbt]; rfl)
          clear hbt hx HO HE HB
          go_wp2_with fail
          go_ret2
          exact ⟨.slice none 0 0, [], by rw [HX.out]; rfl, Own.nil, by rw [HX.out]; exact trivial, hb0r.next hbM (Nat.le_refl _)⟩
        · rw [if_neg h24] at hbt
          have HBN : Hid ((File.backTry (n0 + ((xn.length : Int) - (xo.length : Int))) ((vs.map EdV.ed).drop (k + 1))).map ((acc ++ [⟨xa + n0, xn, xo⟩]) ++ ·) = R) := Lib.hid (by
            rw [← hbt, Option.map_map]
            congr 1
            funext l
            simp)
          clear hbt hx HB
          go_upto_region 11 with fail
          generalize wr.alloc (.cells #[iv xa, .slice xA xo.length xc, .slice xA' xn.length xc'] 53) = w4 at *
          have hb34 : Below w3.heap.size w3 w4 := hbr.trans (hbM.mono hbr.size)
          have HBX : Hid (∀ x, Below w4.heap.size w4 x → x.cell? ⟨wr.heap.size, 0, none⟩ = some (iv xa) ∧ x.cell? ⟨wr.heap.size, 1, none⟩ = some (.slice xA xo.length xc) ∧ x.cell? ⟨wr.heap.size, 2, none⟩ = some (.slice xA' xn.length xc')) := Lib.hid fun x h => ⟨(hM.under h).cell 0, (hM.under h).cell 1, (hM.under h).cell 2⟩
          have HCN : Hid (∀ x, Below w4.heap.size w4 x → Calls Tryz.prog 70 #[.slice xA' xn.length xc'] x fun e w' => ∃ v, e = .returned v ∧ Own strE 9 x.heap.size w' v xn ∧ Below x.heap.size x w') := Lib.hid fun x h => cloneS xA' xn xc' x (by unfold big; omega) (HXN0.out x (hb34.next h (Nat.le_refl _)))
          have HCO : Hid (∀ x, Below w4.heap.size w4 x → Calls Tryz.prog 70 #[.slice xA xo.length xc] x fun e w' => ∃ v, e = .returned v ∧ Own strE 9 x.heap.size w' v xo ∧ Below x.heap.size x w') := Lib.hid fun x h => cloneS xA xo xc x (by unfold big; omega) (HXO0.out x (hb34.next h (Nat.le_refl _)))
          have HZ4 := Lib.hid hb34.size
          have HO4 := Lib.hid (HO.out.below hbM)
          have HE4 := Lib.hid (EdsR.keep (Strs.below hbM) HE.out)
          have HB34 := Lib.hid hb34
          have HMB := Lib.hid hM
          have HNEB : Hid ((Value.slice Ax rs.length cx).ownBlock ≠ some wr.heap.size) := Lib.hid fun e => Nat.lt_irrefl _ (HO.out.lt _ e).2
          clear hM HO HE hbM hb34 hc0 hc1 hc2 hb0r hbr
          refine wp_free_lit (by kernel_rfl) 13 (by kernel_rfl) (by kernel_rfl) (by decide) (fun _ x => Below w4.heap.size w4 x) (fun x x' => Below x.heap.size x x')
            [fun _ u _ => u = .slice Ax rs.length cx,
             fun _ u _ => u = .pointer (some ⟨wr.heap.size, 0, none⟩),
             fun _ u _ => u = iv xa,
             fun _ u _ => u = iv n0,
             fun _ u _ => u = iv (xa + n0),
             fun _ u _ => u = .pointer (some ⟨wr.heap.size, 2, none⟩),
             fun _ u _ => u = .slice xA' xn.length xc',
             fun _ u x => ∃ A1 c1, u = .slice A1 xn.length c1 ∧ Own strE 9 w3.heap.size x u xn,
             fun _ u _ => u = .pointer (some ⟨wr.heap.size, 1, none⟩),
             fun _ u _ => u = .slice xA xo.length xc,
             fun _ u x => ∃ A1 c1, u = .slice A1 xo.length c1 ∧ Own strE 9 w3.heap.size x u xo,
             fun _ u x => ∃ A1 c1 A2 c2, u = .agg #[iv (xa + n0), .slice A1 xn.length c1, .slice A2 xo.length c2] ∧ Own strE 9 w3.heap.size x (.slice A1 xn.length c1) xn ∧ Own strE 9 w3.heap.size x (.slice A2 xo.length c2) xo,
             fun _ u x => ∃ g A1 c1 A2 c2, u = .slice (some ⟨g, 0, none⟩) 1 1 ∧ Blk x g 53 #[iv (xa + n0), .slice A1 xn.length c1, .slice A2 xo.length c2] ∧ Own strE 9 w3.heap.size x (.slice A1 xn.length c1) xn ∧ Own strE 9 w3.heap.size x (.slice A2 xo.length c2) xo]
            (Below.refl _ w4).drew ?_ ?_
          · simp only [List.take_succ_cons, List.take_zero, HopL]
            refine ⟨?_, ?_, ?_, ?_, ?_, ?_, ?_, ?_, ?_, ?_, ?_, ?_, ?_, trivial⟩
            · refine ⟨fun _ _ _ _ _ h => h, fun _ _ _ _ h _ => h, fun v n x hn hR hk => ?_⟩
              simp only [List.take_succ_cons, List.take_zero, frameF, Act.put, List.setIfInBounds_toArray, List.set_cons_zero, List.set_cons_succ]
              exact stepF_val (by first | rfl | simp [Region.wanted, yielded, *]) (by go_simp <;> omega) ⟨rfl, Below.refl _ _, hR⟩
            · refine ⟨fun _ _ _ _ _ h => h, fun _ _ _ _ h _ => h, fun v n x hn hR hk => ?_⟩
              simp only [List.take_succ_cons, List.take_zero, frameF, Act.put, List.setIfInBounds_toArray, List.set_cons_zero, List.set_cons_succ]
              exact stepF_val (by first | rfl | simp [Region.wanted, yielded, *]) (by go_simp <;> omega) ⟨rfl, Below.refl _ _, hR⟩
            · refine ⟨fun _ _ _ _ _ h => h, fun _ _ _ _ h _ => h, fun v n x hn hR hk => ?_⟩
              have h1 : v 1 = .pointer (some ⟨wr.heap.size, 0, none⟩) := hk 1 (by kernel_rfl)
              obtain ⟨g0, g1, g2⟩ := HBX.out x hR
              simp only [List.take_succ_cons, List.take_zero, frameF, Act.put, List.setIfInBounds_toArray, List.set_cons_zero, List.set_cons_succ]
              exact stepF_val (by first | rfl | simp [Region.wanted, yielded, *]) (by go_simp <;> omega) ⟨rfl, Below.refl _ _, hR⟩
            · refine ⟨fun _ _ _ _ _ h => h, fun _ _ _ _ h _ => h, fun v n x hn hR hk => ?_⟩
              simp only [List.take_succ_cons, List.take_zero, frameF, Act.put, List.setIfInBounds_toArray, List.set_cons_zero, List.set_cons_succ]
              exact stepF_val (by first | rfl | simp [Region.wanted, yielded, *]) (by go_simp <;> omega) ⟨rfl, Below.refl _ _, hR⟩
            · refine ⟨fun _ _ _ _ _ h => h, fun _ _ _ _ h _ => h, fun v n x hn hR hk => ?_⟩
              have h2 : v 2 = iv xa := hk 2 (by kernel_rfl)
              have h3 : v 3 = iv n0 := hk 3 (by kernel_rfl)
              simp only [List.take_succ_cons, List.take_zero, frameF, Act.put, List.setIfInBounds_toArray, List.set_cons_zero, List.set_cons_succ]
              exact stepF_val (by first | rfl | simp [Region.wanted, yielded, *]) (by go_simp <;> omega) ⟨rfl, Below.refl _ _, hR⟩
            · refine ⟨fun _ _ _ _ _ h => h, fun _ _ _ _ h _ => h, fun v n x hn hR hk => ?_⟩
              simp only [List.take_succ_cons, List.take_zero, frameF, Act.put, List.setIfInBounds_toArray, List.set_cons_zero, List.set_cons_succ]
              exact stepF_val (by first | rfl | simp [Region.wanted, yielded, *]) (by go_simp <;> omega) ⟨rfl, Below.refl _ _, hR⟩
            · refine ⟨fun _ _ _ _ _ h => h, fun _ _ _ _ h _ => h, fun v n x hn hR hk => ?_⟩
              have h5 : v 5 = .pointer (some ⟨wr.heap.size, 2, none⟩) := hk 5 (by kernel_rfl)
              obtain ⟨g0, g1, g2⟩ := HBX.out x hR
              simp only [List.take_succ_cons, List.take_zero, frameF, Act.put, List.setIfInBounds_toArray, List.set_cons_zero, List.set_cons_succ]
              exact stepF_val (by first | rfl | simp [Region.wanted, yielded, *]) (by go_simp <;> omega) ⟨rfl, Below.refl _ _, hR⟩
            · refine ⟨fun _ _ _ _ _ h => h, fun _ _ _ _ h hS => (by obtain ⟨A1, c1, e1, o1⟩ := h; exact ⟨A1, c1, e1, o1.below hS⟩), fun v n x hn hR hk => ?_⟩
              have h6 : v 6 = .slice xA' xn.length xc' := hk 6 (by kernel_rfl)
              simp only [List.take_succ_cons, List.take_zero, frameF, Act.put, List.setIfInBounds_toArray, List.set_cons_zero, List.set_cons_succ]
              refine stepF_call (by rfl) (by go_simp) (HCN.out x hR) ?_
              rintro e x' ⟨u, rfl, ho, hb⟩
              obtain ⟨A1, c1, rfl, _, _⟩ := ho.form
              exact ⟨_, rfl, ⟨A1, c1, rfl, ho.base (Nat.le_trans HZ4.out hR.size)⟩, hb, hR.next hb (Nat.le_refl _)⟩
            · refine ⟨fun _ _ _ _ _ h => h, fun _ _ _ _ h _ => h, fun v n x hn hR hk => ?_⟩
              simp only [List.take_succ_cons, List.take_zero, frameF, Act.put, List.setIfInBounds_toArray, List.set_cons_zero, List.set_cons_succ]
              exact stepF_val (by first | rfl | simp [Region.wanted, yielded, *]) (by go_simp <;> omega) ⟨rfl, Below.refl _ _, hR⟩
            · refine ⟨fun _ _ _ _ _ h => h, fun _ _ _ _ h _ => h, fun v n x hn hR hk => ?_⟩
              have h8 : v 8 = .pointer (some ⟨wr.heap.size, 1, none⟩) := hk 8 (by kernel_rfl)
              obtain ⟨g0, g1, g2⟩ := HBX.out x hR
              simp only [List.take_succ_cons, List.take_zero, frameF, Act.put, List.setIfInBounds_toArray, List.set_cons_zero, List.set_cons_succ]
              exact stepF_val (by first | rfl | simp [Region.wanted, yielded, *]) (by go_simp <;> omega) ⟨rfl, Below.refl _ _, hR⟩
            · refine ⟨fun _ _ _ _ _ h => h, fun _ _ _ _ h hS => (by obtain ⟨A1, c1, e1, o1⟩ := h; exact ⟨A1, c1, e1, o1.below hS⟩), fun v n x hn hR hk => ?_⟩
              have h9 : v 9 = .slice xA xo.length xc := hk 9 (by kernel_rfl)
              simp only [List.take_succ_cons, List.take_zero, frameF, Act.put, List.setIfInBounds_toArray, List.set_cons_zero, List.set_cons_succ]
              refine stepF_call (by rfl) (by go_simp) (HCO.out x hR) ?_
              rintro e x' ⟨u, rfl, ho, hb⟩
              obtain ⟨A1, c1, rfl, _, _⟩ := ho.form
              exact ⟨_, rfl, ⟨A1, c1, rfl, ho.base (Nat.le_trans HZ4.out hR.size)⟩, hb, hR.next hb (Nat.le_refl _)⟩
            · refine ⟨fun _ _ _ _ _ h => h, fun _ _ _ _ h hS => (by obtain ⟨A1, c1, A2, c2, e1, o1, o2⟩ := h; exact ⟨A1, c1, A2, c2, e1, o1.below hS, o2.below hS⟩), fun v n x hn hR hk => ?_⟩
              have h4 : v 4 = iv (xa + n0) := hk 4 (by kernel_rfl)
              have h7 := hk 7 (by kernel_rfl)
              obtain ⟨A7, c7, h7, o7⟩ := h7
              have h10 := hk 10 (by kernel_rfl)
              obtain ⟨A10, c10, h10, o10⟩ := h10
              rw [h7] at o7
              rw [h10] at o10
              simp only [List.take_succ_cons, List.take_zero, frameF, Act.put, List.setIfInBounds_toArray, List.set_cons_zero, List.set_cons_succ]
              exact stepF_val (u := .agg #[iv (xa + n0), .slice A7 xn.length c7, .slice A10 xo.length c10]) (by rfl) (by go_simp <;> omega) ⟨⟨A7, c7, A10, c10, rfl, o7, o10⟩, Below.refl _ _, hR⟩
            · refine ⟨fun _ _ _ _ _ h => h, fun _ _ _ _ h hS => (by obtain ⟨g, A1, c1, A2, c2, e1, b1, o1, o2⟩ := h; exact ⟨g, A1, c1, A2, c2, e1, b1.under hS, o1.below hS, o2.below hS⟩), fun v n x hn hR hk => ?_⟩
              have h11 := hk 11 (by kernel_rfl)
              obtain ⟨A1, c1, A2, c2, h11, p1, p2⟩ := h11
              simp only [List.take_succ_cons, List.take_zero, frameF, Act.put, List.setIfInBounds_toArray, List.set_cons_zero, List.set_cons_succ]
              exact stepF_new (u := .slice (some ⟨x.heap.size, 0, none⟩) 1 1) (w' := x.alloc (.cells #[iv (xa + n0), .slice A1 xn.length c1, .slice A2 xo.length c2] 53)) (by rfl) (by go_simp) ⟨⟨x.heap.size, A1, c1, A2, c2, rfl, Blk.new _ _ _, p1.below ((Below.refl _ _).alloc (Nat.le_refl _) _), p2.below ((Below.refl _ _).alloc (Nat.le_refl _) _)⟩, (Below.refl _ _).alloc (Nat.le_refl _) _, hR.alloc hR.size _⟩
          · intro v n x hn hR hall
            have hsg : ∃ g A1 c1 A2 c2, v 12 = .slice (some ⟨g, 0, none⟩) 1 1 ∧ Blk x g 53 #[iv (xa + n0), .slice A1 xn.length c1, .slice A2 xo.length c2] ∧ Own strE 9 w3.heap.size x (.slice A1 xn.length c1) xn ∧ Own strE 9 w3.heap.size x (.slice A2 xo.length c2) xo := hall 12 (by decide)
            obtain ⟨g, A1, c1, A2, c2, h12, hB, hon, hoo⟩ := hsg
            have h0 : v 0 = .slice Ax rs.length cx := hall 0 (by decide)
            clear hall hn
            simp only [List.drop_succ_cons, List.drop_zero, List.take_succ_cons, List.take_zero, frameF, Act.put, List.setIfInBounds_toArray, List.set_cons_zero, List.set_cons_succ, Nat.zero_add, Nat.reduceAdd, h0, h12]
            have hsl : Sl rawE x (some ⟨g, 0, none⟩) [(⟨xa + n0, A1, xn.length, c1, A2, xo.length, c2⟩ : RawEd)] := fun _ => ⟨g, 0, rfl, hB.lt, fun i y hi j u hu => by
              have h1 := (List.getElem?_eq_some_iff.1 hi).1
              have hi0 : i = 0 := by simpa using h1
              subst hi0
              simp at hi
              subst hi
              have hc := hB.cell j
              rw [Nat.zero_mul, Nat.zero_add, hc]
              rw [← hu]
              simp [rawE]⟩
            have hox := HO4.out.below hR
            have hzx : w3.heap.size ≤ x.heap.size := Nat.le_trans HZ4.out hR.size
            go_upto_region 12 with (at_builtin; refine wpAppS rawE tyEdits rfl _ _ rfl hox hsl rfl rfl hzx (by simp [big]; omega) ?_; intro v5 w5 hown5 hb5 hk5)
            have hst : Strs w3.heap.size x w5 := strs_app hox hb5.size hk5
            have HE5 := Lib.hid (EdsR.snoc (r := (⟨xa + n0, A1, xn.length, c1, A2, xo.length, c2⟩ : RawEd)) (x := ⟨xa + n0, xn, xo⟩) ⟨rfl, rfl, rfl, hst.own hon, hst.own hoo⟩ (EdsR.keep ((Strs.below hR).trans hst) HE4.out))
            have hb35 := HB34.out.trans ((hR.mono HZ4.out).trans hb5)
            have ew2 : IntKind.i64.wrap ((xn.length : Int) - (xo.length : Int)) = (xn.length : Int) - (xo.length : Int) := IntWalk.i64_in _ (by omega)
            have ew3 : IntKind.i64.wrap (n0 + ((xn.length : Int) - (xo.length : Int))) = n0 + ((xn.length : Int) - (xo.length : Int)) := IntWalk.i64_in _ (by omega)
            have hBx := Blk.under HMB.out hR
            have hB5 : Blk w5 wr.heap.size 53 #[iv xa, .slice xA xo.length xc, .slice xA' xn.length xc'] := (hk5 _ hBx.lt HNEB.out).trans hBx
            have y1 : w5.cell? ⟨wr.heap.size, 1, none⟩ = some (.slice xA xo.length xc) := hB5.cell 1
            have y2 : w5.cell? ⟨wr.heap.size, 2, none⟩ = some (.slice xA' xn.length xc') := hB5.cell 2
            have yl := hB5.lt
            clear hBx hB5 hB hsl hox hon hoo hst
            go_wp2_with fail
            go_roundw
            case rel => exact ⟨k + 1, n0 + ((xn.length : Int) - (xo.length : Int)), _, _, by omega, by go_num, by go_num, by omega, by omega, hown5, HE5, by simp; omega, HBN, hb35⟩
            case measure => simp [intOf]; omega
      · have hki : ¬ (k : Int) < (vs.length : Int) := by omega
        have hbt := HB.out
        rw [show (vs.map EdV.ed).drop k = [] from List.drop_eq_nil_of_le (by rw [List.length_map]; omega)] at hbt
        have HX : Hid (ans = (acc, 0)) := Lib.hid (by rw [HA.out, ← hbt]; simp [File.backTry])
        clear hbt HB
        go_wp2_with fail
        go_ret2
        exact ⟨_, by rw [HX.out]; rfl, rs, HO.out.base hb03.size, by rw [HX.out]; exact EdsR.base hb03.size HE.out, hb0r⟩
  · have HA : Hid (File.backAns (vs.map EdV.ed) = ([], File.checkChange (vs.map EdV.ed))) := Lib.hid (by unfold File.backAns; rw [if_neg hz])
    generalize File.backAns (vs.map EdV.ed) = ans at *
    generalize File.checkChange (vs.map EdV.ed) = e0 at *
    have he0 : (e0 != 0) = true := by simpa using hz
    clear hz
    go_enter Tryz.func33, Tryz.ntmps33
    go_wp2_with fail
    refine HC.out.mono ?_
    rintro _ w1 ⟨rfl, hb1⟩
    go_wp2_with fail
    go_ret2
    exact ⟨.slice none 0 0, [], by rw [HA.out]; rfl, Own.nil, by rw [HA.out]; exact trivial, hb1⟩
end Fl
end Go.Proofs.YtekkhnjepcebkaaGreatDoor
