/- Package petershamlaw11: the lists of the examples; changes and spans that are the same. Condition: lengths are below a great bound. -/
import Derived.Test.YtekkhnjepcebkaaGreatDoorFlV
set_option linter.unusedVariables false
set_option linter.unusedSimpArgs false
namespace Go.Proofs.YtekkhnjepcebkaaGreatDoor
namespace Fl
open Go.RowKit Go.ChangeShapes
set_option maxRecDepth 100000
theorem len2 {α : Type} (l : List α) (h : l.length = 2) : ∃ a b, l = [a, b] := by
  match l, h with
  | [a, b], _ => exact ⟨a, b, rfl⟩
theorem fieldsSpan : ((Tryz.prog).fieldsOf 40).toList.map (fun f => (f.name, f.type, f.offset)) = [("Lo", 3, 0), ("Hi", 3, 1)] := by kernel_rfl
theorem eqSpan (a b c d : Int) (w : World) : (Op.equalIn 10000 40 (.agg #[iv a, iv b]) (.agg #[iv c, iv d])).run Tryz.prog w = .ok (a == c && b == d) w := by
  have hh := run_equalIn_agg (P := Tryz.prog) w 9999 40 #[iv a, iv b] #[iv c, iv d] (by kernel_rfl) (by kernel_rfl)
  rw [hh]
  have h3 : ∀ (x y : Int) (d : Nat), (Op.equalIn (d + 1) 3 (iv x) (iv y)).run Tryz.prog w = .ok (x == y) w := fun x y d => run_equalIn_int w d _ _ _ _ _ Tryz.underlying3
  have hf := fieldsSpan
  have hlen : ((Tryz.prog).fieldsOf 40).toList.length = 2 := by have := congrArg List.length hf; simpa using this
  obtain ⟨f0, f1, hl⟩ := len2 _ hlen
  rw [hl] at hf ⊢
  simp only [List.map_cons, List.map_nil, List.cons.injEq, Prod.mk.injEq, and_true] at hf
  obtain ⟨⟨n0, t0, o0⟩, ⟨n1, t1, o1⟩⟩ := hf
  have hp0 : ∀ a b : Int, (part 3 #[iv a, iv b] 0).run Tryz.prog w = .ok (iv a) w := fun _ _ => by kernel_rfl
  have hp1 : ∀ a b : Int, (part 3 #[iv a, iv b] 1).run Tryz.prog w = .ok (iv b) w := fun _ _ => by kernel_rfl
  simp only [Op.eqFields, n0, n1, t0, t1, o0, o1]
  by_cases h1 : a = c <;> by_cases h2 : b = d <;>
    simp [hp0, hp1, h3, Result.andThen, h1, h2, Sem.run_bind]
theorem eqSpanD (p q : Nat × Nat) (w : World) : (Op.equalIn 10000 40 (.agg #[iv (p.1 : Int), iv (p.2 : Int)]) (.agg #[iv (q.1 : Int), iv (q.2 : Int)])).run Tryz.prog w = .ok (decide (p = q)) w := by
  obtain ⟨a, b⟩ := p
  obtain ⟨c, d⟩ := q
  rw [eqSpan]
  congr 1
  by_cases h1 : a = c <;> by_cases h2 : b = d <;> simp [h1, h2] <;> omega
theorem Sl.atPr {w : World} {A : Option Addr} {vs : List (Nat × Nat)} {k : Nat} (h : Sl pairE w A vs) (hk : k < vs.length) :
    ∃ b off x, A = some ⟨b, off, none⟩ ∧ b < w.heap.size ∧ vs[k]? = some x ∧ w.cell? ⟨b, off + k * 2, none⟩ = some (iv (x.1 : Int)) ∧ w.cell? ⟨b, off + k * 2 + 1, none⟩ = some (iv (x.2 : Int)) := by
  obtain ⟨b, off, x, hA, hb, hx, hc⟩ := h.at_ hk
  exact ⟨b, off, x, hA, hb, hx, by simpa [pairE] using hc 0 (iv (x.1 : Int)) rfl, by simpa [pairE] using hc 1 _ rfl⟩
set_option maxHeartbeats 1000000 in
theorem equalSp (A : Option Addr) (xs : List (Nat × Nat)) (c : Nat) (A' : Option Addr) (ys : List (Nat × Nat)) (c' : Nat) (w : World) (hm : xs.length ≤ big) (hs : Sl pairE w A xs) (hm' : ys.length ≤ big) (hs' : Sl pairE w A' ys) :
    Calls Tryz.prog 53 #[.slice A xs.length c, .slice A' ys.length c'] w fun e w' => e = .returned (.bool (decide (xs = ys))) ∧ Below w.heap.size w w' := by
  unfold big at hm hm'
  by_cases hl : xs.length = ys.length
  · have hl' : ((xs.length : Int) != (ys.length : Int)) = false := by simp [hl]
    have HL := Lib.hid hl
    clear hl
    go_enter Tryz.func53, Tryz.ntmps53
    go_wp2
    go_loopw [5, 13] (fun _ i wr => ∃ (k : Nat), k ≤ xs.length ∧ i = iv k ∧ Hid (xs.take k = ys.take k) ∧ Below w.heap.size w wr) (fun _ i _ => xs.length - (intOf i).toNat)
    case atStart => exact ⟨0, by omega, rfl, rfl, Below.refl _ _⟩
    case round =>
      obtain ⟨k, hk, rfl, hf, hbw⟩ := hrel
      by_cases hlt : k < xs.length
      · obtain ⟨b, off, p, rfl, hb, hp, hp0, hp1⟩ := Sl.atPr (hs.below hbw) hlt
        obtain ⟨b', off', q, rfl, hb', hq, hq0, hq1⟩ := Sl.atPr (hs'.below hbw) (by have := HL.out; omega : k < ys.length)
        have hly : (k : Int) < (ys.length : Int) := by have := HL.out; omega
        have hlx : (k : Int) < (xs.length : Int) := by omega
        have heq : ∀ w, (Op.equalIn 10000 40 (.agg #[iv (p.1 : Int), iv (p.2 : Int)]) (.agg #[iv (q.1 : Int), iv (q.2 : Int)])).run Tryz.prog w = .ok (decide (p = q)) w := eqSpanD p q
        have HP := Lib.hid hp
        have HQ := Lib.hid hq
        clear hp hq hs hs'
        by_cases hpq : p = q
        · rw [decide_eq_true hpq] at heq
          have HPQ := Lib.hid hpq
          clear hpq
          go_wp2
          go_region
          go_wp2
          go_roundw
          case rel => exact ⟨k + 1, by omega, by go_num, by
            show xs.take (k + 1) = ys.take (k + 1)
            rw [List.take_add_one, List.take_add_one, HP.out, HQ.out, HPQ.out, hf.out], (by first | exact hbw | exact hbw.drew)⟩
          case measure => simp [intOf]; omega
        · rw [decide_eq_false hpq] at heq
          have HPQ := Lib.hid hpq
          clear hpq
          go_wp2
          go_region
          go_wp2
          go_ret
          exact ⟨ret_eq (by rw [decide_eq_false (take_ne' HP.out HQ.out HPQ.out)]; rfl), (by first | exact hbw | exact hbw.drew)⟩
      · have he : xs = ys := by
          have := hf.out
          rwa [List.take_of_length_le (by omega), List.take_of_length_le (by have := HL.out; omega)] at this
        have HE := Lib.hid he
        clear he
        go_wp2
        go_ret
        exact ⟨ret_eq (by rw [decide_eq_true HE.out]; rfl), (by first | exact hbw | exact hbw.drew)⟩
  · have hl' : ((xs.length : Int) != (ys.length : Int)) = true := by simp; omega
    go_enter Tryz.func53, Tryz.ntmps53
    go_wp2
    go_ret
    exact ⟨ret_eq (by rw [decide_eq_false (fun h => hl (by rw [h]))]; rfl), Below.refl _ _⟩
theorem eqSp (A : Option Addr) (xs : List (Nat × Nat)) (c : Nat) (A' : Option Addr) (ys : List (Nat × Nat)) (c' : Nat) (w : World) (hm : xs.length ≤ big) (hs : Sl pairE w A xs) (hm' : ys.length ≤ big) (hs' : Sl pairE w A' ys) :
    Calls Tryz.prog 19 #[.slice A xs.length c, .slice A' ys.length c'] w fun e w' => e = .returned (.bool (decide (xs = ys))) ∧ Below w.heap.size w w' := by
  go_enter Tryz.func19, Tryz.ntmps19
  go_wp2_with (go_at_call 53; refine (equalSp A xs c A' ys c' w hm hs hm' hs').mono ?_; rintro e w1 ⟨rfl, hb1⟩)
  go_ret
  exact ⟨rfl, hb1⟩
theorem same1_spec (x y : EdV) (w : World) (hx : EdOk w x) (hy : EdOk w y) (h1 : x.old.length ≤ big) (h2 : x.new.length ≤ big) (h3 : y.old.length ≤ big) (h4 : y.new.length ≤ big) :
    Calls Tryz.prog 99 #[x.v, y.v] w fun e w' => e = .returned (.bool (decide (x.ed = y.ed))) ∧ Below w.heap.size w w' := by
  have hbx : Below w.heap.size w ((w.alloc (.cells #[iv x.at_, .slice x.A x.old.length x.c, .slice x.A' x.new.length x.c'] 53)).alloc (.cells #[iv y.at_, .slice y.A y.old.length y.c, .slice y.A' y.new.length y.c'] 53)) := ((Below.refl _ _).alloc (Nat.le_refl _) _).alloc (by simp) _
  have hB1 : Blk ((w.alloc (.cells #[iv x.at_, .slice x.A x.old.length x.c, .slice x.A' x.new.length x.c'] 53)).alloc (.cells #[iv y.at_, .slice y.A y.old.length y.c, .slice y.A' y.new.length y.c'] 53)) w.heap.size 53 #[iv x.at_, .slice x.A x.old.length x.c, .slice x.A' x.new.length x.c'] := (Blk.new _ _ _).alloc _
  have hB2 : Blk ((w.alloc (.cells #[iv x.at_, .slice x.A x.old.length x.c, .slice x.A' x.new.length x.c'] 53)).alloc (.cells #[iv y.at_, .slice y.A y.old.length y.c, .slice y.A' y.new.length y.c'] 53)) (w.heap.size + 1) 53 #[iv y.at_, .slice y.A y.old.length y.c, .slice y.A' y.new.length y.c'] := Blk.new_ _ _ _ (by simp)
  unfold EdV.v
  go_enter Tryz.func99, Tryz.ntmps99
  go_upto_region 1 with fail
  generalize (w.alloc (.cells #[iv x.at_, .slice x.A x.old.length x.c, .slice x.A' x.new.length x.c'] 53)).alloc (.cells #[iv y.at_, .slice y.A y.old.length y.c, .slice y.A' y.new.length y.c'] 53) = w1 at *
  obtain ⟨xa, xA, xc, xo, xA', xc', xn⟩ := x
  obtain ⟨ya, yA, yc, yo, yA', yc', yn⟩ := y
  simp only at *
  have m0 := hB1.cell 0
  have m1 := hB1.cell 1
  have m2 := hB1.cell 2
  have ml := hB1.lt
  have n0 := hB2.cell 0
  have n1 := hB2.cell 1
  have n2 := hB2.cell 2
  have nl := hB2.lt
  by_cases ha : xa = ya
  · have hai : (xa == ya) = true := by simp [ha]
    have HA := Lib.hid ha
    have HO := Lib.hid (equalS xA xo xc yA yo yc w1 h1 (hx.old.below hbx) h3 (hy.old.below hbx))
    have HN := Lib.hid fun W (hW : Below w1.heap.size w1 W) => equalS xA' xn xc' yA' yn yc' W h2 (hx.new.below (hbx.next hW (Nat.le_refl _))) h4 (hy.new.below (hbx.next hW (Nat.le_refl _)))
    clear ha hx hy
    by_cases ho : xo = yo
    · rw [decide_eq_true ho] at HO
      have HOE := Lib.hid ho
      clear ho
      go_wp2_with fail
      refine HO.out.mono ?_
      rintro e w2 ⟨rfl, hb2⟩
      have hB1' := hB1.under hb2
      have hB2' := hB2.under hb2
      have p2 := hB1'.cell 2
      have pl := hB1'.lt
      have q2 := hB2'.cell 2
      have ql := hB2'.lt
      clear m0 m1 m2 ml n0 n1 n2 nl
      go_wp2_with fail
      refine (HN.out w2 hb2).mono ?_
      rintro e w3 ⟨rfl, hb3⟩
      go_wp2_with fail
      go_ret
      exact ⟨ret_eq (by congr 1; simp [EdV.ed, HA.out, HOE.out]), (hbx.next hb2 (Nat.le_refl _)).next hb3 (Nat.le_refl _)⟩
    · rw [decide_eq_false ho] at HO
      have HOE := Lib.hid ho
      clear ho
      go_wp2_with fail
      refine HO.out.mono ?_
      rintro e w2 ⟨rfl, hb2⟩
      go_wp2_with fail
      go_ret
      exact ⟨ret_eq (by congr 1; simp [EdV.ed, HOE.out]), hbx.next hb2 (Nat.le_refl _)⟩
  · have hai : (xa == ya) = false := by simp [ha]
    have HA := Lib.hid ha
    clear ha
    go_wp2_with fail
    go_ret
    exact ⟨ret_eq (by congr 1; simp [EdV.ed, HA.out]), hbx⟩
set_option maxHeartbeats 1000000 in
theorem equalFn (A : Option Addr) (xs : List EdV) (c : Nat) (A' : Option Addr) (ys : List EdV) (c' : Nat) (w : World) (hm : xs.length ≤ big) (hs : Sl edE w A xs) (hm' : ys.length ≤ big) (hs' : Sl edE w A' ys)
    (hx : ∀ r ∈ xs, EdOk w r ∧ r.old.length ≤ big ∧ r.new.length ≤ big) (hy : ∀ r ∈ ys, EdOk w r ∧ r.old.length ≤ big ∧ r.new.length ≤ big) :
    Calls Tryz.prog 98 #[.slice A xs.length c, .slice A' ys.length c', .func (.func 99) #[] #[]] w fun e w' => e = .returned (.bool (decide (xs.map EdV.ed = ys.map EdV.ed))) ∧ Below w.heap.size w w' := by
  unfold big at hm hm'
  by_cases hl : xs.length = ys.length
  · have hl' : ((xs.length : Int) != (ys.length : Int)) = false := by simp [hl]
    have HL := Lib.hid hl
    clear hl
    go_enter Tryz.func98, Tryz.ntmps98
    go_wp2
    go_loopw [7, 8, 9, 17] (fun _ _ _ i wr => ∃ (k : Nat), k ≤ xs.length ∧ i = iv k ∧ Hid ((xs.map EdV.ed).take k = (ys.map EdV.ed).take k) ∧ Below w.heap.size w wr) (fun _ _ _ i _ => xs.length - (intOf i).toNat)
    case atStart => exact ⟨0, by omega, rfl, rfl, Below.refl _ _⟩
    case round =>
      obtain ⟨k, hk, rfl, hf, hbw⟩ := hrel
      by_cases hlt : k < xs.length
      · obtain ⟨b, off, x, rfl, hb, hx0, hc0, hc1, hc2⟩ := Sl.atEd (hs.below hbw) hlt
        obtain ⟨b', off', y, rfl, hb', hy0, hd0, hd1, hd2⟩ := Sl.atEd (hs'.below hbw) (by have := HL.out; omega : k < ys.length)
        have hly : (k : Int) < (ys.length : Int) := by have := HL.out; omega
        have hlx : (k : Int) < (xs.length : Int) := by omega
        obtain ⟨ox, lx1, lx2⟩ := hx x (mem_at hx0)
        obtain ⟨oy, ly1, ly2⟩ := hy y (mem_at hy0)
        have HS := Lib.hid fun W (hW : Below w.heap.size w W) => same1_spec x y W (ox.below hW) (oy.below hW) lx1 lx2 ly1 ly2
        have HX : Hid ((xs.map EdV.ed)[k]? = some x.ed) := Lib.hid (by rw [List.getElem?_map, hx0]; rfl)
        have HY : Hid ((ys.map EdV.ed)[k]? = some y.ed) := Lib.hid (by rw [List.getElem?_map, hy0]; rfl)
        clear hx0 hy0 hs hs' hx hy ox oy
        have hbA : Below wr.heap.size wr (wr.alloc (.cells #[iv x.at_, .slice x.A x.old.length x.c, .slice x.A' x.new.length x.c'] 53)) := (Below.refl _ _).alloc (Nat.le_refl _) _
        have hBA : Blk (wr.alloc (.cells #[iv x.at_, .slice x.A x.old.length x.c, .slice x.A' x.new.length x.c'] 53)) wr.heap.size 53 #[iv x.at_, .slice x.A x.old.length x.c, .slice x.A' x.new.length x.c'] := Blk.new _ _ _
        go_upto_region 6 with fail
        generalize wr.alloc (.cells #[iv x.at_, .slice x.A x.old.length x.c, .slice x.A' x.new.length x.c'] 53) = wA at *
        have m0 := hBA.cell 0
        have m1 := hBA.cell 1
        have m2 := hBA.cell 2
        have ml := hBA.lt
        have ge0 := (hbA.cell (p := ⟨b', off' + k * 3, none⟩) hb').trans hd0
        have ge1 := (hbA.cell (p := ⟨b', off' + k * 3 + 1, none⟩) hb').trans hd1
        have ge2 := (hbA.cell (p := ⟨b', off' + k * 3 + 2, none⟩) hb').trans hd2
        clear hd0 hd1 hd2 hc0 hc1 hc2
        have hbC : Below wA.heap.size wA (wA.alloc (.cells #[iv y.at_, .slice y.A y.old.length y.c, .slice y.A' y.new.length y.c'] 53)) := (Below.refl _ _).alloc (Nat.le_refl _) _
        have hBC : Blk (wA.alloc (.cells #[iv y.at_, .slice y.A y.old.length y.c, .slice y.A' y.new.length y.c'] 53)) wA.heap.size 53 #[iv y.at_, .slice y.A y.old.length y.c, .slice y.A' y.new.length y.c'] := Blk.new _ _ _
        go_upto_region 7 with fail
        generalize wA.alloc (.cells #[iv y.at_, .slice y.A y.old.length y.c, .slice y.A' y.new.length y.c'] 53) = wC at *
        have hBA' := hBA.under hbC
        have a0 := hBA'.cell 0
        have a1 := hBA'.cell 1
        have a2 := hBA'.cell 2
        have al := hBA'.lt
        have c0 := hBC.cell 0
        have c1 := hBC.cell 1
        have c2 := hBC.cell 2
        have cl := hBC.lt
        have hbwC : Below w.heap.size w wC := (hbw.next hbA (Nat.le_refl _)).next hbC (Nat.le_refl _)
        clear m0 m1 m2 ml ge0 ge1 ge2
        by_cases hxy : x.ed = y.ed
        · rw [decide_eq_true hxy] at HS
          have HXY := Lib.hid hxy
          clear hxy
          go_wp2_with fail
          refine (HS.out wC hbwC).mono ?_
          rintro e w2 ⟨rfl, hb2⟩
          go_wp2_with fail
          go_roundw
          case rel => exact ⟨k + 1, by omega, by go_num, by
            show (xs.map EdV.ed).take (k + 1) = (ys.map EdV.ed).take (k + 1)
            rw [List.take_add_one, List.take_add_one, HX.out, HY.out, HXY.out, hf.out], hbwC.next hb2 (Nat.le_refl _)⟩
          case measure => simp [intOf]; omega
        · rw [decide_eq_false hxy] at HS
          have HXY := Lib.hid hxy
          clear hxy
          go_wp2_with fail
          refine (HS.out wC hbwC).mono ?_
          rintro e w2 ⟨rfl, hb2⟩
          go_wp2_with fail
          go_ret
          exact ⟨ret_eq (by rw [decide_eq_false (take_ne' HX.out HY.out HXY.out)]; rfl), hbwC.next hb2 (Nat.le_refl _)⟩
      · have he : xs.map EdV.ed = ys.map EdV.ed := by
          have := hf.out
          rwa [List.take_of_length_le (by rw [List.length_map]; omega), List.take_of_length_le (by rw [List.length_map]; have := HL.out; omega)] at this
        have HE := Lib.hid he
        clear he
        go_wp2
        go_ret
        exact ⟨ret_eq (by rw [decide_eq_true HE.out]; rfl), hbw⟩
  · have hl' : ((xs.length : Int) != (ys.length : Int)) = true := by simp; omega
    go_enter Tryz.func98, Tryz.ntmps98
    go_wp2
    go_ret
    exact ⟨ret_eq (by rw [decide_eq_false (fun h => hl (by have := congrArg List.length h; rwa [List.length_map, List.length_map] at this))]; rfl), Below.refl _ _⟩
theorem same_spec (A : Option Addr) (xs : List EdV) (c : Nat) (A' : Option Addr) (ys : List EdV) (c' : Nat) (w : World) (hm : xs.length ≤ big) (hs : Sl edE w A xs) (hm' : ys.length ≤ big) (hs' : Sl edE w A' ys)
    (hx : ∀ r ∈ xs, EdOk w r ∧ r.old.length ≤ big ∧ r.new.length ≤ big) (hy : ∀ r ∈ ys, EdOk w r ∧ r.old.length ≤ big ∧ r.new.length ≤ big) :
    Calls Tryz.prog 35 #[.slice A xs.length c, .slice A' ys.length c'] w fun e w' => e = .returned (.bool (decide (xs.map EdV.ed = ys.map EdV.ed))) ∧ Below w.heap.size w w' := by
  go_enter Tryz.func35, Tryz.ntmps35
  go_wp2_with fail
  refine (equalFn A xs c A' ys c' w hm hs hm' hs' hx hy).mono ?_
  rintro e w1 ⟨rfl, hb1⟩
  go_wp2_with fail
  go_ret
  exact ⟨rfl, hb1⟩
end Fl
end Go.Proofs.YtekkhnjepcebkaaGreatDoor
