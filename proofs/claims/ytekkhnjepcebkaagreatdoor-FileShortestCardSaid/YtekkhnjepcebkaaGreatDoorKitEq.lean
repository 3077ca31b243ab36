/- The kit's comparisons: lists of numbers, pairs, lists of lists; their copies. Conditions: lengths are below a great bound. -/
import Derived.Test.YtekkhnjepcebkaaGreatDoorFlW
import Derived.Test.YtekkhnjepcebkaaGreatDoorFlR
import Derived.Test.YtekkhnjepcebkaaGreatDoorFlP
import Derived.Test.YtekkhnjepcebkaaGreatDoorFlK
import Derived.ChangeKeysEq
set_option linter.unusedVariables false
set_option linter.unusedSimpArgs false
namespace Go.Proofs.YtekkhnjepcebkaaGreatDoor
namespace Fl
open Go.RowKit
set_option maxRecDepth 100000
theorem int_eq (p q : Int) : (p == q) = decide (p = q) := by rw [Bool.eq_iff_iff]; simp
theorem equalI (A : Option Addr) (xs : List Int) (c : Nat) (A' : Option Addr) (ys : List Int) (c' : Nat) (w : World) (hm : xs.length ≤ big) (hs : Sl intE w A xs) (hm' : ys.length ≤ big) (hs' : Sl intE w A' ys) :
    Calls Tryz.prog 87 #[.slice A xs.length c, .slice A' ys.length c'] w fun e w' => e = .returned (.bool (decide (xs = ys))) ∧ Below w.heap.size w w' := by
  unfold big at hm hm'
  by_cases hl : xs.length = ys.length
  · have hl' : ((xs.length : Int) != (ys.length : Int)) = false := by simp [hl]
    have HL := Lib.hid hl
    clear hl
    go_enter Tryz.func87, Tryz.ntmps87
    go_wp2
    go_loopw [5, 13] (fun _ i wr => ∃ (k : Nat), k ≤ xs.length ∧ i = iv k ∧ Hid (xs.take k = ys.take k) ∧ Below w.heap.size w wr) (fun _ i _ => xs.length - (intOf i).toNat)
    case atStart => exact ⟨0, by omega, rfl, rfl, Below.refl _ _⟩
    case round =>
      obtain ⟨k, hk, rfl, hf, hbw⟩ := hrel
      by_cases hlt : k < xs.length
      · obtain ⟨b, off, p, rfl, hb, hp, hp0⟩ := Sl.atI (hs.below hbw) hlt
        obtain ⟨b', off', q, rfl, hb', hq, hq0⟩ := Sl.atI (hs'.below hbw) (by have := HL.out; omega : k < ys.length)
        have hly : (k : Int) < (ys.length : Int) := by have := HL.out; omega
        have hlx : (k : Int) < (xs.length : Int) := by omega
        have heq := int_eq p q
        have HP := Lib.hid hp
        have HQ := Lib.hid hq
        clear hp hq hs hs'
        by_cases hpq : p = q
        · rw [decide_eq_true hpq] at heq
          have HPQ := Lib.hid hpq
          clear hpq
          go_wp2
          go_quiet (fail)
          have hqd : Below w.heap.size w (wr.drewN nq) := ⟨hbw.os, hbw.tape, hbw.output, hbw.size, hbw.block⟩
          generalize wr.drewN nq = wq at *
          go_wp2
          go_roundw
          case rel => exact ⟨k + 1, by omega, by go_num, by
            show xs.take (k + 1) = ys.take (k + 1)
            rw [List.take_add_one, List.take_add_one, HP.out, HQ.out, HPQ.out, hf.out], hqd⟩
          case measure => simp [intOf]; omega
        · rw [decide_eq_false hpq] at heq
          have HPQ := Lib.hid hpq
          clear hpq
          go_wp2
          go_quiet (fail)
          have hqd : Below w.heap.size w (wr.drewN nq) := ⟨hbw.os, hbw.tape, hbw.output, hbw.size, hbw.block⟩
          generalize wr.drewN nq = wq at *
          go_wp2
          go_ret
          exact ⟨ret_eq (by rw [decide_eq_false (take_ne' HP.out HQ.out HPQ.out)]; rfl), hqd⟩
      · have he : xs = ys := by
          have := hf.out
          rwa [List.take_of_length_le (by omega), List.take_of_length_le (by have := HL.out; omega)] at this
        have HE := Lib.hid he
        clear he
        go_wp2
        go_ret
        exact ⟨ret_eq (by rw [decide_eq_true HE.out]; rfl), (by first | exact hbw | exact hbw.drew)⟩
  · have hl' : ((xs.length : Int) != (ys.length : Int)) = true := by simp; omega
    go_enter Tryz.func87, Tryz.ntmps87
    go_wp2
    go_ret
    exact ⟨ret_eq (by rw [decide_eq_false (fun h => hl (by rw [h]))]; rfl), Below.refl _ _⟩
theorem eqArr (a b c d : Int) (w : World) : (Op.equalIn 10000 83 (.agg #[iv a, iv b]) (.agg #[iv c, iv d])).run Tryz.prog w = .ok (a == c && b == d) w := by
  obtain ⟨i, hi⟩ : ∃ i, (Tryz.prog).info? 3 = some i := by
    obtain ⟨i, z, h1, _⟩ := tyInts.info
    exact ⟨i, h1⟩
  rw [run_equalIn_array (P := Tryz.prog) w 9999 #[iv a, iv b] #[iv c, iv d] (t := 83) (e := 3) (n := 2) Tryz.underlying83 hi]
  have hc : (Tryz.prog).cellsOf 3 = 1 := by kernel_rfl
  have h3 : ∀ (x y : Int) (d : Nat), (Op.equalIn (d + 1) 3 (iv x) (iv y)).run Tryz.prog w = .ok (x == y) w := fun x y d => run_equalIn_int w d _ _ _ _ _ Tryz.underlying3
  have hp0 : ∀ a b : Int, (part 3 #[iv a, iv b] 0).run Tryz.prog w = .ok (iv a) w := fun _ _ => by kernel_rfl
  have hp1 : ∀ a b : Int, (part 3 #[iv a, iv b] 1).run Tryz.prog w = .ok (iv b) w := fun _ _ => by kernel_rfl
  rw [hc]
  have hr : List.range 2 = [0, 1] := rfl
  rw [hr]
  simp only [Op.eqItems]
  by_cases h1 : a = c <;> by_cases h2 : b = d <;>
    simp [hp0, hp1, h3, Result.andThen, h1, h2, Sem.run_bind]
theorem eqArrD (p q : Nat × Nat) (w : World) : (Op.equalIn 10000 83 (.agg #[iv (p.1 : Int), iv (p.2 : Int)]) (.agg #[iv (q.1 : Int), iv (q.2 : Int)])).run Tryz.prog w = .ok (decide (p = q)) w := by
  obtain ⟨a, b⟩ := p
  obtain ⟨c, d⟩ := q
  rw [eqArr]
  congr 1
  by_cases h1 : a = c <;> by_cases h2 : b = d <;> simp [h1, h2] <;> omega
theorem equalAr (A : Option Addr) (xs : List (Nat × Nat)) (c : Nat) (A' : Option Addr) (ys : List (Nat × Nat)) (c' : Nat) (w : World) (hm : xs.length ≤ big) (hs : Sl pairE w A xs) (hm' : ys.length ≤ big) (hs' : Sl pairE w A' ys) :
    Calls Tryz.prog 176 #[.slice A xs.length c, .slice A' ys.length c'] w fun e w' => e = .returned (.bool (decide (xs = ys))) ∧ Below w.heap.size w w' := by
  unfold big at hm hm'
  by_cases hl : xs.length = ys.length
  · have hl' : ((xs.length : Int) != (ys.length : Int)) = false := by simp [hl]
    have HL := Lib.hid hl
    clear hl
    go_enter Tryz.func176, Tryz.ntmps176
    go_wp2
    go_loopw [5, 13] (fun _ i wr => ∃ (k : Nat), k ≤ xs.length ∧ i = iv k ∧ Hid (xs.take k = ys.take k) ∧ Below w.heap.size w wr) (fun _ i _ => xs.length - (intOf i).toNat)
    case atStart => exact ⟨0, by omega, rfl, rfl, Below.refl _ _⟩
    case round =>
      obtain ⟨k, hk, rfl, hf, hbw⟩ := hrel
      by_cases hlt : k < xs.length
      · obtain ⟨b, off, p, rfl, hb, hp, hp0, hp1⟩ := Sl.atPr (hs.below hbw) hlt
        obtain ⟨b', off', q, rfl, hb', hq, hq0, hq1⟩ := Sl.atPr (hs'.below hbw) (by have := HL.out; omega : k < ys.length)
        have hly : (k : Int) < (ys.length : Int) := by have := HL.out; omega
        have hlx : (k : Int) < (xs.length : Int) := by omega
        have heq := eqArrD p q
        have HP := Lib.hid hp
        have HQ := Lib.hid hq
        clear hp hq hs hs'
        by_cases hpq : p = q
        · rw [decide_eq_true hpq] at heq
          have HPQ := Lib.hid hpq
          clear hpq
          go_wp2
          go_region
          all_goals have hqd : Below w.heap.size w wr.drew := by first | exact hbw | exact hbw.drew
          go_wp2
          go_roundw
          case rel => exact ⟨k + 1, by omega, by go_num, by
            show xs.take (k + 1) = ys.take (k + 1)
            rw [List.take_add_one, List.take_add_one, HP.out, HQ.out, HPQ.out, hf.out], hqd⟩
          case measure => simp [intOf]; omega
        · rw [decide_eq_false hpq] at heq
          have HPQ := Lib.hid hpq
          clear hpq
          go_wp2
          go_region
          all_goals have hqd : Below w.heap.size w wr.drew := by first | exact hbw | exact hbw.drew
          go_wp2
          go_ret
          exact ⟨ret_eq (by rw [decide_eq_false (take_ne' HP.out HQ.out HPQ.out)]; rfl), hqd⟩
      · have he : xs = ys := by
          have := hf.out
          rwa [List.take_of_length_le (by omega), List.take_of_length_le (by have := HL.out; omega)] at this
        have HE := Lib.hid he
        clear he
        go_wp2
        go_ret
        exact ⟨ret_eq (by rw [decide_eq_true HE.out]; rfl), (by first | exact hbw | exact hbw.drew)⟩
  · have hl' : ((xs.length : Int) != (ys.length : Int)) = true := by simp; omega
    go_enter Tryz.func176, Tryz.ntmps176
    go_wp2
    go_ret
    exact ⟨ret_eq (by rw [decide_eq_false (fun h => hl (by rw [h]))]; rfl), Below.refl _ _⟩
theorem eqAr (A : Option Addr) (xs : List (Nat × Nat)) (c : Nat) (A' : Option Addr) (ys : List (Nat × Nat)) (c' : Nat) (w : World) (hm : xs.length ≤ big) (hs : Sl pairE w A xs) (hm' : ys.length ≤ big) (hs' : Sl pairE w A' ys) :
    Calls Tryz.prog 137 #[.slice A xs.length c, .slice A' ys.length c'] w fun e w' => e = .returned (.bool (decide (xs = ys))) ∧ Below w.heap.size w w' := by
  go_enter Tryz.func137, Tryz.ntmps137
  go_wp2_with (go_at_call 176; refine (equalAr A xs c A' ys c' w hm hs hm' hs').mono ?_; rintro e w1 ⟨rfl, hb1⟩)
  go_ret
  exact ⟨rfl, hb1⟩
theorem eqI (A : Option Addr) (xs : List Int) (c : Nat) (A' : Option Addr) (ys : List Int) (c' : Nat) (w : World) (hm : xs.length ≤ big) (hs : Sl intE w A xs) (hm' : ys.length ≤ big) (hs' : Sl intE w A' ys) :
    Calls Tryz.prog 20 #[.slice A xs.length c, .slice A' ys.length c'] w fun e w' => e = .returned (.bool (decide (xs = ys))) ∧ Below w.heap.size w w' := by
  go_enter Tryz.func20, Tryz.ntmps20
  go_wp2_with (go_at_call 87; refine (equalI A xs c A' ys c' w hm hs hm' hs').mono ?_; rintro e w1 ⟨rfl, hb1⟩)
  go_ret
  exact ⟨rfl, hb1⟩
theorem dupI (A : Option Addr) (l : List Int) (c : Nat) (w : World) (hm : l.length ≤ big) (hs : Sl intE w A l) :
    Calls Tryz.prog 126 #[.slice A l.length c] w fun e w' => ∃ v, e = .returned v ∧ Own intE 3 w.heap.size w' v l ∧ Below w.heap.size w w' := by
  go_enter Tryz.func126, Tryz.ntmps126
  go_wp2_with (first
    | (at_make; refine wpMake0 intE tyInts rfl _ _ rfl l.length rfl rfl hm ?_; intro w1 hown1 hb1)
    | (at_builtin; refine wpAppS intE tyInts rfl _ _ rfl hown1 (hs.below hb1) rfl rfl hb1.size (by simpa using hm) ?_; intro v2 w2 hown2 hb2 _))
  go_ret
  exact ⟨_, rfl, by simpa using hown2, hb1.trans hb2⟩
theorem equalRowsI (A : Option Addr) (xs : List (Rw Int)) (c : Nat) (A' : Option Addr) (ys : List (Rw Int)) (c' : Nat) (w : World) (hm : xs.length ≤ big) (hs : Sl (rwE Int) w A xs) (hm' : ys.length ≤ big) (hs' : Sl (rwE Int) w A' ys)
    (hx : ∀ r ∈ xs, Sl intE w r.A r.xs ∧ r.xs.length ≤ big) (hy : ∀ r ∈ ys, Sl intE w r.A r.xs ∧ r.xs.length ≤ big) :
    Calls Tryz.prog 177 #[.slice A xs.length c, .slice A' ys.length c', .func (.func 87) #[] #[]] w fun e w' => e = .returned (.bool (decide (xs.map Rw.xs = ys.map Rw.xs))) ∧ Below w.heap.size w w' := by
  unfold big at hm hm'
  by_cases hl : xs.length = ys.length
  · have hl' : ((xs.length : Int) != (ys.length : Int)) = false := by simp [hl]
    have HL := Lib.hid hl
    clear hl
    go_enter Tryz.func177, Tryz.ntmps177
    go_wp2
    go_loopw [7, 8, 9, 17] (fun _ _ _ i wr => ∃ (k : Nat), k ≤ xs.length ∧ i = iv k ∧ Hid ((xs.map Rw.xs).take k = (ys.map Rw.xs).take k) ∧ Below w.heap.size w wr) (fun _ _ _ i _ => xs.length - (intOf i).toNat)
    case atStart => exact ⟨0, by omega, rfl, rfl, Below.refl _ _⟩
    case round =>
      obtain ⟨k, hk, rfl, hf, hbw⟩ := hrel
      by_cases hlt : k < xs.length
      · obtain ⟨b, off, x, rfl, hb, hx0, hc0⟩ := Sl.atRw (hs.below hbw) hlt
        obtain ⟨b', off', y, rfl, hb', hy0, hd0⟩ := Sl.atRw (hs'.below hbw) (by have := HL.out; omega : k < ys.length)
        have hly : (k : Int) < (ys.length : Int) := by have := HL.out; omega
        have hlx : (k : Int) < (xs.length : Int) := by omega
        obtain ⟨ox, lx1⟩ := hx x (mem_at hx0)
        obtain ⟨oy, ly1⟩ := hy y (mem_at hy0)
        have HS := Lib.hid (equalI x.A x.xs x.c y.A y.xs y.c wr lx1 (ox.below hbw) ly1 (oy.below hbw))
        have HX : Hid ((xs.map Rw.xs)[k]? = some x.xs) := Lib.hid (by rw [List.getElem?_map, hx0]; rfl)
        have HY : Hid ((ys.map Rw.xs)[k]? = some y.xs) := Lib.hid (by rw [List.getElem?_map, hy0]; rfl)
        clear hx0 hy0 hs hs' hx hy ox oy
        by_cases hxy : x.xs = y.xs
        · rw [decide_eq_true hxy] at HS
          have HXY := Lib.hid hxy
          clear hxy
          go_wp2_with fail
          refine HS.out.mono ?_
          rintro e w2 ⟨rfl, hb2⟩
          go_wp2_with fail
          go_roundw
          case rel => exact ⟨k + 1, by omega, by go_num, by
            show (xs.map Rw.xs).take (k + 1) = (ys.map Rw.xs).take (k + 1)
            rw [List.take_add_one, List.take_add_one, HX.out, HY.out, HXY.out, hf.out], hbw.next hb2 (Nat.le_refl _)⟩
          case measure => simp [intOf]; omega
        · rw [decide_eq_false hxy] at HS
          have HXY := Lib.hid hxy
          clear hxy
          go_wp2_with fail
          refine HS.out.mono ?_
          rintro e w2 ⟨rfl, hb2⟩
          go_wp2_with fail
          go_ret
          exact ⟨ret_eq (by rw [decide_eq_false (take_ne' HX.out HY.out HXY.out)]; rfl), hbw.next hb2 (Nat.le_refl _)⟩
      · have he : xs.map Rw.xs = ys.map Rw.xs := by
          have := hf.out
          rwa [List.take_of_length_le (by rw [List.length_map]; omega), List.take_of_length_le (by rw [List.length_map]; have := HL.out; omega)] at this
        have HE := Lib.hid he
        clear he
        go_wp2
        go_ret
        exact ⟨ret_eq (by rw [decide_eq_true HE.out]; rfl), hbw⟩
  · have hl' : ((xs.length : Int) != (ys.length : Int)) = true := by simp; omega
    go_enter Tryz.func177, Tryz.ntmps177
    go_wp2
    go_ret
    exact ⟨ret_eq (by rw [decide_eq_false (fun h => hl (by have := congrArg List.length h; simpa using this))]; rfl), Below.refl _ _⟩
theorem eqRowsI (A : Option Addr) (xs : List (Rw Int)) (c : Nat) (A' : Option Addr) (ys : List (Rw Int)) (c' : Nat) (w : World) (hm : xs.length ≤ big) (hs : Sl (rwE Int) w A xs) (hm' : ys.length ≤ big) (hs' : Sl (rwE Int) w A' ys)
    (hx : ∀ r ∈ xs, Sl intE w r.A r.xs ∧ r.xs.length ≤ big) (hy : ∀ r ∈ ys, Sl intE w r.A r.xs ∧ r.xs.length ≤ big) :
    Calls Tryz.prog 138 #[.slice A xs.length c, .slice A' ys.length c'] w fun e w' => e = .returned (.bool (decide (xs.map Rw.xs = ys.map Rw.xs))) ∧ Below w.heap.size w w' := by
  go_enter Tryz.func138, Tryz.ntmps138
  go_wp2_with fail
  refine (equalRowsI A xs c A' ys c' w hm hs hm' hs' hx hy).mono ?_
  rintro e w1 ⟨rfl, hb1⟩
  go_wp2_with fail
  go_ret
  exact ⟨rfl, hb1⟩
theorem tyRowsI : SlTy Tryz.prog 91 33 1 := slTy_of (z := .slice none 0 0) (bytes := 24) Tryz.underlying91 (by kernel_rfl) rfl (by decide)
set_option maxHeartbeats 1000000 in
theorem dupRowsI (A : Option Addr) (xs : List (Rw Int)) (c : Nat) (w : World) (hm : xs.length ≤ big) (hs : Sl (rwE Int) w A xs) (hx : ∀ r ∈ xs, Sl intE w r.A r.xs ∧ r.xs.length ≤ big) :
    Calls Tryz.prog 58 #[.slice A xs.length c] w fun e w' => ∃ v rs, e = .returned v ∧ Own (rwE Int) 33 w.heap.size w' v rs ∧ rs.map Rw.xs = xs.map Rw.xs ∧ (∀ r ∈ rs, Own intE 3 w.heap.size w' (.slice r.A r.xs.length r.c) r.xs ∧ r.xs.length ≤ r.c) ∧ Below w.heap.size w w' := by
  go_enter Tryz.func58, Tryz.ntmps58
  go_wp2_with (at_make; refine wpMake0 (rwE Int) tyRowsI rfl _ _ rfl xs.length rfl rfl hm ?_; intro w1 hown1 hb1)
  unfold big at hm
  have hG1 := hb1.size
  go_loopw [3, 5, 11] (fun v _ i wr => ∃ (k : Nat) (rs : List (Rw Int)), k ≤ xs.length ∧ i = iv (k : Int) ∧ Hid (Own (rwE Int) 33 w.heap.size wr v rs) ∧ Hid (rs.map Rw.xs = (xs.map Rw.xs).take k) ∧ Hid (∀ r ∈ rs, Own intE 3 w.heap.size wr (.slice r.A r.xs.length r.c) r.xs ∧ r.xs.length ≤ r.c) ∧ Below w.heap.size w wr) (fun _ _ i _ => xs.length - (intOf i).toNat)
  case atStart => exact ⟨0, [], Nat.zero_le _, rfl, hown1, Lib.hid rfl, Lib.hid (fun r h => by cases h), hb1⟩
  case round =>
    obtain ⟨k, rs, hk, rfl, HO, HM, HR, hbr⟩ := hrel
    by_cases hlt : k < xs.length
    · have hki : (k : Int) < (xs.length : Int) := by omega
      obtain ⟨b, off, x, rfl, hb, hx0, hc0⟩ := Sl.atRw (hs.below hbr) hlt
      obtain ⟨hsx, hlx⟩ := hx x (mem_at hx0)
      have HD := Lib.hid (dupI x.A x.xs x.c wr hlx (hsx.below hbr))
      have HXK : Hid ((xs.map Rw.xs)[k]? = some x.xs) := Lib.hid (by rw [List.getElem?_map, hx0]; rfl)
      have hrl : rs.length = k := by have := congrArg List.length HM.out; rw [List.length_map, List.length_take, List.length_map] at this; omega
      have HRL := Lib.hid hrl
      clear hx0 hsx hrl
      go_wp2_with fail
      refine HD.out.mono ?_
      rintro e w2 ⟨v2, rfl, ho2, hb2⟩
      obtain ⟨X, cx, rfl, hcx, _⟩ := ho2.form
      have hb02 := hbr.next hb2 (Nat.le_refl _)
      have HO2 := Lib.hid (HO.out.below hb2)
      have HR2 : Hid (∀ r ∈ rs, Own intE 3 w.heap.size w2 (.slice r.A r.xs.length r.c) r.xs ∧ r.xs.length ≤ r.c) := Lib.hid fun r hr => ⟨(HR.out r hr).1.below hb2, (HR.out r hr).2⟩
      have ho2 := Lib.hid (ho2.base hbr.size)
      clear HO HR HD
      go_wp2_with (at_builtin; refine wpApp1 (rwE Int) tyRowsI rfl _ _ rfl HO2.out (⟨X, cx, x.xs⟩ : Rw Int) rfl rfl rfl hb02.size (by have := HRL.out; unfold big; omega) ?_; intro v3 w3 hown3 hb3 hk3)
      have HR3 : Hid (∀ r ∈ rs ++ [(⟨X, cx, x.xs⟩ : Rw Int)], Own intE 3 w.heap.size w3 (.slice r.A r.xs.length r.c) r.xs ∧ r.xs.length ≤ r.c) := Lib.hid fun r hr => by
        have hrow : ∀ r' : Rw Int, Own intE 3 w.heap.size w2 (.slice r'.A r'.xs.length r'.c) r'.xs → Own intE 3 w.heap.size w3 (.slice r'.A r'.xs.length r'.c) r'.xs := fun r' ho => ho.keep (by have := hb3.size; omega) fun g hg => hk3 g (ho.lt g hg).2 (fun hv => Own.two HO2.out ho (by decide) hv hg)
        rcases List.mem_append.1 hr with hr | hr
        · exact ⟨hrow r (HR2.out r hr).1, (HR2.out r hr).2⟩
        · simp only [List.mem_singleton] at hr
          subst hr
          exact ⟨hrow _ ho2.out, hcx⟩
      have HM3 : Hid ((rs ++ [(⟨X, cx, x.xs⟩ : Rw Int)]).map Rw.xs = (xs.map Rw.xs).take (k + 1)) := Lib.hid (by rw [List.map_append, HM.out, List.take_add_one, HXK.out]; rfl)
      have HO3 := Lib.hid hown3
      clear hown3 HO2 HR2 HM hk3
      go_roundw
      case rel => exact ⟨k + 1, _, by omega, by go_num, HO3, HM3, HR3, hb02.trans hb3⟩
      case measure => simp [intOf]; omega
    · have hki : ¬ (k : Int) < (xs.length : Int) := by omega
      have HM2 : Hid (rs.map Rw.xs = xs.map Rw.xs) := Lib.hid (by rw [HM.out, List.take_of_length_le (by rw [List.length_map]; omega)])
      clear HM
      go_wp2_with fail
      go_ret
      exact ⟨_, rfl, rs, HO.out, HM2.out, HR.out, hbr⟩
theorem equalRowsS (A : Option Addr) (xs : List (Rw ByteArray)) (c : Nat) (A' : Option Addr) (ys : List (Rw ByteArray)) (c' : Nat) (w : World) (hm : xs.length ≤ big) (hs : Sl (rwE ByteArray) w A xs) (hm' : ys.length ≤ big) (hs' : Sl (rwE ByteArray) w A' ys)
    (hx : ∀ r ∈ xs, Sl strE w r.A r.xs ∧ r.xs.length ≤ big) (hy : ∀ r ∈ ys, Sl strE w r.A r.xs ∧ r.xs.length ≤ big) :
    Calls Tryz.prog 88 #[.slice A xs.length c, .slice A' ys.length c', .func (.func 18) #[] #[]] w fun e w' => e = .returned (.bool (decide (xs.map Rw.xs = ys.map Rw.xs))) ∧ Below w.heap.size w w' := by
  unfold big at hm hm'
  by_cases hl : xs.length = ys.length
  · have hl' : ((xs.length : Int) != (ys.length : Int)) = false := by simp [hl]
    have HL := Lib.hid hl
    clear hl
    go_enter Tryz.func88, Tryz.ntmps88
    go_wp2
    go_loopw [7, 8, 9, 17] (fun _ _ _ i wr => ∃ (k : Nat), k ≤ xs.length ∧ i = iv k ∧ Hid ((xs.map Rw.xs).take k = (ys.map Rw.xs).take k) ∧ Below w.heap.size w wr) (fun _ _ _ i _ => xs.length - (intOf i).toNat)
    case atStart => exact ⟨0, by omega, rfl, rfl, Below.refl _ _⟩
    case round =>
      obtain ⟨k, hk, rfl, hf, hbw⟩ := hrel
      by_cases hlt : k < xs.length
      · obtain ⟨b, off, x, rfl, hb, hx0, hc0⟩ := Sl.atRw (hs.below hbw) hlt
        obtain ⟨b', off', y, rfl, hb', hy0, hd0⟩ := Sl.atRw (hs'.below hbw) (by have := HL.out; omega : k < ys.length)
        have hly : (k : Int) < (ys.length : Int) := by have := HL.out; omega
        have hlx : (k : Int) < (xs.length : Int) := by omega
        obtain ⟨ox, lx1⟩ := hx x (mem_at hx0)
        obtain ⟨oy, ly1⟩ := hy y (mem_at hy0)
        have HS := Lib.hid (equalS x.A x.xs x.c y.A y.xs y.c wr lx1 (ox.below hbw) ly1 (oy.below hbw))
        have HX : Hid ((xs.map Rw.xs)[k]? = some x.xs) := Lib.hid (by rw [List.getElem?_map, hx0]; rfl)
        have HY : Hid ((ys.map Rw.xs)[k]? = some y.xs) := Lib.hid (by rw [List.getElem?_map, hy0]; rfl)
        clear hx0 hy0 hs hs' hx hy ox oy
        by_cases hxy : x.xs = y.xs
        · rw [decide_eq_true hxy] at HS
          have HXY := Lib.hid hxy
          clear hxy
          go_wp2_with fail
          refine HS.out.mono ?_
          rintro e w2 ⟨rfl, hb2⟩
          go_wp2_with fail
          go_roundw
          case rel => exact ⟨k + 1, by omega, by go_num, by
            show (xs.map Rw.xs).take (k + 1) = (ys.map Rw.xs).take (k + 1)
            rw [List.take_add_one, List.take_add_one, HX.out, HY.out, HXY.out, hf.out], hbw.next hb2 (Nat.le_refl _)⟩
          case measure => simp [intOf]; omega
        · rw [decide_eq_false hxy] at HS
          have HXY := Lib.hid hxy
          clear hxy
          go_wp2_with fail
          refine HS.out.mono ?_
          rintro e w2 ⟨rfl, hb2⟩
          go_wp2_with fail
          go_ret
          exact ⟨ret_eq (by rw [decide_eq_false (take_ne' HX.out HY.out HXY.out)]; rfl), hbw.next hb2 (Nat.le_refl _)⟩
      · have he : xs.map Rw.xs = ys.map Rw.xs := by
          have := hf.out
          rwa [List.take_of_length_le (by rw [List.length_map]; omega), List.take_of_length_le (by rw [List.length_map]; have := HL.out; omega)] at this
        have HE := Lib.hid he
        clear he
        go_wp2
        go_ret
        exact ⟨ret_eq (by rw [decide_eq_true HE.out]; rfl), hbw⟩
  · have hl' : ((xs.length : Int) != (ys.length : Int)) = true := by simp; omega
    go_enter Tryz.func88, Tryz.ntmps88
    go_wp2
    go_ret
    exact ⟨ret_eq (by rw [decide_eq_false (fun h => hl (by have := congrArg List.length h; simpa using this))]; rfl), Below.refl _ _⟩
theorem eqRowsS (A : Option Addr) (xs : List (Rw ByteArray)) (c : Nat) (A' : Option Addr) (ys : List (Rw ByteArray)) (c' : Nat) (w : World) (hm : xs.length ≤ big) (hs : Sl (rwE ByteArray) w A xs) (hm' : ys.length ≤ big) (hs' : Sl (rwE ByteArray) w A' ys)
    (hx : ∀ r ∈ xs, Sl strE w r.A r.xs ∧ r.xs.length ≤ big) (hy : ∀ r ∈ ys, Sl strE w r.A r.xs ∧ r.xs.length ≤ big) :
    Calls Tryz.prog 21 #[.slice A xs.length c, .slice A' ys.length c'] w fun e w' => e = .returned (.bool (decide (xs.map Rw.xs = ys.map Rw.xs))) ∧ Below w.heap.size w w' := by
  go_enter Tryz.func21, Tryz.ntmps21
  go_wp2_with fail
  refine (equalRowsS A xs c A' ys c' w hm hs hm' hs' hx hy).mono ?_
  rintro e w1 ⟨rfl, hb1⟩
  go_wp2_with fail
  go_ret
  exact ⟨rfl, hb1⟩
theorem tyRowsS : SlTy Tryz.prog 23 22 1 := slTy_of (z := .slice none 0 0) (bytes := 24) Tryz.underlying23 (by kernel_rfl) rfl (by decide)
set_option maxHeartbeats 1000000 in
theorem dupRowsS (A : Option Addr) (xs : List (Rw ByteArray)) (c : Nat) (w : World) (hm : xs.length ≤ big) (hs : Sl (rwE ByteArray) w A xs) (hx : ∀ r ∈ xs, Sl strE w r.A r.xs ∧ r.xs.length ≤ big) :
    Calls Tryz.prog 12 #[.slice A xs.length c] w fun e w' => ∃ v rs, e = .returned v ∧ Own (rwE ByteArray) 22 w.heap.size w' v rs ∧ rs.map Rw.xs = xs.map Rw.xs ∧ (∀ r ∈ rs, Own strE 9 w.heap.size w' (.slice r.A r.xs.length r.c) r.xs ∧ r.xs.length ≤ r.c) ∧ Below w.heap.size w w' := by
  go_enter Tryz.func12, Tryz.ntmps12
  go_wp2_with (at_make; refine wpMake0 (rwE ByteArray) tyRowsS rfl _ _ rfl xs.length rfl rfl hm ?_; intro w1 hown1 hb1)
  unfold big at hm
  have hG1 := hb1.size
  go_loopw [3, 5, 11] (fun v _ i wr => ∃ (k : Nat) (rs : List (Rw ByteArray)), k ≤ xs.length ∧ i = iv (k : Int) ∧ Hid (Own (rwE ByteArray) 22 w.heap.size wr v rs) ∧ Hid (rs.map Rw.xs = (xs.map Rw.xs).take k) ∧ Hid (∀ r ∈ rs, Own strE 9 w.heap.size wr (.slice r.A r.xs.length r.c) r.xs ∧ r.xs.length ≤ r.c) ∧ Below w.heap.size w wr) (fun _ _ i _ => xs.length - (intOf i).toNat)
  case atStart => exact ⟨0, [], Nat.zero_le _, rfl, hown1, Lib.hid rfl, Lib.hid (fun r h => by cases h), hb1⟩
  case round =>
    obtain ⟨k, rs, hk, rfl, HO, HM, HR, hbr⟩ := hrel
    by_cases hlt : k < xs.length
    · have hki : (k : Int) < (xs.length : Int) := by omega
      obtain ⟨b, off, x, rfl, hb, hx0, hc0⟩ := Sl.atRw (hs.below hbr) hlt
      obtain ⟨hsx, hlx⟩ := hx x (mem_at hx0)
      have HD := Lib.hid (dupS x.A x.xs x.c wr hlx (hsx.below hbr))
      have HXK : Hid ((xs.map Rw.xs)[k]? = some x.xs) := Lib.hid (by rw [List.getElem?_map, hx0]; rfl)
      have hrl : rs.length = k := by have := congrArg List.length HM.out; rw [List.length_map, List.length_take, List.length_map] at this; omega
      have HRL := Lib.hid hrl
      clear hx0 hsx hrl
      go_wp2_with fail
      refine HD.out.mono ?_
      rintro e w2 ⟨v2, rfl, ho2, hb2⟩
      obtain ⟨X, cx, rfl, hcx, _⟩ := ho2.form
      have hb02 := hbr.next hb2 (Nat.le_refl _)
      have HO2 := Lib.hid (HO.out.below hb2)
      have HR2 : Hid (∀ r ∈ rs, Own strE 9 w.heap.size w2 (.slice r.A r.xs.length r.c) r.xs ∧ r.xs.length ≤ r.c) := Lib.hid fun r hr => ⟨(HR.out r hr).1.below hb2, (HR.out r hr).2⟩
      have ho2 := Lib.hid (ho2.base hbr.size)
      clear HO HR HD
      go_wp2_with (at_builtin; refine wpApp1 (rwE ByteArray) tyRowsS rfl _ _ rfl HO2.out (⟨X, cx, x.xs⟩ : Rw ByteArray) rfl rfl rfl hb02.size (by have := HRL.out; unfold big; omega) ?_; intro v3 w3 hown3 hb3 hk3)
      have HR3 : Hid (∀ r ∈ rs ++ [(⟨X, cx, x.xs⟩ : Rw ByteArray)], Own strE 9 w.heap.size w3 (.slice r.A r.xs.length r.c) r.xs ∧ r.xs.length ≤ r.c) := Lib.hid fun r hr => by
        have hrow : ∀ r' : Rw ByteArray, Own strE 9 w.heap.size w2 (.slice r'.A r'.xs.length r'.c) r'.xs → Own strE 9 w.heap.size w3 (.slice r'.A r'.xs.length r'.c) r'.xs := fun r' ho => ho.keep (by have := hb3.size; omega) fun g hg => hk3 g (ho.lt g hg).2 (fun hv => Own.two HO2.out ho (by decide) hv hg)
        rcases List.mem_append.1 hr with hr | hr
        · exact ⟨hrow r (HR2.out r hr).1, (HR2.out r hr).2⟩
        · simp only [List.mem_singleton] at hr
          subst hr
          exact ⟨hrow _ ho2.out, hcx⟩
      have HM3 : Hid ((rs ++ [(⟨X, cx, x.xs⟩ : Rw ByteArray)]).map Rw.xs = (xs.map Rw.xs).take (k + 1)) := Lib.hid (by rw [List.map_append, HM.out, List.take_add_one, HXK.out]; rfl)
      have HO3 := Lib.hid hown3
      clear hown3 HO2 HR2 HM hk3
      go_roundw
      case rel => exact ⟨k + 1, _, by omega, by go_num, HO3, HM3, HR3, hb02.trans hb3⟩
      case measure => simp [intOf]; omega
    · have hki : ¬ (k : Int) < (xs.length : Int) := by omega
      have HM2 : Hid (rs.map Rw.xs = xs.map Rw.xs) := Lib.hid (by rw [HM.out, List.take_of_length_le (by rw [List.length_map]; omega)])
      clear HM
      go_wp2_with fail
      go_ret
      exact ⟨_, rfl, rs, HO.out, HM2.out, HR.out, hbr⟩
theorem Sl.cellS {w : World} {b off k : Nat} {xs : List ByteArray} {x : ByteArray} (h : Sl strE w (some ⟨b, off, none⟩) xs) (hx : xs[k]? = some x) : ∀ W, Below w.heap.size w W → W.cell? ⟨b, off + k, none⟩ = some (.string x) := fun W hW => by
  obtain ⟨_, _, s2, hA', _, hx2, hc2⟩ := Sl.atS (h.below hW) (List.getElem?_eq_some_iff.1 hx).1
  injection hA' with hA'
  injection hA' with e1 e2 _
  subst e1; subst e2
  rw [hx] at hx2
  rw [hc2, Option.some.inj hx2]
theorem Sl.cellPr {w : World} {b off k : Nat} {xs : List (Nat × Nat)} {p : Nat × Nat} (h : Sl pairE w (some ⟨b, off, none⟩) xs) (hx : xs[k]? = some p) : ∀ W, Below w.heap.size w W → W.cell? ⟨b, off + k * 2, none⟩ = some (iv (p.1 : Int)) ∧ W.cell? ⟨b, off + k * 2 + 1, none⟩ = some (iv (p.2 : Int)) := fun W hW => by
  obtain ⟨_, _, s2, hA', _, hx2, hc2, hc3⟩ := Sl.atPr (h.below hW) (List.getElem?_eq_some_iff.1 hx).1
  injection hA' with hA'
  injection hA' with e1 e2 _
  subst e1; subst e2
  rw [hx] at hx2
  have := Option.some.inj hx2
  subst this
  exact ⟨hc2, hc3⟩
theorem Sl.cellEd {w : World} {b off k : Nat} {vs : List EdV} {x : EdV} (h : Sl edE w (some ⟨b, off, none⟩) vs) (hx : vs[k]? = some x) : ∀ W, Below w.heap.size w W → W.cell? ⟨b, off + k * 3, none⟩ = some (iv x.at_) ∧ W.cell? ⟨b, off + k * 3 + 1, none⟩ = some (.slice x.A x.old.length x.c) ∧ W.cell? ⟨b, off + k * 3 + 2, none⟩ = some (.slice x.A' x.new.length x.c') := fun W hW => by
  obtain ⟨_, _, s2, hA', _, hx2, hc2, hc3, hc4⟩ := Sl.atEd (h.below hW) (List.getElem?_eq_some_iff.1 hx).1
  injection hA' with hA'
  injection hA' with e1 e2 _
  subst e1; subst e2
  rw [hx] at hx2
  have := Option.some.inj hx2
  subst this
  exact ⟨hc2, hc3, hc4⟩
end Fl
end Go.Proofs.YtekkhnjepcebkaaGreatDoor
