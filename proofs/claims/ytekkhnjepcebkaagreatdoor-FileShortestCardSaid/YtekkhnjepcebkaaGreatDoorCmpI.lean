/- cmp.Compare, slices.Compare of numbers, slices.CompareFunc of pairs. Conditions: lengths are below a great bound. -/
import Derived.Test.YtekkhnjepcebkaaGreatDoorFileShrt
import Derived.Test.YtekkhnjepcebkaaGreatDoorKitEq
import Derived.Test.YtekkhnjepcebkaaGreatDoorFreeO
import Derived.Test.YtekkhnjepcebkaaGreatDoorSpool
import Derived.Test.YtekkhnjepcebkaaGreatDoorFlLs
import Derived.Test.YtekkhnjepcebkaaGreatDoorFlT
import Derived.BigRegion
set_option linter.unusedVariables false
set_option linter.unusedSimpArgs false
namespace Go.Proofs.YtekkhnjepcebkaaGreatDoor
namespace Fl
open Go.RowKit Go.Shelf
set_option maxRecDepth 100000
/-- What cmp.Compare and slices.Compare answer. -/
def cmpZ (x y : Int) : Int := if x < y then -1 else if y < x then 1 else 0
def cmpLI : List Int → List Int → Int
  | x :: l, y :: k => if cmpZ x y = 0 then cmpLI l k else cmpZ x y
  | [], _ :: _ => -1
  | [], [] => 0
  | _ :: _, [] => 1
theorem cmpZ_bounds (x y : Int) : -1 ≤ cmpZ x y ∧ cmpZ x y ≤ 1 := by unfold cmpZ; split <;> (try split) <;> omega
theorem isNaN_int (x : Int) (w : World) : Calls Tryz.prog 173 #[iv x] w fun e w' => e = .returned (.bool false) ∧ w = w' := by
  go_enter Tryz.func173, Tryz.ntmps173
  go_wp2
  go_ret
  exact ⟨by simp, rfl⟩

theorem cmpI_spec (x y : Int) (w : World) : Calls Tryz.prog 125 #[iv x, iv y] w fun e w' => e = .returned (iv (cmpZ x y)) ∧ w = w' := by
  by_cases h : x < y
  · rw [show cmpZ x y = -1 by unfold cmpZ; rw [if_pos h]]
    go_enter Tryz.func125, Tryz.ntmps125
    go_wp2_with (go_at_call 173; refine (isNaN_int _ _).mono ?_; rintro e w' ⟨rfl, rfl⟩)
    go_ret
    exact ⟨rfl, rfl⟩
  · by_cases h2 : y < x
    · rw [show cmpZ x y = 1 by unfold cmpZ; rw [if_neg h, if_pos h2]]
      go_enter Tryz.func125, Tryz.ntmps125
      go_wp2_with (go_at_call 173; refine (isNaN_int _ _).mono ?_; rintro e w' ⟨rfl, rfl⟩)
      go_ret
      exact ⟨rfl, rfl⟩
    · rw [show cmpZ x y = 0 by unfold cmpZ; rw [if_neg h, if_neg h2]]
      go_enter Tryz.func125, Tryz.ntmps125
      go_wp2_with (go_at_call 173; refine (isNaN_int _ _).mono ?_; rintro e w' ⟨rfl, rfl⟩)
      go_ret
      exact ⟨rfl, rfl⟩
set_option maxHeartbeats 2000000 in
theorem compareI_spec (A : Option Addr) (xs : List Int) (c : Nat) (A' : Option Addr) (ys : List Int) (c' : Nat) (w : World) (hm : xs.length ≤ big) (hs : Sl intE w A xs) (hm' : ys.length ≤ big) (hs' : Sl intE w A' ys) :
    Calls Tryz.prog 57 #[.slice A xs.length c, .slice A' ys.length c'] w fun e w' => e = .returned (iv (cmpLI xs ys)) ∧ Below w.heap.size w w' := by
  unfold big at hm hm'
  go_enter Tryz.func57, Tryz.ntmps57
  go_wp2_with fail
  go_loopw [5, 6, 7, 8, 11] (fun _ _ _ _ i wr => ∃ k : Nat, k ≤ xs.length ∧ k ≤ ys.length ∧ i = iv k ∧ Hid (cmpLI xs ys = cmpLI (xs.drop k) (ys.drop k)) ∧ Below w.heap.size w wr) (fun _ _ _ _ i _ => xs.length - (intOf i).toNat)
  case atStart => exact ⟨0, by omega, by omega, rfl, rfl, Below.refl _ _⟩
  case round =>
    obtain ⟨k, hk, hk2, rfl, hf, hbw⟩ := hrel
    by_cases hlt : k < xs.length
    · have hki : (k : Int) < (xs.length : Int) := by omega
      obtain ⟨ba, oa, x, rfl, hba, hx, hcx⟩ := Sl.atI (hs.below hbw) hlt
      by_cases hlt2 : k < ys.length
      · have hkj : ¬ (ys.length : Int) ≤ (k : Int) := by omega
        have hkl : (k : Int) < (ys.length : Int) := by omega
        obtain ⟨bb, ob, y, rfl, hbb, hy, hcy⟩ := Sl.atI (hs'.below hbw) hlt2
        have hf2 := hf.out
        rw [drop_at hx, drop_at hy] at hf2
        simp only [cmpLI] at hf2
        have hcz := cmpI_spec x y wr
        have hzb := cmpZ_bounds x y
        obtain ⟨z, hz⟩ : ∃ z, z = cmpZ x y := ⟨_, rfl⟩
        rw [← hz] at hcz hf2 hzb
        have HC := Lib.hid hcz
        by_cases hz0 : z = 0
        · subst hz0
          rw [if_pos rfl] at hf2
          have HF := Lib.hid hf2
          clear hf hf2 hx hy hcz hz
          go_wp2_with fail
          refine HC.out.mono ?_
          rintro e w1 ⟨rfl, rfl⟩
          go_wp2_with fail
          go_roundw
          case rel => exact ⟨k + 1, by omega, by omega, by go_num, HF, hbw⟩
          case measure => simp [intOf]; omega
        · rw [if_neg hz0] at hf2
          have hz0' : (z != 0) = true := by simpa using hz0
          have HF := Lib.hid hf2
          clear hf hf2 hx hy hcz hz hz0
          go_wp2_with fail
          refine HC.out.mono ?_
          rintro e w1 ⟨rfl, rfl⟩
          go_wp2_with fail
          go_ret
          exact ⟨by rw [HF.out]; rfl, hbw⟩
      · have hkj : (ys.length : Int) ≤ (k : Int) := by omega
        have hf2 := hf.out
        rw [drop_at hx, List.drop_of_length_le (show ys.length ≤ k by omega)] at hf2
        simp only [cmpLI] at hf2
        have HF := Lib.hid hf2
        clear hf hf2 hx
        go_wp2_with fail
        go_ret
        exact ⟨by rw [HF.out]; rfl, hbw⟩
    · have hki : ¬ (k : Int) < (xs.length : Int) := by omega
      have hf2 := hf.out
      rw [List.drop_of_length_le (show xs.length ≤ k by omega)] at hf2
      by_cases hlt2 : xs.length < ys.length
      · have hll : (xs.length : Int) < (ys.length : Int) := by omega
        obtain ⟨y, hy⟩ : ∃ y, ys[k]? = some y := ⟨_, List.getElem?_eq_getElem (by omega)⟩
        rw [drop_at hy] at hf2
        simp only [cmpLI] at hf2
        have HF := Lib.hid hf2
        clear hf hf2 hy
        go_wp2_with fail
        go_ret
        exact ⟨by rw [HF.out]; rfl, hbw⟩
      · have hll : ¬ (xs.length : Int) < (ys.length : Int) := by omega
        rw [List.drop_of_length_le (show ys.length ≤ k by omega)] at hf2
        simp only [cmpLI] at hf2
        have HF := Lib.hid hf2
        clear hf hf2
        go_wp2_with fail
        go_ret
        exact ⟨by rw [HF.out]; rfl, hbw⟩
theorem cmpZN (x y : Nat) : cmpZ (x : Int) (y : Int) = File.cmpN x y := by
  unfold cmpZ File.cmpN
  split <;> split <;> (try split) <;> (try split) <;> omega
theorem cmpLP (p q : Nat × Nat) : cmpLI [(p.1 : Int), (p.2 : Int)] [(q.1 : Int), (q.2 : Int)] = File.cmpP p q := by
  simp only [cmpLI, cmpZN, File.cmpP]
  by_cases h : File.cmpN p.1 q.1 = 0
  · simp [h]
    exact fun e => e.symm
  · simp [h]
set_option maxHeartbeats 2000000 in
theorem short1_spec (p q : Nat × Nat) (w : World) : Calls Tryz.prog 56 #[.agg #[iv (p.1 : Int), iv (p.2 : Int)], .agg #[iv (q.1 : Int), iv (q.2 : Int)]] w fun e w' => e = .returned (iv (File.cmpP p q)) ∧ Below w.heap.size w w' := by
  have hb1 : Below w.heap.size w (w.alloc (.cells #[iv (p.1 : Int), iv (p.2 : Int)] 83)) := (Below.refl _ _).alloc (Nat.le_refl _) _
  have hS1 := Sl.fresh intE w 83 #[iv (p.1 : Int), iv (p.2 : Int)] [(p.1 : Int), (p.2 : Int)] rfl (by simp [maxLen])
  have hS2 := Sl.fresh intE (w.alloc (.cells #[iv (p.1 : Int), iv (p.2 : Int)] 83)) 83 #[iv (q.1 : Int), iv (q.2 : Int)] [(q.1 : Int), (q.2 : Int)] rfl (by simp [maxLen])
  have hb2 : Below (w.alloc (.cells #[iv (p.1 : Int), iv (p.2 : Int)] 83)).heap.size (w.alloc (.cells #[iv (p.1 : Int), iv (p.2 : Int)] 83)) ((w.alloc (.cells #[iv (p.1 : Int), iv (p.2 : Int)] 83)).alloc (.cells #[iv (q.1 : Int), iv (q.2 : Int)] 83)) := (Below.refl _ _).alloc (Nat.le_refl _) _
  have hS1 := hS1.below hb2
  have hb02 := hb1.next hb2 (Nat.le_refl _)
  have hsz : (w.alloc (.cells #[iv (p.1 : Int), iv (p.2 : Int)] 83)).heap.size = w.heap.size + 1 := by simp
  rw [hsz] at hS2
  have hB1 : Blk ((w.alloc (.cells #[iv (p.1 : Int), iv (p.2 : Int)] 83)).alloc (.cells #[iv (q.1 : Int), iv (q.2 : Int)] 83)) w.heap.size 83 #[iv (p.1 : Int), iv (p.2 : Int)] := (Blk.new _ _ _).alloc _
  have hB2 : Blk ((w.alloc (.cells #[iv (p.1 : Int), iv (p.2 : Int)] 83)).alloc (.cells #[iv (q.1 : Int), iv (q.2 : Int)] 83)) (w.heap.size + 1) 83 #[iv (q.1 : Int), iv (q.2 : Int)] := by rw [← hsz]; exact Blk.new _ _ _
  have hcp := cmpLP p q
  obtain ⟨cv, hcv⟩ : ∃ cv, cv = File.cmpP p q := ⟨_, rfl⟩
  rw [← hcv] at hcp ⊢
  go_enter Tryz.func56, Tryz.ntmps56
  go_upto_region 1 with fail
  generalize (w.alloc (.cells #[iv (p.1 : Int), iv (p.2 : Int)] 83)).alloc (.cells #[iv (q.1 : Int), iv (q.2 : Int)] 83) = w2 at *
  have HC := Lib.hid fun W (h : Below w2.heap.size w2 W) => compareI_spec (some ⟨w.heap.size, 0, none⟩) [(p.1 : Int), (p.2 : Int)] 2 (some ⟨w.heap.size + 1, 0, none⟩) [(q.1 : Int), (q.2 : Int)] 2 W (by simp [big]) (hS1.below h) (by simp [big]) (hS2.below h)
  rw [hcp] at HC
  have l1 := hB1.lt
  have l2 := hB2.lt
  clear hcp hsz hS1 hS2 hcv
  refine wp_free_lit (by kernel_rfl) 4 (by kernel_rfl) (by kernel_rfl) (by decide) (fun nR x => Below w2.heap.size w2 x) (fun x x' => Below x.heap.size x x')
    [fun _ u _ => u = .slice (some ⟨w.heap.size, 0, none⟩) 2 2,
     fun _ u _ => u = .slice (some ⟨w.heap.size + 1, 0, none⟩) 2 2,
     fun _ u _ => u = iv cv,
     fun _ u _ => u = iv cv]
    (Below.refl _ w2).drew ?_ ?_
  · simp only [List.take_succ_cons, List.take_zero, HopL]
    refine ⟨?_, ?_, ?_, ?_, trivial⟩
    · refine ⟨fun _ _ _ _ _ h => h, fun _ _ _ _ h _ => h, fun v nR x hnR hR hk => ?_⟩
      have l1 := Nat.lt_of_lt_of_le l1 hR.size
      have b1 := hB1.under hR
      simp only [List.take_succ_cons, List.take_zero, frameF, Act.put, List.setIfInBounds_toArray, List.set_cons_zero, List.set_cons_succ]
      exact stepF_val (by first | rfl | simp [Region.wanted, yielded, *]) (by go_simp <;> omega) ⟨rfl, Below.refl _ _, hR⟩
    · refine ⟨fun _ _ _ _ _ h => h, fun _ _ _ _ h _ => h, fun v nR x hnR hR hk => ?_⟩
      have l2 := Nat.lt_of_lt_of_le l2 hR.size
      have b2 := hB2.under hR
      simp only [List.take_succ_cons, List.take_zero, frameF, Act.put, List.setIfInBounds_toArray, List.set_cons_zero, List.set_cons_succ]
      exact stepF_val (by first | rfl | simp [Region.wanted, yielded, *]) (by go_simp <;> omega) ⟨rfl, Below.refl _ _, hR⟩
    · refine ⟨fun _ _ _ _ _ h => h, fun _ _ _ _ h _ => h, fun v nR x hnR hR hk => ?_⟩
      have h0 : v 0 = .slice (some ⟨w.heap.size, 0, none⟩) 2 2 := hk 0 (by kernel_rfl)
      have h1 : v 1 = .slice (some ⟨w.heap.size + 1, 0, none⟩) 2 2 := hk 1 (by kernel_rfl)
      simp only [List.take_succ_cons, List.take_zero, frameF, Act.put, List.setIfInBounds_toArray, List.set_cons_zero, List.set_cons_succ]
      refine stepF_call (by first | rfl | simp [Region.wanted, yielded, *]) (by go_simp) (HC.out x hR) ?_
      rintro e x' ⟨rfl, hb⟩
      exact ⟨_, rfl, rfl, hb, hR.next hb (Nat.le_refl _)⟩
    · refine ⟨fun _ _ _ _ _ h => h, fun _ _ _ _ h _ => h, fun v nR x hnR hR hk => ?_⟩
      have h2 : v 2 = iv cv := hk 2 (by kernel_rfl)
      simp only [List.take_succ_cons, List.take_zero, frameF, Act.put, List.setIfInBounds_toArray, List.set_cons_zero, List.set_cons_succ]
      exact stepF_val (by first | rfl | simp [Region.wanted, yielded, *]) (by go_simp <;> omega) ⟨rfl, Below.refl _ _, hR⟩
  · intro v nR x1 hnR hR hall
    have h3 : v 3 = iv cv := hall 3 (by decide)
    clear hall hnR
    simp only [List.drop_succ_cons, List.drop_zero, List.take_succ_cons, List.take_zero, frameF, Act.put, List.setIfInBounds_toArray, List.set_cons_zero, List.set_cons_succ, Nat.zero_add, Nat.reduceAdd, h3]
    go_wp2_with fail
    go_ret
    exact ⟨rfl, hb02.next hR (Nat.le_refl _)⟩
set_option maxHeartbeats 4000000 in
theorem cmpFn_spec (A : Option Addr) (xs : List (Nat × Nat)) (c : Nat) (A' : Option Addr) (ys : List (Nat × Nat)) (c' : Nat) (w : World) (hm : xs.length ≤ big) (hs : Sl pairE w A xs) (hm' : ys.length ≤ big) (hs' : Sl pairE w A' ys) :
    Calls Tryz.prog 55 #[.slice A xs.length c, .slice A' ys.length c', .func (.func 56) #[] #[]] w fun e w' => e = .returned (iv (File.cmpL xs ys)) ∧ Below w.heap.size w w' := by
  unfold big at hm hm'
  obtain ⟨R, hR⟩ : ∃ R, R = File.cmpL xs ys := ⟨_, rfl⟩
  rw [← hR]
  have HR := Lib.hid hR.symm
  clear hR
  go_enter Tryz.func55, Tryz.ntmps55
  go_wp2_with fail
  go_loopw [7, 8, 9, 10, 13] (fun _ _ _ _ i wr => ∃ k : Nat, k ≤ xs.length ∧ k ≤ ys.length ∧ i = iv k ∧ Hid (File.cmpL (xs.drop k) (ys.drop k) = R) ∧ Below w.heap.size w wr) (fun _ _ _ _ i _ => xs.length - (intOf i).toNat)
  case atStart => exact ⟨0, Nat.zero_le _, Nat.zero_le _, rfl, HR, Below.refl _ _⟩
  case round =>
    clear HR
    obtain ⟨k, hk, hk2, rfl, hf, hbw⟩ := hrel
    by_cases hlt : k < xs.length
    · have hki : (k : Int) < (xs.length : Int) := by omega
      obtain ⟨ba, oa, p, rfl, hba, hp, hp0, hp1⟩ := Sl.atPr (hs.below hbw) hlt
      by_cases hlt2 : k < ys.length
      · have hkj : ¬ (ys.length : Int) ≤ (k : Int) := by omega
        have hkl : (k : Int) < (ys.length : Int) := by omega
        obtain ⟨bb, ob, q, rfl, hbb, hq, hq0, hq1⟩ := Sl.atPr (hs'.below hbw) hlt2
        have hf2 := hf.out
        rw [drop_at hp, drop_at hq, File.cmpL] at hf2
        have HF := Lib.hid hf2
        have hbA : Below wr.heap.size wr (wr.alloc (.cells #[iv (p.1 : Int), iv (p.2 : Int)] 83)) := (Below.refl _ _).alloc (Nat.le_refl _) _
        have hBA : Blk (wr.alloc (.cells #[iv (p.1 : Int), iv (p.2 : Int)] 83)) wr.heap.size 83 #[iv (p.1 : Int), iv (p.2 : Int)] := Blk.new _ _ _
        clear hf hf2 hp hq
        go_upto_region 4 with fail
        generalize wr.alloc (.cells #[iv (p.1 : Int), iv (p.2 : Int)] 83) = wA at *
        have ge0 := (hbA.cell (p := ⟨bb, ob + k * 2, none⟩) hbb).trans hq0
        have ge1 := (hbA.cell (p := ⟨bb, ob + k * 2 + 1, none⟩) hbb).trans hq1
        clear hp0 hp1 hq0 hq1
        have hbC : Below wA.heap.size wA (wA.alloc (.cells #[iv (q.1 : Int), iv (q.2 : Int)] 83)) := (Below.refl _ _).alloc (Nat.le_refl _) _
        have hBC : Blk (wA.alloc (.cells #[iv (q.1 : Int), iv (q.2 : Int)] 83)) wA.heap.size 83 #[iv (q.1 : Int), iv (q.2 : Int)] := Blk.new _ _ _
        go_upto_region 7 with fail
        generalize wA.alloc (.cells #[iv (q.1 : Int), iv (q.2 : Int)] 83) = wC at *
        have hBA' := hBA.under hbC
        have a0 := hBA'.cell 0
        have a1 := hBA'.cell 1
        have al := hBA'.lt
        have c0 := hBC.cell 0
        have c1 := hBC.cell 1
        have cl := hBC.lt
        have hbwC : Below w.heap.size w wC := (hbw.next hbA (Nat.le_refl _)).next hbC (Nat.le_refl _)
        have HS := Lib.hid (short1_spec p q wC)
        obtain ⟨z, hz⟩ : ∃ z, z = File.cmpP p q := ⟨_, rfl⟩
        rw [← hz] at HS HF
        clear ge0 ge1 hz
        by_cases hz0 : z = 0
        · have hf2 := HF.out
          rw [if_neg (fun e => e hz0)] at hf2
          have HF2 := Lib.hid hf2
          subst hz0
          clear hf2 HF
          go_wp2_with fail
          refine HS.out.mono ?_
          rintro e w2 ⟨rfl, hb2⟩
          go_wp2_with fail
          go_roundw
          case rel => exact ⟨k + 1, by omega, by omega, by go_num, HF2, hbwC.next hb2 (Nat.le_refl _)⟩
          case measure => simp [intOf]; omega
        · have hf2 := HF.out
          rw [if_pos hz0] at hf2
          have HF2 := Lib.hid hf2
          have hz0' : (z != 0) = true := by simpa using hz0
          clear hf2 HF hz0
          go_wp2_with fail
          refine HS.out.mono ?_
          rintro e w2 ⟨rfl, hb2⟩
          go_wp2_with fail
          go_ret
          exact ⟨by rw [← HF2.out]; rfl, hbwC.next hb2 (Nat.le_refl _)⟩
      · have hkj : (ys.length : Int) ≤ (k : Int) := by omega
        have hf2 := hf.out
        rw [drop_at hp, List.drop_of_length_le (show ys.length ≤ k by omega), File.cmpL] at hf2
        have HF := Lib.hid hf2
        clear hf hf2 hp
        go_wp2_with fail
        go_ret
        exact ⟨by rw [← HF.out]; rfl, hbw.next ((Below.refl _ _).alloc (Nat.le_refl _) _) (Nat.le_refl _)⟩
    · have hki : ¬ (k : Int) < (xs.length : Int) := by omega
      have hf2 := hf.out
      rw [List.drop_of_length_le (show xs.length ≤ k by omega)] at hf2
      by_cases hlt2 : xs.length < ys.length
      · have hll : (xs.length : Int) < (ys.length : Int) := by omega
        obtain ⟨y, hy⟩ : ∃ y, ys[k]? = some y := ⟨_, List.getElem?_eq_getElem (by omega)⟩
        rw [drop_at hy, File.cmpL] at hf2
        have HF := Lib.hid hf2
        clear hf hf2 hy
        go_wp2_with fail
        go_ret
        exact ⟨by rw [← HF.out]; rfl, hbw⟩
      · have hll : ¬ (xs.length : Int) < (ys.length : Int) := by omega
        rw [List.drop_of_length_le (show ys.length ≤ k by omega), File.cmpL] at hf2
        have HF := Lib.hid hf2
        clear hf hf2
        go_wp2_with fail
        go_ret
        exact ⟨by rw [← HF.out]; rfl, hbw⟩
theorem fromM1_spec (B : Nat) (w : World) (g k : Nat) (h : IsSpool B w g k) (hk : k < 4611686018427387904) :
    Calls Tryz.prog 38 #[.pointer (some ⟨g, 0, none⟩), .int .i64 (-1), .int .i64 1] w fun e w' => ∃ r : Nat, e = .returned (iv ((r : Int) - 1)) ∧ r ≤ 2 ∧ IsSpool B w' g (k + 1) ∧ Only g w w' := by
  have HU : Hid (Calls Tryz.prog 59 #[.pointer (some ⟨g, 0, none⟩), .int .i64 2] w fun e w' => ∃ r : Nat, e = .returned (iv r) ∧ r ≤ 2 ∧ IsSpool B w' g (k + 1) ∧ Only g w w') := Lib.hid (upto_spec B w g k 2 h hk (by omega))
  go_enter Tryz.func38, Tryz.ntmps38
  go_wp2_with (go_at_call 59; refine HU.out.mono ?_; rintro e w1 ⟨r, rfl, hr, hsp, ho⟩; have hs2 : IntKind.i64.wrap (-1 + (r : Int)) = (r : Int) - 1 := by rw [show (-1 : Int) + (r : Int) = (r : Int) - 1 by omega]; exact IntWalk.i64_in _ (by omega))
  go_ret
  exact ⟨r, rfl, hr, hsp, ho⟩
theorem Own.block {α : Type} {E : Enc α} {e : TypeId} {B : Nat} {w : World} {A : Option Addr} {n c : Nat} {xs : List α} (h : Own E e B w (.slice A n c) xs) (hx : xs ≠ []) : ∃ g, A = some ⟨g, 0, none⟩ := by
  rcases h.2 with ⟨_, hn⟩ | ⟨g, cap, cur, hv, _⟩
  · exact absurd (List.eq_nil_of_length_eq_zero hn) hx
  · injection hv with h1
    exact ⟨g, h1⟩
/-- Rows of n numbers from 0 to M, each in its own block from B on. -/
def RowsIn (B : Nat) (M : Int) (n : Nat) (W : World) (rs : List (Rw Int)) : Prop := ∀ r ∈ rs, r.xs.length = n ∧ (∀ z ∈ r.xs, 0 ≤ z ∧ z ≤ M) ∧ Own intE 3 B W (.slice r.A r.xs.length r.c) r.xs ∧ r.xs.length ≤ r.c
def Rw.key {α : Type} (r : Rw α) : Option Addr × Nat × Nat := (r.A, r.xs.length, r.c)
theorem rows_set {B n g o : Nat} {M M' z : Int} {W : World} (ho : o < n) (hz : 0 ≤ z ∧ z ≤ M') (hM : M ≤ M') : ∀ {rs : List (Rw Int)}, RowsIn B M n W rs → ∃ rs' : List (Rw Int), rs'.map Rw.key = rs.map Rw.key ∧ RowsIn B M' n (W.setCell ⟨g, o, none⟩ (iv z)) rs'
  | [], _ => ⟨[], rfl, fun _ h => by cases h⟩
  | r :: rs, h => by
    obtain ⟨rs', h1, h2⟩ := rows_set (g := g) (W := W) ho hz hM (fun x hx => h x (List.mem_cons_of_mem _ hx))
    obtain ⟨a1, a2, a3, a4⟩ := h r (by simp)
    obtain ⟨A, c, xs⟩ := r
    simp only at a1 a2 a3 a4
    have hne : xs ≠ [] := fun e => by rw [e] at a1; exact absurd (show n = 0 from a1.symm) (by omega)
    obtain ⟨g', hg'⟩ := Own.block a3 hne
    subst hg'
    by_cases hgg : g' = g
    · subst hgg
      have hx : xs[o]? = some xs[o] := List.getElem?_eq_getElem (by omega)
      have hs := Own.setAt a3 (k := o) (j := 0) (x := xs[o]) (y := z) (u := iv z) hx rfl (by decide)
      rw [show o * intE.sz + 0 = o by simp [intE]] at hs
      refine ⟨⟨some ⟨g', 0, none⟩, c, xs.set o z⟩ :: rs', by simp [Rw.key, List.map_cons, h1], fun x hx => ?_⟩
      rcases List.mem_cons.1 hx with rfl | hx
      · refine ⟨by simpa using a1, fun y hy => ?_, by simpa using hs, by simpa using a4⟩
        rcases List.mem_or_eq_of_mem_set hy with hy | rfl
        · have := a2 y hy; omega
        · exact hz
      · exact h2 x hx
    · refine ⟨⟨some ⟨g', 0, none⟩, c, xs⟩ :: rs', by rw [List.map_cons, List.map_cons, h1], fun x hx => ?_⟩
      rcases List.mem_cons.1 hx with rfl | hx
      · refine ⟨a1, fun y hy => by have := a2 y hy; omega, a3.keep (by simp [World.setCell]) fun b hb => Below.heap_setCell _ _ _ _ ?_, a4⟩
        simp only [Value.ownBlock, Option.some.injEq] at hb
        subst hb
        exact hgg
      · exact h2 x hx
theorem rows_key {rs rs' : List (Rw Int)} (h : rs'.map Rw.key = rs.map Rw.key) : rs'.flatMap (rwE Int).cells = rs.flatMap (rwE Int).cells ∧ rs'.length = rs.length := by
  have e : ∀ l : List (Rw Int), l.flatMap (rwE Int).cells = (l.map Rw.key).flatMap fun k => [Value.slice k.1 k.2.1 k.2.2] := by
    intro l
    induction l with
    | nil => rfl
    | cons r l ih => simp only [List.flatMap_cons, List.map_cons, ih]; rfl
  exact ⟨by rw [e, e, h], by have := congrArg List.length h; simpa using this⟩
theorem Own.rekey {e : TypeId} {B : Nat} {w : World} {v : Value} {rs rs' : List (Rw Int)} (h : Own (rwE Int) e B w v rs) (hk : rs'.map Rw.key = rs.map Rw.key) : Own (rwE Int) e B w v rs' := by
  obtain ⟨h1, h2⟩ := rows_key hk
  unfold Own at h ⊢
  rw [h1, h2]
  exact h
theorem RowsIn.only {B n gq : Nat} {M : Int} {W W' : World} {rs : List (Rw Int)} (h : RowsIn B M n W rs) (hg : gq < B) (ho : Only gq W W') : RowsIn B M n W' rs := fun r hr => by
  obtain ⟨h1, h2, h3, h4⟩ := h r hr
  exact ⟨h1, h2, h3.keep ho.below.size fun b hb => ho.other b (h3.lt b hb).2 (by have := (h3.lt b hb).1; omega), h4⟩
theorem ownOnly {α : Type} {E : Enc α} {e : TypeId} {B gq : Nat} {W W' : World} {v : Value} {xs : List α} (h : Own E e B W v xs) (hg : gq < B) (ho : Only gq W W') : Own E e B W' v xs :=
  h.keep ho.below.size fun b hb => ho.other b (h.lt b hb).2 (by have := (h.lt b hb).1; omega)
theorem levs_in {a b : List ByteArray} {row : List Int} (h : row ∈ File.levs a b) : row.length = b.length ∧ ∀ z ∈ row, 0 ≤ z ∧ z ≤ (a.length : Int) := by
  obtain ⟨i, hi, rfl⟩ := List.mem_map.1 h
  have hi := List.mem_range.1 hi
  refine ⟨File.rowL_len a b i, fun z hz => ?_⟩
  obtain ⟨j, _, rfl⟩ := List.mem_map.1 hz
  unfold File.lev
  have := File.pre_le a b i j
  split <;> omega
end Fl
end Go.Proofs.YtekkhnjepcebkaaGreatDoor
