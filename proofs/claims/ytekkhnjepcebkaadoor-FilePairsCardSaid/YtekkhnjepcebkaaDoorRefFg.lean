/- The reference of layer 11: Alike, Bound. Conditions: few lines. -/
import Derived.Test.YtekkhnjepcebkaaDoorRefFf
import Derived.Test.YtekkhnjepcebkaaDoorFileRefB
set_option linter.unusedVariables false
set_option linter.unusedSimpArgs false
namespace Go.Proofs.YtekkhnjepcebkaaDoor
namespace File
/-- A fraction that is made shorter by trying numbers from above. -/
def Red (p q k x y : Nat) : Prop := (Nat.gcd p q ≤ k ∧ x = p ∧ y = q) ∨ (k < Nat.gcd p q ∧ x = p / Nat.gcd p q ∧ y = q / Nat.gcd p q)
theorem Red.yes {p q k x y : Nat} (hp : 0 < p) (h1 : 1 < k) (h : Red p q k x y) (hx : x % k = 0) (hy : y % k = 0) : Red p q (k - 1) (x / k) (y / k) := by
  have hg : 0 < Nat.gcd p q := Nat.gcd_pos_of_pos_left _ hp
  rcases h with ⟨hk, rfl, rfl⟩ | ⟨hk, rfl, rfl⟩
  · have hd : k ∣ Nat.gcd x y := Nat.dvd_gcd (Nat.dvd_of_mod_eq_zero hx) (Nat.dvd_of_mod_eq_zero hy)
    have := Nat.le_of_dvd hg hd
    have e : Nat.gcd x y = k := by omega
    exact .inr ⟨by omega, by rw [e], by rw [e]⟩
  · have h1 : Nat.gcd p q * k ∣ p := Nat.mul_dvd_of_dvd_div (Nat.gcd_dvd_left _ _) (Nat.dvd_of_mod_eq_zero hx)
    have h2 : Nat.gcd p q * k ∣ q := Nat.mul_dvd_of_dvd_div (Nat.gcd_dvd_right _ _) (Nat.dvd_of_mod_eq_zero hy)
    have h3 := Nat.le_of_dvd hg (Nat.dvd_gcd h1 h2)
    have h4 := Nat.mul_le_mul_left (Nat.gcd p q) (show 2 ≤ k by omega)
    omega
theorem Red.no {p q k x y : Nat} (hp : 0 < p) (h : Red p q k x y) (hn : ¬ (x % k = 0 ∧ y % k = 0)) : Red p q (k - 1) x y := by
  rcases h with ⟨hk, rfl, rfl⟩ | ⟨hk, h1, h2⟩
  · refine .inl ⟨?_, rfl, rfl⟩
    have : Nat.gcd x y ≠ k := fun e => hn ⟨by rw [← e]; exact Nat.mod_eq_zero_of_dvd (Nat.gcd_dvd_left _ _), by rw [← e]; exact Nat.mod_eq_zero_of_dvd (Nat.gcd_dvd_right _ _)⟩
    omega
  · exact .inr ⟨by omega, h1, h2⟩
theorem Red.done {p q k x y : Nat} (hp : 0 < p) (h : Red p q k x y) (hk : ¬ 1 < k) : x = p / Nat.gcd p q ∧ y = q / Nat.gcd p q := by
  have hg : 0 < Nat.gcd p q := Nat.gcd_pos_of_pos_left _ hp
  rcases h with ⟨h1, rfl, rfl⟩ | ⟨_, h1, h2⟩
  · have e : Nat.gcd x y = 1 := by omega
    rw [e, Nat.div_one, Nat.div_one]
    exact ⟨rfl, rfl⟩
  · exact ⟨h1, h2⟩
end File
namespace Fl
open Go.RowKit
set_option maxRecDepth 100000
set_option maxHeartbeats 8000000 in
theorem ralike_spec (A : Option Addr) (a : List ByteArray) (c : Nat) (A' : Option Addr) (b : List ByteArray) (c' : Nat) (w : World) (ha : a.length ≤ 24) (hb : b.length ≤ 24) (he : errOf a b = 0) (hsa : Sl strE w A a) (hsb : Sl strE w A' b) :
    Calls Tryd.prog 12 #[.slice A a.length c, .slice A' b.length c'] w fun e w' => e = .returned (.tuple #[.agg #[iv (alikeOf a b).1, iv (alikeOf a b).2.1], iv (alikeOf a b).2.2]) ∧ Below w.heap.size w w' := by
  have hR : Below w.heap.size w (w.alloc (.cells #[Value.int .i64 0, Value.int .i64 0] 35)) := (Below.refl _ _).alloc (Nat.le_refl _) _
  have hRb : Blk (w.alloc (.cells #[Value.int .i64 0, Value.int .i64 0] 35)) w.heap.size 35 #[iv 0, iv 0] := Blk.new _ _ _
  have HM := Lib.hid (most_spec A a c A' b c' (w.alloc (.cells #[Value.int .i64 0, Value.int .i64 0] 35)) ha hb (hsa.below hR) (hsb.below hR))
  have hF24 : File.lcs a b ≤ 24 := Nat.le_trans (File.lcs_most _ _) ha
  have hlc := File.common_length a b
  obtain ⟨F, hF⟩ : ∃ F, F = File.lcs a b := ⟨_, rfl⟩
  obtain ⟨⟨t1, t2, t3⟩, hT⟩ : ∃ T, T = alikeOf a b := ⟨_, rfl⟩
  rw [← hT]
  unfold alikeOf at hT
  rw [if_pos he, hlc, ← hF] at hT
  rw [← hF] at hF24 HM
  simp only
  by_cases hF0 : F = 0
  · subst hF0
    have HM : Hid (Calls Tryd.prog 36 #[.slice A a.length c, .slice A' b.length c'] (w.alloc (.cells #[Value.int .i64 0, Value.int .i64 0] 35)) fun e w' => e = .returned (iv 0) ∧ Below (w.alloc (.cells #[Value.int .i64 0, Value.int .i64 0] 35)).heap.size (w.alloc (.cells #[Value.int .i64 0, Value.int .i64 0] 35)) w') := HM
    obtain ⟨q, hqq⟩ : ∃ q, q = a.length + b.length := ⟨_, rfl⟩
    have hqi : (a.length : Int) + (b.length : Int) = (q : Int) := by omega
    have ewq : IntKind.i64.wrap (q : Int) = (q : Int) := IntWalk.i64_in _ (by omega)
    rw [← hqq] at hT
    have hsz : w.heap.size < (w.alloc (.cells #[Value.int .i64 0, Value.int .i64 0] 35)).heap.size := by simp
    by_cases hz : q = 0
    · rw [if_pos hz] at hT
      injection hT with e1 hT
      injection hT with e2 e3
      subst e1 e2 e3
      have hqz : ((q : Int) == 0) = true := by simp; omega
      clear hz hF hqq hlc he
      go_enter Tryd.func12, Tryd.ntmps12
      go_wp2_with fail
      refine HM.out.mono ?_
      rintro e w1 ⟨rfl, hb1⟩
      have hb2 := hR.next hb1 (Nat.le_refl _)
      have HB1 := Lib.hid (hRb.under hb1)
      have r0 := (hRb.under hb1).cell 0
      have r1 := (hRb.under hb1).cell 1
      have f0 := (hRb.under hb1).frozen 0
      have f1 := (hRb.under hb1).frozen 1
      have hl1 := (hRb.under hb1).lt
      go_wp2_with fail
      exact bodyPost_ret (results_row_tmp (fn := Tryd.f12) (p := 4) (u := 5) (ty := 35) (by kernel_rfl) _ _ w.heap.size _ (by rfl) (ratio_row ((HB1.out.set_ 0 (iv 0)).set_ 1 (iv 0)))) rfl ⟨rfl, (hb2.setCell (p := ⟨w.heap.size, 0, none⟩) (Nat.le_refl _) _).setCell (p := ⟨w.heap.size, 1, none⟩) (Nat.le_refl _) _⟩
    · rw [if_neg hz] at hT
      injection hT with e1 hT
      injection hT with e2 e3
      have hgo : (2 * 0 / Nat.gcd (2 * 0) q : Nat) = 0 ∧ (q / Nat.gcd (2 * 0) q : Nat) = 1 := by
        simp
        exact Nat.div_self (by omega)
      rw [hgo.1] at e1
      rw [hgo.2] at e2
      replace e1 : t1 = 0 := e1
      replace e2 : t2 = 1 := e2
      subst e1 e2 e3
      have hqz : ((q : Int) == 0) = false := by simp; omega
      clear hz hF hqq hlc he hgo
      go_enter Tryd.func12, Tryd.ntmps12
      go_wp2_with fail
      refine HM.out.mono ?_
      rintro e w1 ⟨rfl, hb1⟩
      have hb2 := hR.next hb1 (Nat.le_refl _)
      have HB1 := Lib.hid (hRb.under hb1)
      have r0 := (hRb.under hb1).cell 0
      have r1 := (hRb.under hb1).cell 1
      have f0 := (hRb.under hb1).frozen 0
      have f1 := (hRb.under hb1).frozen 1
      have hl1 := (hRb.under hb1).lt
      go_wp2_with fail
      exact bodyPost_ret (results_row_tmp (fn := Tryd.f12) (p := 4) (u := 5) (ty := 35) (by kernel_rfl) _ _ w.heap.size _ (by rfl) (ratio_row ((HB1.out.set_ 0 (iv 0)).set_ 1 (iv 1)))) rfl ⟨rfl, (hb2.setCell (p := ⟨w.heap.size, 0, none⟩) (Nat.le_refl _) _).setCell (p := ⟨w.heap.size, 1, none⟩) (Nat.le_refl _) _⟩
  have ew1 : IntKind.i64.wrap (2 * (F : Int)) = 2 * (F : Int) := IntWalk.i64_in _ (by omega)
  have ew2 : IntKind.i64.wrap ((a.length : Int) + (b.length : Int)) = (a.length : Int) + (b.length : Int) := IntWalk.i64_in _ (by omega)
  have hsz : w.heap.size < (w.alloc (.cells #[Value.int .i64 0, Value.int .i64 0] 35)).heap.size := by simp
  clear hlc he
  go_enter Tryd.func12, Tryd.ntmps12
  go_wp2_with fail
  refine HM.out.mono ?_
  rintro e w1 ⟨rfl, hb1⟩
  have hb2 := hR.next hb1 (Nat.le_refl _)
  have HB1 := Lib.hid (hRb.under hb1)
  have r0 := (hRb.under hb1).cell 0
  have r1 := (hRb.under hb1).cell 1
  have f0 := (hRb.under hb1).frozen 0
  have f1 := (hRb.under hb1).frozen 1
  have hl1 := (hRb.under hb1).lt
  by_cases hz : a.length + b.length = 0
  · rw [if_pos hz] at hT
    injection hT with e1 hT
    injection hT with e2 e3
    subst e1 e2 e3
    have hq : ((a.length : Int) + b.length == 0) = true := by simp; omega
    clear hz
    go_wp2_with fail
    exact bodyPost_ret (results_row_tmp (fn := Tryd.f12) (p := 4) (u := 5) (ty := 35) (by kernel_rfl) _ _ w.heap.size _ (by rfl) (ratio_row ((HB1.out.set_ 0 (iv 0)).set_ 1 (iv 0)))) rfl ⟨rfl, (hb2.setCell (p := ⟨w.heap.size, 0, none⟩) (Nat.le_refl _) _).setCell (p := ⟨w.heap.size, 1, none⟩) (Nat.le_refl _) _⟩
  · rw [if_neg hz] at hT
    injection hT with e1 hT
    injection hT with e2 e3
    subst e3
    have hq : ((a.length : Int) + b.length == 0) = false := by simp; omega
    obtain ⟨p, hp⟩ : ∃ p, p = 2 * F := ⟨_, rfl⟩
    obtain ⟨q, hqq⟩ : ∃ q, q = a.length + b.length := ⟨_, rfl⟩
    have hpi : 2 * (F : Int) = (p : Int) := by omega
    have hqi : (a.length : Int) + (b.length : Int) = (q : Int) := by omega
    rw [← hp, ← hqq] at e1 e2
    rw [hpi] at ew1
    rw [hqi] at ew2 hq
    have hp0 : ¬ p = 0 := by omega
    have hq2 : ((p : Int) == 0) = false := by simp; omega
    have HE1 := Lib.hid e1
    have HE2 := Lib.hid e2
    clear e1 e2
    have hpp : 0 < p := by omega
    have hp48 : p ≤ 48 := by omega
    have hq48 : q ≤ 48 := by omega
    clear hz hF hp hqq hp0
    go_upto_region 7 with fail
    go_loopw [6, 7, 8] (fun u v z wr => ∃ x y k : Nat, x ≤ 48 ∧ y ≤ 48 ∧ k ≤ 48 ∧ u = iv (x : Int) ∧ v = iv (y : Int) ∧ z = iv (k : Int) ∧ Hid (File.Red p q k x y) ∧ Below w1.heap.size w1 wr) (fun _ _ z _ => (intOf z).toNat)
    case atStart => exact ⟨p, q, p, hp48, hq48, hp48, by first | rfl | rw [hpi], by first | rfl | rw [hqi], by first | rfl | rw [hpi], Lib.hid (.inl ⟨Nat.le_of_dvd hpp (Nat.gcd_dvd_left _ _), rfl, rfl⟩), Below.refl _ _⟩
    case round =>
      obtain ⟨x2, y2, k, hx, hy, hk, rfl, rfl, rfl, HR, hbr⟩ := hrel
      by_cases hlt : 1 < k
      · have hki : (1 : Int) < (k : Int) := by omega
        have hk0 : ¬ ((k : Int) = 0) := by omega
        have hkq : ((k : Int) == 0) = false := by simp; omega
        have hm1 : Int.tmod (x2 : Int) (k : Int) = ((x2 % k : Nat) : Int) := by rw [Int.tmod_eq_emod_of_nonneg (by omega)]; rfl
        have hm2 : Int.tmod (y2 : Int) (k : Int) = ((y2 % k : Nat) : Int) := by rw [Int.tmod_eq_emod_of_nonneg (by omega)]; rfl
        have hd1 : Int.tdiv (x2 : Int) (k : Int) = ((x2 / k : Nat) : Int) := by rw [Int.tdiv_eq_ediv_of_nonneg (by omega)]; rfl
        have hd2 : Int.tdiv (y2 : Int) (k : Int) = ((y2 / k : Nat) : Int) := by rw [Int.tdiv_eq_ediv_of_nonneg (by omega)]; rfl
        obtain ⟨r1', hr1⟩ : ∃ r, r = x2 % k := ⟨_, rfl⟩
        obtain ⟨r2', hr2⟩ : ∃ r, r = y2 % k := ⟨_, rfl⟩
        have hxd : x2 / k ≤ 48 := Nat.le_trans (Nat.div_le_self _ _) hx
        have hyd : y2 / k ≤ 48 := Nat.le_trans (Nat.div_le_self _ _) hy
        obtain ⟨d1, hd1e⟩ : ∃ d, d = x2 / k := ⟨_, rfl⟩
        obtain ⟨d2, hd2e⟩ : ∃ d, d = y2 / k := ⟨_, rfl⟩
        rw [← hr1] at hm1
        rw [← hr2] at hm2
        rw [← hd1e] at hd1 hxd
        rw [← hd2e] at hd2 hyd
        have hrl1 : r1' < k := by rw [hr1]; exact Nat.mod_lt _ (by omega)
        have hrl2 : r2' < k := by rw [hr2]; exact Nat.mod_lt _ (by omega)
        have HE := Lib.hid (And.intro hr1 (And.intro hr2 (And.intro hd1e hd2e)))
        have ewr1 : IntKind.i64.wrap (r1' : Int) = (r1' : Int) := IntWalk.i64_in _ (by omega)
        have ewr2 : IntKind.i64.wrap (r2' : Int) = (r2' : Int) := IntWalk.i64_in _ (by omega)
        have ewd1 : IntKind.i64.wrap (d1 : Int) = (d1 : Int) := IntWalk.i64_in _ (by omega)
        have ewd2 : IntKind.i64.wrap (d2 : Int) = (d2 : Int) := IntWalk.i64_in _ (by omega)
        have ewk : IntKind.i64.wrap ((k : Int) - 1) = (k : Int) - 1 := IntWalk.i64_in _ (by omega)
        clear hr1 hr2 hd1e hd2e r0 r1 f0 f1
        by_cases h1 : r1' = 0
        · have hz1 : ((r1' : Int) == 0) = true := by simp; omega
          by_cases h2 : r2' = 0
          · have hz2 : ((r2' : Int) == 0) = true := by simp; omega
            have HN : Hid (File.Red p q (k - 1) d1 d2) := Lib.hid (by
              obtain ⟨e1, e2, e3, e4⟩ := HE.out
              rw [e3, e4]
              exact HR.out.yes hpp hlt (by omega) (by omega))
            clear h1 h2
            go_upto_region 10 with fail
            refine wp_free_lit (by kernel_rfl) 8 (by kernel_rfl) (by kernel_rfl) (by decide) (fun _ x => Below wr.heap.size wr x) (fun x x' => Below x.heap.size x x')
              [fun _ u _ => u = iv (x2 : Int),
               fun _ u _ => u = iv (k : Int),
               fun _ u _ => u = iv (d1 : Int),
               fun _ u _ => u = iv (y2 : Int),
               fun _ u _ => u = iv (k : Int),
               fun _ u _ => u = iv (d2 : Int),
               fun _ u _ => u = iv (d1 : Int),
               fun _ u _ => u = iv (d2 : Int)]
              (Below.refl _ wr).drew ?_ ?_
            · simp only [List.take_succ_cons, List.take_zero, HopL]
              refine ⟨?_, ?_, ?_, ?_, ?_, ?_, ?_, ?_, trivial⟩
              · refine ⟨fun _ _ _ _ _ h => h, fun _ _ _ _ h _ => h, fun v nR x hnR hR hk => ?_⟩
                simp only [List.take_succ_cons, List.take_zero, frameF, Act.put, List.setIfInBounds_toArray, List.set_cons_zero, List.set_cons_succ]
                exact stepF_val (by first | rfl | simp [Region.wanted, yielded, *]) (by go_simp <;> omega) ⟨rfl, Below.refl _ _, hR⟩
              · refine ⟨fun _ _ _ _ _ h => h, fun _ _ _ _ h _ => h, fun v nR x hnR hR hk => ?_⟩
                simp only [List.take_succ_cons, List.take_zero, frameF, Act.put, List.setIfInBounds_toArray, List.set_cons_zero, List.set_cons_succ]
                exact stepF_val (by first | rfl | simp [Region.wanted, yielded, *]) (by go_simp <;> omega) ⟨rfl, Below.refl _ _, hR⟩
              · refine ⟨fun _ _ _ _ _ h => h, fun _ _ _ _ h _ => h, fun v nR x hnR hR hk => ?_⟩
                have h0 : v 0 = iv (x2 : Int) := hk 0 (by kernel_rfl)
                have h1 : v 1 = iv (k : Int) := hk 1 (by kernel_rfl)
                simp only [List.take_succ_cons, List.take_zero, frameF, Act.put, List.setIfInBounds_toArray, List.set_cons_zero, List.set_cons_succ]
                exact stepF_val (by first | rfl | simp [Region.wanted, yielded, *]) (by go_simp <;> omega) ⟨rfl, Below.refl _ _, hR⟩
              · refine ⟨fun _ _ _ _ _ h => h, fun _ _ _ _ h _ => h, fun v nR x hnR hR hk => ?_⟩
                simp only [List.take_succ_cons, List.take_zero, frameF, Act.put, List.setIfInBounds_toArray, List.set_cons_zero, List.set_cons_succ]
                exact stepF_val (by first | rfl | simp [Region.wanted, yielded, *]) (by go_simp <;> omega) ⟨rfl, Below.refl _ _, hR⟩
              · refine ⟨fun _ _ _ _ _ h => h, fun _ _ _ _ h _ => h, fun v nR x hnR hR hk => ?_⟩
                simp only [List.take_succ_cons, List.take_zero, frameF, Act.put, List.setIfInBounds_toArray, List.set_cons_zero, List.set_cons_succ]
                exact stepF_val (by first | rfl | simp [Region.wanted, yielded, *]) (by go_simp <;> omega) ⟨rfl, Below.refl _ _, hR⟩
              · refine ⟨fun _ _ _ _ _ h => h, fun _ _ _ _ h _ => h, fun v nR x hnR hR hk => ?_⟩
                have h3 : v 3 = iv (y2 : Int) := hk 3 (by kernel_rfl)
                have h4 : v 4 = iv (k : Int) := hk 4 (by kernel_rfl)
                simp only [List.take_succ_cons, List.take_zero, frameF, Act.put, List.setIfInBounds_toArray, List.set_cons_zero, List.set_cons_succ]
                exact stepF_val (by first | rfl | simp [Region.wanted, yielded, *]) (by go_simp <;> omega) ⟨rfl, Below.refl _ _, hR⟩
              · refine ⟨fun _ _ _ _ _ h => h, fun _ _ _ _ h _ => h, fun v nR x hnR hR hk => ?_⟩
                have h2 : v 2 = iv (d1 : Int) := hk 2 (by kernel_rfl)
                simp only [List.take_succ_cons, List.take_zero, frameF, Act.put, List.setIfInBounds_toArray, List.set_cons_zero, List.set_cons_succ]
                exact stepF_val (by first | rfl | simp [Region.wanted, yielded, *]) (by go_simp <;> omega) ⟨rfl, Below.refl _ _, hR⟩
              · refine ⟨fun _ _ _ _ _ h => h, fun _ _ _ _ h _ => h, fun v nR x hnR hR hk => ?_⟩
                have h5 : v 5 = iv (d2 : Int) := hk 5 (by kernel_rfl)
                simp only [List.take_succ_cons, List.take_zero, frameF, Act.put, List.setIfInBounds_toArray, List.set_cons_zero, List.set_cons_succ]
                exact stepF_val (by first | rfl | simp [Region.wanted, yielded, *]) (by go_simp <;> omega) ⟨rfl, Below.refl _ _, hR⟩
            · intro v nR x9 hnR hR hall
              have h6 : v 6 = iv (d1 : Int) := hall 6 (by decide)
              have h7 : v 7 = iv (d2 : Int) := hall 7 (by decide)
              clear hall hnR
              simp only [List.drop_succ_cons, List.drop_zero, List.take_succ_cons, List.take_zero, frameF, Act.put, List.setIfInBounds_toArray, List.set_cons_zero, List.set_cons_succ, Nat.zero_add, Nat.reduceAdd, h6, h7]
              have hb3 := hbr.next hR (Nat.le_refl _)
              go_wp2_with fail
              go_roundw
              case rel => exact ⟨d1, d2, k - 1, hxd, hyd, by omega, rfl, rfl, by go_num, HN, hb3⟩
              case measure => simp [intOf]; omega
          · have hz2 : ((r2' : Int) == 0) = false := by simp; omega
            have HN : Hid (File.Red p q (k - 1) x2 y2) := Lib.hid (by
              obtain ⟨e1, e2, e3, e4⟩ := HE.out
              exact HR.out.no hpp (fun h => h2 (by omega)))
            clear h1 h2
            go_wp2_with fail
            go_roundw
            case rel => exact ⟨x2, y2, k - 1, hx, hy, by omega, rfl, rfl, by go_num, HN, hbr⟩
            case measure => simp [intOf]; omega
        · have hz1 : ((r1' : Int) == 0) = false := by simp; omega
          have HN : Hid (File.Red p q (k - 1) x2 y2) := Lib.hid (by
            obtain ⟨e1, e2, e3, e4⟩ := HE.out
            exact HR.out.no hpp (fun h => h1 (by omega)))
          clear h1
          go_wp2_with fail
          go_roundw
          case rel => exact ⟨x2, y2, k - 1, hx, hy, by omega, rfl, rfl, by go_num, HN, hbr⟩
          case measure => simp [intOf]; omega
      · have hki : ¬ (1 : Int) < (k : Int) := by omega
        obtain ⟨e1, e2⟩ := HR.out.done hpp hlt
        have e3 := HE1.out
        have e4 := HE2.out
        rw [← e1] at e3
        rw [← e2] at e4
        subst e3 e4
        have HB2 := Lib.hid (HB1.out.under hbr)
        have g0 := HB2.out.cell 0
        have g1 := HB2.out.cell 1
        have gf0 := HB2.out.frozen 0
        have gf1 := HB2.out.frozen 1
        have gl := HB2.out.lt
        have hb3 := hb2.next hbr (Nat.le_refl _)
        clear HE1 HE2 e1 e2 HR r0 r1 f0 f1
        go_wp2_with fail
        exact bodyPost_ret (results_row_tmp (fn := Tryd.f12) (p := 4) (u := 5) (ty := 35) (by kernel_rfl) _ _ w.heap.size _ (by rfl) (ratio_row ((HB2.out.set_ 0 (iv _)).set_ 1 (iv _)))) rfl ⟨rfl, (hb3.setCell (p := ⟨w.heap.size, 0, none⟩) (Nat.le_refl _) _).setCell (p := ⟨w.heap.size, 1, none⟩) (Nat.le_refl _) _⟩
end Fl
end Go.Proofs.YtekkhnjepcebkaaDoor
