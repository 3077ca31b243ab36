/- Package silk, for a mill of one lot: the bounds by the weighings. Conditions: weighings that are right. -/
import Derived.Test.YtblmlpkjocbhpaaSilkE
set_option linter.unusedVariables false
set_option linter.unusedSimpArgs false
namespace Go.Proofs.Ytblmlpkjocbhpaa
open Go.RowKit Go.Maps
set_option maxRecDepth 100000
theorem all1_spec (k : Int) (w : World) : Calls Try.prog 165 #[iv k] w fun e w' => e = .returned (.bool true) ∧ w = w' := by
  go_enter Try.func165, Try.ntmps165
  go_wp2
  go_ret
  exact ⟨rfl, rfl⟩
theorem bndA_set (a b c d : Int) : ((bndA a b).setIfInBounds 0 (iv c)).setIfInBounds 1 (iv d) = bndA c d := by
  unfold bndA
  rfl
theorem bndA_hi (a b d : Int) : (bndA a b).setIfInBounds 1 (iv d) = bndA a d := by
  unfold bndA
  rfl
theorem bndA_zero : zeroA = bndA 0 0 := by
  unfold bndA
  rfl
/-- The bounds by weighings, the last one last. -/
def Price.sbnd (ws : List Weigh) : Int × Int := ws.foldl (fun b x => (max b.1 x.sLo, min b.2 x.sHi)) (0, 10000)
set_option maxHeartbeats 4000000 in
theorem bounds_spec (gd : Nat) (A : Option Addr) (c : Nat) (Aw : Option Addr) (ws : List Weigh) (cw : Nat) (w : World) (hd : DeskOk w gd (.slice A 1 c) (.slice Aw ws.length cw)) (hs : Sl weighE w Aw ws) (hn : ws.length ≤ 10) (hok : ∀ x ∈ ws, x.Ok) (h : (Price.sbnd ws).1 ≤ (Price.sbnd ws).2) :
    Calls Try.prog 151 #[.pointer (some ⟨gd, 0, none⟩), .agg #[.func (.func 165) #[] #[]]] w fun e w' => e = .returned (.tuple #[bndV (Price.sbnd ws).1 (Price.sbnd ws).2, .bool true]) ∧ Below w.heap.size w w' := by
  obtain ⟨gm, gp, cp, hB, hO, hP⟩ := hd
  have n0 := hB.cell
  have n1 := hB.lt
  go_enter Try.func151, Try.ntmps151
  go_upto_region 2 with fail
  have hF1 : Blk (w.alloc (.cells #[.func (.func 165) #[] #[]] 200)) w.heap.size 200 #[.func (.func 165) #[] #[]] := Blk.new _ _ _
  have hb1 : Below w.heap.size w (w.alloc (.cells #[.func (.func 165) #[] #[]] 200)) := (Below.refl _ _).alloc (Nat.le_refl _) _
  have hz1 : (w.alloc (.cells #[.func (.func 165) #[] #[]] 200)).heap.size = w.heap.size + 1 := by simp
  generalize w.alloc (.cells #[.func (.func 165) #[] #[]] 200) = w1 at *
  have hR2 : Blk (w1.alloc (.cells zeroA 176)) (w.heap.size + 1) 176 zeroA := by rw [← hz1]; exact Blk.new _ _ _
  have hb2 : Below w1.heap.size w1 (w1.alloc (.cells zeroA 176)) := (Below.refl _ _).alloc (Nat.le_refl _) _
  have hz2 : (w1.alloc (.cells zeroA 176)).heap.size = w.heap.size + 1 + 1 := by simp [hz1]
  generalize w1.alloc (.cells zeroA 176) = w2 at *
  have hB3 : Blk (w2.alloc (.cells zeroA 176)) (w.heap.size + 1 + 1) 176 (bndA 0 0) := by rw [← hz2, ← bndA_zero]; exact Blk.new _ _ _
  have hb3 : Below w2.heap.size w2 (w2.alloc (.cells zeroA 176)) := (Below.refl _ _).alloc (Nat.le_refl _) _
  generalize w2.alloc (.cells zeroA 176) = w3 at *
  have hF2 := hF1.under hb2
  have hb02 := hb1.next hb2 (Nat.le_refl _)
  have hD2 := hB.under hb02
  have hO2 := hO.below hb02
  have hP2 := hP.below hb02
  have hs2 := hs.below hb02
  have hle : w.heap.size ≤ w2.heap.size := hb02.size
  generalize w.heap.size + 1 + 1 = gb at *
  subst hz2
  have hgle : w.heap.size ≤ w.heap.size + 1 := Nat.le_succ _
  generalize w.heap.size + 1 = gr at *
  have m0 := (hD2.under hb3).cell
  have m1 := (hD2.under hb3).lt
  clear hF1 hb1 hz1 hb2 hB hO hP n0 hs
  go_wp2_with fail
  clear m0 m1
  go_loopw [7, 17] (fun _ i x => ∃ k : Nat, k ≤ 1 ∧ i = iv k ∧ Below w2.heap.size w2 x ∧ Blk x w2.heap.size 176 (bndA 0 (if k = 0 then 0 else 10000))) (fun _ i _ => 1 - (intOf i).toNat)
  case atStart => exact ⟨0, by omega, rfl, hb3, hB3⟩
  case round =>
    obtain ⟨k, hk, rfl, hby, hBy⟩ := hrel
    by_cases hlt : k < 1
    · have hk0 : k = 0 := by omega
      subst hk0
      have hki : ((0 : Nat) : Int) < 1 := by omega
      simp only [if_pos] at hBy
      have m0 : wr.cell? ⟨w2.heap.size, 1, none⟩ = some (iv 0) := by rw [hBy.cell, bndA_get1]
      have m1 := hBy.lt
      have m2 := hBy.frozen
      have HBY := Lib.hid hBy
      have HY := Lib.hid hby
      clear hBy hby hB3
      go_wp2_with fail
      go_roundw
      case rel =>
        refine ⟨1, by omega, rfl, HY.out.setCell (Nat.le_refl _) _, ?_⟩
        have := HBY.out.set_ 1 (iv 10000)
        rw [bndA_hi] at this
        exact this
      case measure => simp [intOf]
    · have hki : ¬ (k : Int) < 1 := by omega
      have hk1 : k ≠ 0 := by omega
      simp only [if_neg hk1] at hBy
      have m0 := (hD2.under hby).cell
      have m1 := (hD2.under hby).lt
      clear hB3 hb3
      go_wp2_with fail
      obtain ⟨w3, rfl⟩ : ∃ w3 : World, w3 = wr := ⟨_, rfl⟩
      clear m0 m1
      go_loopw [8, 9, 10, 30] (fun _ _ _ i x => ∃ k : Nat, k ≤ ws.length ∧ i = iv k ∧ Below w2.heap.size w2 x ∧ Blk x w2.heap.size 176 (bndA (Price.sbnd (ws.take k)).1 (Price.sbnd (ws.take k)).2)) (fun _ _ _ i _ => ws.length - (intOf i).toNat)
      case atStart => exact ⟨0, by omega, rfl, hby, by simpa [Price.sbnd] using hBy⟩
      case round =>
        obtain ⟨j, hj, rfl, hbr, hBr⟩ := hrel
        clear hby hBy
        by_cases hlt2 : j < ws.length
        · have hji : (j : Int) < (ws.length : Int) := by omega
          obtain ⟨b, off, y, rfl, hb, hy, hc0, hc1, hc2, hc3⟩ := (hs2.below hbr).atW hlt2
          have hoky := hok y (mem_at hy)
          have hlot := hoky.lot
          have hsb : Price.sbnd (ws.take (j + 1)) = (max (Price.sbnd (ws.take j)).1 y.sLo, min (Price.sbnd (ws.take j)).2 y.sHi) := by rw [take_at hy]; simp [Price.sbnd, List.foldl_append]
          have HSB := Lib.hid hsb
          generalize Price.sbnd (ws.take j) = q at *
          obtain ⟨qa, qb⟩ := q
          have HSY : Hid (∀ X : World, Below wr.heap.size wr X → Calls Try.prog 163 #[.pointer (some ⟨gd, 0, none⟩), iv j] X fun e w' => e = .returned (.agg #[iv y.sLo, iv y.sHi]) ∧ Below X.heap.size X w') := fun X hX =>
            have hbx := hbr.trans (hX.mono hbr.size)
            says_spec gd _ _ ws cw j y X ⟨gm, gp, cp, hD2.under hbx, hO2.below hbx, hP2.below hbx⟩ (hs2.below hbx) hy hoky
          clear hsb hoky
          dsimp only at hBr HSB
          have hbw : Below wr.heap.size wr (wr.alloc (.cells #[iv 0, iv y.reads, iv y.lo, iv y.hi] 129)) := (Below.refl _ _).alloc (Nat.le_refl _) _
          have HS1 := Lib.hid (HSY.out _ hbw)
          have hF5 := hF2.under hbr
          have HFC : Hid (∀ X : World, Below wr.heap.size wr X → X.cell? ⟨w.heap.size, 0, none⟩ = some (.func (.func 165) #[] #[])) := fun X hX => (hF5.under hX).cell 0
          have hcf := callFunc_run (P := Try.prog) (K := 165) (by kernel_rfl)
          go_wp2_with fail
          refine HS1.out.mono ?_
          rintro e w4 ⟨rfl, hb4⟩
          have hbw4 := hbw.next hb4 (Nat.le_refl _)
          have hb5 : Below w4.heap.size w4 (w4.alloc (.cells #[iv y.sLo, iv y.sHi] 121)) := (Below.refl _ _).alloc (Nat.le_refl _) _
          have hbw5 := hbw4.next hb5 (Nat.le_refl _)
          have hS5 : Blk (w4.alloc (.cells #[iv y.sLo, iv y.sHi] 121)) w4.heap.size 121 #[iv y.sLo, iv y.sHi] := Blk.new _ _ _
          have hW5 : Blk (w4.alloc (.cells #[iv y.sLo, iv y.sHi] 121)) wr.heap.size 129 #[iv 0, iv y.reads, iv y.lo, iv y.hi] := ((Blk.new wr _ _).under hb4).under hb5
          have f5 := HFC.out _ hbw5
          clear HFC HS1 HSY hb4 hbw hbw4
          go_wp2_with fail
          refine (all1_spec _ _).mono ?_
          rintro e w6 ⟨rfl, rfl⟩
          generalize w4.alloc (.cells #[iv y.sLo, iv y.sHi] 121) = w5 at *
          go_upto_region 12 with fail
          have hBw := hBr.under hbw5
          have HFF : Hid (∀ a : World, Below w5.heap.size w5 a → a.cell? ⟨wr.heap.size, 0, none⟩ = some (iv 0) ∧ a.cell? ⟨w2.heap.size, 0, none⟩ = some (iv qa) ∧ a.cell? ⟨w2.heap.size, 1, none⟩ = some (iv qb) ∧ a.cell? ⟨w4.heap.size, 0, none⟩ = some (iv y.sLo) ∧ a.cell? ⟨w4.heap.size, 1, none⟩ = some (iv y.sHi)) := fun a h =>
            ⟨(hW5.under h).cell 0, by rw [(hBw.under h).cell, bndA_get0], by rw [(hBw.under h).cell, bndA_get1], (hS5.under h).cell 0, (hS5.under h).cell 1⟩
          have HBW := Lib.hid hBw
          have HB5 := Lib.hid (hbr.trans (hbw5.mono hbr.size))
          clear hb5 hbw5 hS5 hW5 f5 hBr hcf hF5 hF2 hR2 hD2 hO2 hP2 hs2 hb02 hb hc0 hc1 hc2 hc3 hbr hok
          refine wp_free_lit (by kernel_rfl) 20 (by kernel_rfl) (by kernel_rfl) (by decide) (fun _ x => Below w5.heap.size w5 x) (fun x x' => Below x.heap.size x x')
            [fun _ u _ => u = .pointer (some ⟨wr.heap.size, 0, none⟩),
             fun _ u _ => u = iv 0,
             fun _ u _ => u = .pointer (some ⟨wr.heap.size, 0, none⟩),
             fun _ u _ => u = iv 0,
             fun _ u _ => u = .pointer (some ⟨w2.heap.size, 0, none⟩),
             fun _ u _ => u = .pointer (some ⟨w2.heap.size, 0, none⟩),
             fun _ u _ => u = iv qa,
             fun _ u _ => u = .pointer (some ⟨w4.heap.size, 0, none⟩),
             fun _ u _ => u = iv y.sLo,
             fun _ u _ => u = iv (max qa y.sLo),
             fun _ u _ => u = .pointer (some ⟨wr.heap.size, 0, none⟩),
             fun _ u _ => u = iv 0,
             fun _ u _ => u = .pointer (some ⟨w2.heap.size, 0, none⟩),
             fun _ u _ => u = .pointer (some ⟨w2.heap.size, 1, none⟩),
             fun _ u _ => u = iv qb,
             fun _ u _ => u = .pointer (some ⟨w4.heap.size, 1, none⟩),
             fun _ u _ => u = iv y.sHi,
             fun _ u x => ∃ g, u = .slice (some ⟨g, 0, none⟩) 1 1 ∧ Sl intE x (some ⟨g, 0, none⟩) [y.sHi],
             fun _ u _ => u = iv (min qb y.sHi),
             fun _ u _ => u = .agg #[iv (max qa y.sLo), iv (min qb y.sHi)]]
            (Below.refl _ w5).drew ?_ ?_
          · simp only [List.take_succ_cons, List.take_zero, HopL]
            refine ⟨?_, ?_, ?_, ?_, ?_, ?_, ?_, ?_, ?_, ?_, ?_, ?_, ?_, ?_, ?_, ?_, ?_, ?_, ?_, ?_, trivial⟩
            · refine ⟨fun _ _ _ _ _ h => h, fun _ _ _ _ h _ => h, fun v n x hn hR hk => ?_⟩
              obtain ⟨f0, f1, f2, f3, f4⟩ := HFF.out x hR
              skip
              simp only [List.take_succ_cons, List.take_zero, frameF, Act.put, List.setIfInBounds_toArray, List.set_cons_zero, List.set_cons_succ]
              exact stepF_val (by rfl) (by go_simp) ⟨rfl, Below.refl _ _, hR⟩
            · refine ⟨fun _ _ _ _ _ h => h, fun _ _ _ _ h _ => h, fun v n x hn hR hk => ?_⟩
              obtain ⟨f0, f1, f2, f3, f4⟩ := HFF.out x hR
              have h0 : v 0 = .pointer (some ⟨wr.heap.size, 0, none⟩) := hk 0 (by kernel_rfl)
              simp only [List.take_succ_cons, List.take_zero, frameF, Act.put, List.setIfInBounds_toArray, List.set_cons_zero, List.set_cons_succ]
              exact stepF_val (by rfl) (by go_simp) ⟨rfl, Below.refl _ _, hR⟩
            · refine ⟨fun _ _ _ _ _ h => h, fun _ _ _ _ h _ => h, fun v n x hn hR hk => ?_⟩
              obtain ⟨f0, f1, f2, f3, f4⟩ := HFF.out x hR
              skip
              simp only [List.take_succ_cons, List.take_zero, frameF, Act.put, List.setIfInBounds_toArray, List.set_cons_zero, List.set_cons_succ]
              exact stepF_val (by rfl) (by go_simp) ⟨rfl, Below.refl _ _, hR⟩
            · refine ⟨fun _ _ _ _ _ h => h, fun _ _ _ _ h _ => h, fun v n x hn hR hk => ?_⟩
              obtain ⟨f0, f1, f2, f3, f4⟩ := HFF.out x hR
              have h0 : v 2 = .pointer (some ⟨wr.heap.size, 0, none⟩) := hk 2 (by kernel_rfl)
              simp only [List.take_succ_cons, List.take_zero, frameF, Act.put, List.setIfInBounds_toArray, List.set_cons_zero, List.set_cons_succ]
              exact stepF_val (by rfl) (by go_simp) ⟨rfl, Below.refl _ _, hR⟩
            · refine ⟨fun _ _ _ _ _ h => h, fun _ _ _ _ h _ => h, fun v n x hn hR hk => ?_⟩
              obtain ⟨f0, f1, f2, f3, f4⟩ := HFF.out x hR
              have h0 : v 3 = iv 0 := hk 3 (by kernel_rfl)
              simp only [List.take_succ_cons, List.take_zero, frameF, Act.put, List.setIfInBounds_toArray, List.set_cons_zero, List.set_cons_succ]
              exact stepF_val (by rfl) (by go_simp) ⟨rfl, Below.refl _ _, hR⟩
            · refine ⟨fun _ _ _ _ _ h => h, fun _ _ _ _ h _ => h, fun v n x hn hR hk => ?_⟩
              obtain ⟨f0, f1, f2, f3, f4⟩ := HFF.out x hR
              have h0 : v 4 = .pointer (some ⟨w2.heap.size, 0, none⟩) := hk 4 (by kernel_rfl)
              simp only [List.take_succ_cons, List.take_zero, frameF, Act.put, List.setIfInBounds_toArray, List.set_cons_zero, List.set_cons_succ]
              exact stepF_val (by rfl) (by go_simp) ⟨rfl, Below.refl _ _, hR⟩
            · refine ⟨fun _ _ _ _ _ h => h, fun _ _ _ _ h _ => h, fun v n x hn hR hk => ?_⟩
              obtain ⟨f0, f1, f2, f3, f4⟩ := HFF.out x hR
              have h0 : v 5 = .pointer (some ⟨w2.heap.size, 0, none⟩) := hk 5 (by kernel_rfl)
              simp only [List.take_succ_cons, List.take_zero, frameF, Act.put, List.setIfInBounds_toArray, List.set_cons_zero, List.set_cons_succ]
              exact stepF_val (by rfl) (by go_simp) ⟨rfl, Below.refl _ _, hR⟩
            · refine ⟨fun _ _ _ _ _ h => h, fun _ _ _ _ h _ => h, fun v n x hn hR hk => ?_⟩
              obtain ⟨f0, f1, f2, f3, f4⟩ := HFF.out x hR
              skip
              simp only [List.take_succ_cons, List.take_zero, frameF, Act.put, List.setIfInBounds_toArray, List.set_cons_zero, List.set_cons_succ]
              exact stepF_val (by rfl) (by go_simp) ⟨rfl, Below.refl _ _, hR⟩
            · refine ⟨fun _ _ _ _ _ h => h, fun _ _ _ _ h _ => h, fun v n x hn hR hk => ?_⟩
              obtain ⟨f0, f1, f2, f3, f4⟩ := HFF.out x hR
              have h0 : v 7 = .pointer (some ⟨w4.heap.size, 0, none⟩) := hk 7 (by kernel_rfl)
              simp only [List.take_succ_cons, List.take_zero, frameF, Act.put, List.setIfInBounds_toArray, List.set_cons_zero, List.set_cons_succ]
              exact stepF_val (by rfl) (by go_simp) ⟨rfl, Below.refl _ _, hR⟩
            · refine ⟨fun _ _ _ _ _ h => h, fun _ _ _ _ h _ => h, fun v n x hn hR hk => ?_⟩
              obtain ⟨f0, f1, f2, f3, f4⟩ := HFF.out x hR
              (have h0 : v 6 = iv qa := hk 6 (by kernel_rfl); have h1 : v 8 = iv y.sLo := hk 8 (by kernel_rfl))
              simp only [List.take_succ_cons, List.take_zero, frameF, Act.put, List.setIfInBounds_toArray, List.set_cons_zero, List.set_cons_succ]
              exact stepF_val (by rfl) (by go_simp) ⟨rfl, Below.refl _ _, hR⟩
            · refine ⟨fun _ _ _ _ _ h => h, fun _ _ _ _ h _ => h, fun v n x hn hR hk => ?_⟩
              obtain ⟨f0, f1, f2, f3, f4⟩ := HFF.out x hR
              skip
              simp only [List.take_succ_cons, List.take_zero, frameF, Act.put, List.setIfInBounds_toArray, List.set_cons_zero, List.set_cons_succ]
              exact stepF_val (by rfl) (by go_simp) ⟨rfl, Below.refl _ _, hR⟩
            · refine ⟨fun _ _ _ _ _ h => h, fun _ _ _ _ h _ => h, fun v n x hn hR hk => ?_⟩
              obtain ⟨f0, f1, f2, f3, f4⟩ := HFF.out x hR
              have h0 : v 10 = .pointer (some ⟨wr.heap.size, 0, none⟩) := hk 10 (by kernel_rfl)
              simp only [List.take_succ_cons, List.take_zero, frameF, Act.put, List.setIfInBounds_toArray, List.set_cons_zero, List.set_cons_succ]
              exact stepF_val (by rfl) (by go_simp) ⟨rfl, Below.refl _ _, hR⟩
            · refine ⟨fun _ _ _ _ _ h => h, fun _ _ _ _ h _ => h, fun v n x hn hR hk => ?_⟩
              obtain ⟨f0, f1, f2, f3, f4⟩ := HFF.out x hR
              have h0 : v 11 = iv 0 := hk 11 (by kernel_rfl)
              simp only [List.take_succ_cons, List.take_zero, frameF, Act.put, List.setIfInBounds_toArray, List.set_cons_zero, List.set_cons_succ]
              exact stepF_val (by rfl) (by go_simp) ⟨rfl, Below.refl _ _, hR⟩
            · refine ⟨fun _ _ _ _ _ h => h, fun _ _ _ _ h _ => h, fun v n x hn hR hk => ?_⟩
              obtain ⟨f0, f1, f2, f3, f4⟩ := HFF.out x hR
              have h0 : v 12 = .pointer (some ⟨w2.heap.size, 0, none⟩) := hk 12 (by kernel_rfl)
              simp only [List.take_succ_cons, List.take_zero, frameF, Act.put, List.setIfInBounds_toArray, List.set_cons_zero, List.set_cons_succ]
              exact stepF_val (by rfl) (by go_simp) ⟨rfl, Below.refl _ _, hR⟩
            · refine ⟨fun _ _ _ _ _ h => h, fun _ _ _ _ h _ => h, fun v n x hn hR hk => ?_⟩
              obtain ⟨f0, f1, f2, f3, f4⟩ := HFF.out x hR
              have h0 : v 13 = .pointer (some ⟨w2.heap.size, 1, none⟩) := hk 13 (by kernel_rfl)
              simp only [List.take_succ_cons, List.take_zero, frameF, Act.put, List.setIfInBounds_toArray, List.set_cons_zero, List.set_cons_succ]
              exact stepF_val (by rfl) (by go_simp) ⟨rfl, Below.refl _ _, hR⟩
            · refine ⟨fun _ _ _ _ _ h => h, fun _ _ _ _ h _ => h, fun v n x hn hR hk => ?_⟩
              obtain ⟨f0, f1, f2, f3, f4⟩ := HFF.out x hR
              skip
              simp only [List.take_succ_cons, List.take_zero, frameF, Act.put, List.setIfInBounds_toArray, List.set_cons_zero, List.set_cons_succ]
              exact stepF_val (by rfl) (by go_simp) ⟨rfl, Below.refl _ _, hR⟩
            · refine ⟨fun _ _ _ _ _ h => h, fun _ _ _ _ h _ => h, fun v n x hn hR hk => ?_⟩
              obtain ⟨f0, f1, f2, f3, f4⟩ := HFF.out x hR
              have h0 : v 15 = .pointer (some ⟨w4.heap.size, 1, none⟩) := hk 15 (by kernel_rfl)
              simp only [List.take_succ_cons, List.take_zero, frameF, Act.put, List.setIfInBounds_toArray, List.set_cons_zero, List.set_cons_succ]
              exact stepF_val (by rfl) (by go_simp) ⟨rfl, Below.refl _ _, hR⟩
            · refine ⟨fun _ _ _ _ _ h => h, fun _ _ _ _ h hS => ?_, fun v n x hn hR hk => ?_⟩
              · obtain ⟨g, h1, h2⟩ := h
                exact ⟨g, h1, h2.below hS⟩
              · have h0 : v 16 = iv y.sHi := hk 16 (by kernel_rfl)
                simp only [List.take_succ_cons, List.take_zero, frameF, Act.put, List.setIfInBounds_toArray, List.set_cons_zero, List.set_cons_succ]
                exact stepF_new (u := .slice (some ⟨x.heap.size, 0, none⟩) 1 1) (w' := x.alloc (.cells #[iv y.sHi] 3)) (by rfl) (by go_simp) ⟨⟨x.heap.size, rfl, Sl.fresh intE x 3 #[iv y.sHi] [y.sHi] rfl (by simp [maxLen])⟩, (Below.refl _ _).alloc (Nat.le_refl _) _, hR.alloc hR.size _⟩
            · refine ⟨fun _ _ _ _ _ h => h, fun _ _ _ _ h _ => h, fun v n x hn hR hk => ?_⟩
              have h14 : v 14 = iv qb := hk 14 (by kernel_rfl)
              have h17 : ∃ g, v 17 = .slice (some ⟨g, 0, none⟩) 1 1 ∧ Sl intE x (some ⟨g, 0, none⟩) [y.sHi] := hk 17 (by kernel_rfl)
              obtain ⟨g, h1, h2⟩ := h17
              simp only [List.take_succ_cons, List.take_zero, frameF, Act.put, List.setIfInBounds_toArray, List.set_cons_zero, List.set_cons_succ]
              refine stepF_call (by rfl) (by go_simp) (least_one g y.sHi qb x h2) ?_
              rintro e x' ⟨rfl, rfl⟩
              exact ⟨_, rfl, rfl, Below.refl _ _, hR⟩
            · refine ⟨fun _ _ _ _ _ h => h, fun _ _ _ _ h _ => h, fun v n x hn hR hk => ?_⟩
              obtain ⟨f0, f1, f2, f3, f4⟩ := HFF.out x hR
              (have h0 : v 9 = iv (max qa y.sLo) := hk 9 (by kernel_rfl); have h1 : v 18 = iv (min qb y.sHi) := hk 18 (by kernel_rfl))
              simp only [List.take_succ_cons, List.take_zero, frameF, Act.put, List.setIfInBounds_toArray, List.set_cons_zero, List.set_cons_succ]
              exact stepF_val (by rfl) (by go_simp) ⟨rfl, Below.refl _ _, hR⟩
          · intro v n x hn hR hall
            have h1 : v 1 = iv 0 := hall 1 (by decide)
            have h19 : v 19 = .agg #[iv (max qa y.sLo), iv (min qb y.sHi)] := hall 19 (by decide)
            have hBx := HBW.out.under hR
            have n0 := hBx.cell 0
            have n1 := hBx.cell 1
            rw [bndA_get0] at n0
            rw [bndA_get1] at n1
            have n2 := hBx.frozen
            have n3 := hBx.lt
            have HBX := Lib.hid hBx
            have HBR := Lib.hid (HB5.out.next hR (by have := HB5.out.size; omega))
            clear hall hR hBx
            simp only [List.drop_succ_cons, List.drop_zero, List.take_succ_cons, List.take_zero, frameF, Act.put, List.setIfInBounds_toArray, List.set_cons_zero, List.set_cons_succ]
            go_wp2_with fail
            have hset := (HBX.out.set_ 0 (iv (max qa y.sLo))).set_ 1 (iv (min qb y.sHi))
            rw [bndA_set] at hset
            have hrel2 := (HBR.out.setCell (p := ⟨w2.heap.size, 0, none⟩) (Nat.le_refl _) (iv (max qa y.sLo))).setCell (p := ⟨w2.heap.size, 1, none⟩) (Nat.le_refl _) (iv (min qb y.sHi))
            go_roundw
            case rel => exact ⟨j + 1, by omega, by go_num, hrel2, by rw [HSB.out]; exact hset⟩
            case measure => simp [intOf]; omega
        · have hji : ¬ (j : Int) < (ws.length : Int) := by omega
          have hBt : Blk wr w2.heap.size 176 (bndA (Price.sbnd ws).1 (Price.sbnd ws).2) := by rwa [List.take_of_length_le (by omega)] at hBr
          have HT := Lib.hid (tight_one gd A c (.slice Aw ws.length cw) _ _ wr ⟨gm, gp, cp, hD2.under hbr, hO2.below hbr, hP2.below hbr⟩ h)
          have hR5 := hR2.under hbr
          have hb05 := hb02.next hbr (Nat.le_refl _)
          clear hBr hok
          go_wp2_with (first | (refine wpList_load_row rfl 176 _ rfl w2.heap.size rfl 176 _ (0, 0) _ hBt Try.underlying176 rfl (bndA_info _ _) ?_) | (go_at_call 164; refine HT.out.mono ?_; rintro e w4 ⟨rfl, hb4⟩; have hR6 := hR5.under hb4) | (refine wpList_store_row rfl 176 _ _ rfl gr _ rfl rfl 176 zeroA hR6 (bndA_info _ _) (by rw [bndA_size]; rfl) (bndA_one _ _) ?_))
          have hr := run_loadVar_row (P := Try.prog) (w4.setRow gr (bndA (Price.sbnd ws).1 (Price.sbnd ws).2)) gr 176 176 (bndA (Price.sbnd ws).1 (Price.sbnd ws).2) (0, 0) _ (setRow_heap _ _ _ _ _ _ hR6) Try.underlying176 rfl (bndA_info _ _)
          refine bodyPost_ret (v := .tuple #[bndV (Price.sbnd ws).1 (Price.sbnd ws).2, .bool true]) ?_ rfl ⟨rfl, below_setRow (hb05.next hb4 (Nat.le_refl _)) hgle _⟩
          rw [results_cell_tmp (p := 4) (u := 5) (ty := 176) (by kernel_rfl)]
          simp [asAddr, hr]
end Go.Proofs.Ytblmlpkjocbhpaa
