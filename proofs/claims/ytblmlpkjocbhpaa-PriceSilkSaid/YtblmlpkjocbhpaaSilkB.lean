/- Package silk, for a mill of one lot: its error. Conditions: weighings that are right. -/
import Derived.Test.YtblmlpkjocbhpaaSilkA
import Derived.Laws.EntriesVeiled
set_option linter.unusedVariables false
set_option linter.unusedSimpArgs false
namespace Go.Proofs.Ytblmlpkjocbhpaa
open Go.RowKit
set_option maxRecDepth 100000
abbrev millV (Al : Option Addr) (cl : Nat) (Aw : Option Addr) (n c : Nat) : Value := .agg #[iv 1, .slice Al 1 cl, .slice Aw n c]
theorem bounded_true (x : Weigh) (h : x.Ok) (w : World) : Calls Try.prog 144 #[x.v] w fun e w' => e = .returned (.bool true) ∧ Below w.heap.size w w' := by
  obtain ⟨a, b, c, d⟩ := x
  obtain ⟨h1, h2, h3, h4, h5⟩ := h
  dsimp only at h1 h2 h3 h4 h5
  have e1 : Price.inB b 0 10000 = true := by simp [Price.inB]; omega
  have e2 : Price.inB c 0 60 = true := by simp [Price.inB]; omega
  have e3 : Price.inB d 0 60 = true := by simp [Price.inB]; omega
  clear h1 h2 h3 h4 h5
  go_enter Try.func144, Try.ntmps144
  go_wp2_with (go_at_call 142; refine (sin_spec _ _ _ _).mono ?_; rintro e w' ⟨rfl, rfl⟩)
  go_ret
  exact ⟨by first | rfl | simp [e1, e2, e3], (Below.refl _ _).alloc (Nat.le_refl _) _⟩
theorem check1_true (x : SLot) (h : 0 ≤ x.kind ∧ x.kind ≤ 3) (w : World) : Calls Try.prog 146 #[x.v] w fun e w' => e = .returned (.bool true) ∧ Below w.heap.size w w' := by
  obtain ⟨a, b⟩ := x
  dsimp only at h
  have e1 : Price.inB b 0 3 = true := by simp [Price.inB]; omega
  clear h
  go_enter Try.func146, Try.ntmps146
  go_wp2_with (go_at_call 120; refine (sallowed_spec _ _).mono ?_; rintro e w' ⟨rfl, rfl⟩)
  go_ret
  exact ⟨by first | rfl | simp [e1], (Below.refl _ _).alloc (Nat.le_refl _) _⟩
theorem check3_true (x : Weigh) (h : x.Ok) (w : World) : Calls Try.prog 149 #[x.v] w fun e w' => e = .returned (.bool true) ∧ Below w.heap.size w w' := by
  obtain ⟨a, b, c, d⟩ := x
  have h4 := h.mid
  dsimp only at h4
  clear h
  go_enter Try.func149, Try.ntmps149
  go_wp2_with fail
  go_ret
  exact ⟨by first | rfl | simp [h4], (Below.refl _ _).alloc (Nat.le_refl _) _⟩
theorem slot_spec (Al : Option Addr) (cl : Nat) (Aw : Option Addr) (n c : Nat) (k : Int) (w : World) : Calls Try.prog 147 #[millV Al cl Aw n c, iv k] w fun e w' => e = .returned (.bool (Price.inB k 0 0)) ∧ Below w.heap.size w w' := by
  go_enter Try.func147, Try.ntmps147
  go_wp2_with (go_at_call 142; refine (sin_spec _ _ _ _).mono ?_; rintro e w' ⟨rfl, rfl⟩)
  go_ret
  exact ⟨rfl, (Below.refl _ _).alloc (Nat.le_refl _) _⟩
theorem check2_true (Al : Option Addr) (cl : Nat) (Aw : Option Addr) (n c : Nat) (x : Weigh) (h : x.Ok) (g : Nat) (w : World) (hg : g < w.heap.size) (hc : w.cell? ⟨g, 0, none⟩ = some (.func (.func 147) #[millV Al cl Aw n c] #[])) :
    Calls Try.prog 148 #[x.v, .pointer (some ⟨g, 0, none⟩)] w fun e w' => e = .returned (.bool true) ∧ Below w.heap.size w w' := by
  obtain ⟨a, b, cc, d⟩ := x
  have h1 := h.lot
  dsimp only at h1
  subst h1
  clear h
  have hcf := callFunc_run (P := Try.prog) (K := 147) (by kernel_rfl)
  have HL : Hid (∀ W : World, Calls Try.prog 147 #[millV Al cl Aw n c, iv 0] W fun e w' => e = .returned (.bool true) ∧ Below W.heap.size W w') := fun W => slot_spec Al cl Aw n c 0 W
  go_enter Try.func148, Try.ntmps148
  go_wp2_with (go_at_call 147; refine (HL.out _).mono ?_; rintro e w' ⟨rfl, hb⟩)
  go_ret
  exact ⟨rfl, hb.of_alloc⟩
set_option maxHeartbeats 4000000 in
theorem scheck_spec (Al : Option Addr) (cl : Nat) (Aw : Option Addr) (ws : List Weigh) (c : Nat) (w : World) (hl : Sl lotE w Al [⟨-1, 2⟩]) (hw : Sl weighE w Aw ws) (hn : ws.length ≤ 10) (hok : ∀ x ∈ ws, x.Ok) :
    Calls Try.prog 119 #[millV Al cl Aw ws.length c] w fun e w' => e = .returned (iv 0) ∧ Below w.heap.size w w' := by
  have hni : ¬ (10 : Int) < (ws.length : Int) := by omega
  have HOK := Lib.hid hok
  have hb0 : Below w.heap.size w (w.alloc (.cells #[iv 1, .slice Al 1 cl, .slice Aw ws.length c] 119)) := (Below.refl _ _).alloc (Nat.le_refl _) _
  have hB0 : Blk (w.alloc (.cells #[iv 1, .slice Al 1 cl, .slice Aw ws.length c] 119)) w.heap.size 119 #[iv 1, .slice Al 1 cl, .slice Aw ws.length c] := Blk.new _ _ _
  have HE1 : Hid (∀ W, Below w.heap.size w W → Calls Try.prog 143 #[.slice Aw ws.length c, .func (.func 144) #[] #[]] W fun e w' => e = .returned (.bool true) ∧ Below W.heap.size W w') := fun W h => by
    have := everyW Aw ws c 144 #[] (fun _ => true) W (by unfold big; omega) (hw.below h) ⟨callFunc_run (by kernel_rfl), fun x hx w' _ => bounded_true x (hok x hx) w'⟩
    rw [List.all_eq_true.2 (fun _ _ => rfl)] at this
    exact this
  have HE2 : Hid (∀ W, Below w.heap.size w W → Calls Try.prog 145 #[.slice Al 1 cl, .func (.func 146) #[] #[]] W fun e w' => e = .returned (.bool true) ∧ Below W.heap.size W w') := fun W h => by
    have := everyL Al [⟨-1, 2⟩] cl 146 #[] (fun _ => true) W (by simp [big]) (hl.below h) ⟨callFunc_run (by kernel_rfl), fun x hx w' _ => check1_true x (by rw [List.mem_singleton.1 hx]; decide) w'⟩
    rw [List.all_eq_true.2 (fun _ _ => rfl)] at this
    exact this
  have HE3 : Hid (∀ W g, Below w.heap.size w W → g < W.heap.size → W.cell? ⟨g, 0, none⟩ = some (.func (.func 147) #[millV Al cl Aw ws.length c] #[]) → Calls Try.prog 143 #[.slice Aw ws.length c, .func (.func 148) #[] #[.pointer (some ⟨g, 0, none⟩)]] W fun e w' => e = .returned (.bool true) ∧ Below W.heap.size W w') := fun W g h hg hc => by
    have := everyW Aw ws c 148 #[.pointer (some ⟨g, 0, none⟩)] (fun _ => true) W (by unfold big; omega) (hw.below h) ⟨callFunc_run (by kernel_rfl), fun x hx w' hb => check2_true Al cl Aw ws.length c x (hok x hx) g w' (Nat.lt_of_lt_of_le hg hb.size) ((hb.cell (p := ⟨g, 0, none⟩) hg).trans hc)⟩
    rw [List.all_eq_true.2 (fun _ _ => rfl)] at this
    exact this
  have HE4 : Hid (∀ W, Below w.heap.size w W → Calls Try.prog 143 #[.slice Aw ws.length c, .func (.func 149) #[] #[]] W fun e w' => e = .returned (.bool true) ∧ Below W.heap.size W w') := fun W h => by
    have := everyW Aw ws c 149 #[] (fun _ => true) W (by unfold big; omega) (hw.below h) ⟨callFunc_run (by kernel_rfl), fun x hx w' _ => check3_true x (hok x hx) w'⟩
    rw [List.all_eq_true.2 (fun _ _ => rfl)] at this
    exact this
  have i1 : Price.inB 1 1 12 = true := by decide
  have i2 : Price.inB 1 0 50 = true := by decide
  have i3 : Price.inB (-1) (-1) (-1) = true := by decide
  clear hok hw
  go_enter Try.func119, Try.ntmps119
  go_wp2_with fail
  generalize w.alloc (.cells #[iv 1, .slice Al 1 cl, .slice Aw ws.length c] 119) = w0 at *
  have c0 := hB0.cell
  have d0 := hB0.lt
  refine (sin_spec _ _ _ _).mono ?_
  rintro e w' ⟨rfl, rfl⟩
  go_wp2_with fail
  refine (sin_spec _ _ _ _).mono ?_
  rintro e w' ⟨rfl, rfl⟩
  have R1 := Lib.hid (HE1.out w0 hb0)
  go_wp2_with fail
  refine R1.out.mono ?_
  rintro e w1 ⟨rfl, hb1⟩
  have hb01 := hb0.next hb1 (Nat.le_refl _)
  have hB1 := hB0.under hb1
  have c1 := hB1.cell
  have d1 := hB1.lt
  have R2 := Lib.hid (HE2.out w1 hb01)
  clear R1 c0 d0
  go_wp2_with fail
  refine R2.out.mono ?_
  rintro e w2 ⟨rfl, hb2⟩
  have hb02 := hb01.next hb2 (Nat.le_refl _)
  have hB2 := hB1.under hb2
  have c2 := hB2.cell
  have d2 := hB2.lt
  clear R2 c1 d1
  go_wp2_with fail
  clear c2 d2
  go_loopw [3, 4, 36] (fun _ _ i wr => ∃ k : Nat, k ≤ 1 ∧ i = iv k ∧ Below w2.heap.size w2 wr) (fun _ _ i _ => 1 - (intOf i).toNat)
  case atStart => exact ⟨0, by omega, rfl, Below.refl _ _⟩
  case round =>
    obtain ⟨k, hk, rfl, hbw⟩ := hrel
    have hb0r := hb02.next hbw (Nat.le_refl _)
    by_cases hlt : k < 1
    · have hki : (k : Int) < 1 := by omega
      obtain ⟨b, off, x, rfl, hb, hx, hc0, hc1⟩ := (hl.below hb0r).atL (k := k) (by simpa using hlt)
      have hxe : x = ⟨-1, 2⟩ := by
        have : k = 0 := by omega
        subst this
        simpa using hx.symm
      subst hxe
      dsimp only at hc0 hc1
      have hkw : IntKind.i64.wrap ((k : Int) - 1) = -1 := by rw [show (k : Int) - 1 = -1 by omega]; rfl
      have HBR := Lib.hid (hbw.next ((Below.refl wr.heap.size wr).alloc (Nat.le_refl _) (.cells #[iv (-1), iv 2] 115)) (Nat.le_refl _))
      clear hx
      go_wp2_with fail
      refine (sin_spec _ _ _ _).mono ?_
      rintro e w' ⟨rfl, rfl⟩
      go_wp2_with fail
      go_roundw
      case rel => exact ⟨k + 1, by omega, by go_num, HBR.out⟩
      case measure => simp [intOf]; omega
    · have hki : ¬ (k : Int) < 1 := by omega
      have hB3 := hB2.under hbw
      have c3 := hB3.cell
      have d3 := hB3.lt
      have hba : Below wr.heap.size wr (wr.alloc (.cells #[.func (.func 147) #[millV Al cl Aw ws.length c] #[]] 110)) := (Below.refl _ _).alloc (Nat.le_refl _) _
      have hBf : Blk (wr.alloc (.cells #[.func (.func 147) #[millV Al cl Aw ws.length c] #[]] 110)) wr.heap.size 110 #[.func (.func 147) #[millV Al cl Aw ws.length c] #[]] := Blk.new _ _ _
      have R3 := Lib.hid (HE3.out _ wr.heap.size (hb0r.next hba (Nat.le_refl _)) hBf.lt (hBf.cell 0))
      have hB3a := hB3.under hba
      have c4 := hB3a.cell
      have d4 := hB3a.lt
      have hb0a := hb0r.next hba (Nat.le_refl _)
      clear hB2 hB1 hB0
      go_wp2_with fail
      refine R3.out.mono ?_
      generalize wr.alloc (.cells #[.func (.func 147) #[millV Al cl Aw ws.length c] #[]] 110) = w3 at *
      rintro e w4 ⟨rfl, hb4⟩
      have hb04 := hb0a.next hb4 (Nat.le_refl _)
      have hB4 := hB3a.under hb4
      clear c3 d3 c4 d4 R3
      have c5 := hB4.cell
      have d5 := hB4.lt
      have R4 := Lib.hid (HE4.out w4 hb04)
      go_wp2_with fail
      refine R4.out.mono ?_
      rintro e w5 ⟨rfl, hb5⟩
      go_wp2_with fail
      go_ret
      exact ⟨rfl, hb04.next hb5 (Nat.le_refl _)⟩
end Go.Proofs.Ytblmlpkjocbhpaa
