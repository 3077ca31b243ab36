/- Package file: the length of a line that is read, and the line. No condition. -/
import Derived.Test.YtekkhnjepcebkaaGreatDoorFlC
set_option linter.unusedVariables false
set_option linter.unusedSimpArgs false
namespace Go.Proofs.YtekkhnjepcebkaaGreatDoor
namespace File
/-- What length reads: the number, whether it is one, what is left, and where. -/
def readNum (l : List UInt8) (k : Nat) : Nat × Bool × List UInt8 × Nat := match l with
  | [] => (0, false, [], k)
  | b :: r => if isDig b then
      let n := b.toNat - 48
      let m := 10 * n + ((nextB r).toNat - 48)
      if 0 < n ∧ isDig (nextB r) = true ∧ m ≤ 40 then (m, takes (· == 58) (rest isDig r), rest (· == 58) (rest isDig r), on (· == 58) (rest isDig r) (on isDig r (k + 1)))
      else (n, takes (· == 58) r, rest (· == 58) r, on (· == 58) r (k + 1))
    else (0, false, b :: r, k)
end File
namespace Fl
open Go.RowKit
set_option maxRecDepth 100000
theorem rest_length (p : UInt8 → Bool) (l : List UInt8) (k : Nat) : File.on p l k + (File.rest p l).length = k + l.length := by
  cases l with
  | nil => rfl
  | cons b r =>
    unfold File.on File.rest File.takes
    by_cases h : p b = true
    · simp only [h, if_true, List.length_cons]; omega
    · simp only [h, if_false, Bool.false_eq_true]
theorem rest_no {p : UInt8 → Bool} {l : List UInt8} (h : File.takes p l = false) : File.rest p l = l := by
  cases l with
  | nil => rfl
  | cons b r => exact if_neg (by rw [show p b = false from h]; simp)
theorem on_no {p : UInt8 → Bool} {l : List UInt8} (h : File.takes p l = false) (k : Nat) : File.on p l k = k := by unfold File.on; rw [h]; rfl
theorem RD.agg {w : World} {g k : Nat} {l : List UInt8} (h : RD w g l k) : w.cell? ⟨g, 0, none⟩ = some (.string (File.ba l)) ∧ w.cell? ⟨g, 1, none⟩ = some (iv k) ∧ g < w.heap.size := ⟨h.cell 0, h.cell 1, h.lt⟩
set_option maxHeartbeats 4000000 in
theorem length_spec (g k : Nat) (l : List UInt8) (w : World) (hR : RD w g l k) (hk : k + l.length ≤ 1000000000) :
    Calls Tryz.prog 167 #[.pointer (some ⟨g, 0, none⟩)] w fun e w' => e = .returned (.tuple #[iv (File.readNum l k).1, .bool (File.readNum l k).2.1]) ∧ RD w' g (File.readNum l k).2.2.1 (File.readNum l k).2.2.2 ∧ Only g w w' := by
  have hmf : ∀ (fn : Fn) (first cap : Array Value) (w : World), (Instr.makeFunc fn first cap).run Tryz.prog w = .ok (.func fn first cap) w := fun _ _ _ _ => rfl
  have hg0 := hR.lt
  obtain ⟨m0, m1, m2⟩ := hR.agg
  by_cases hd : File.takes File.isDig l = true
  · cases l with
    | nil => cases hd
    | cons b r =>
      have hd' : File.isDig b = true := hd
      have hbb : 48 ≤ b.toNat ∧ b.toNat ≤ 57 := by simpa [File.isDig] using hd'
      obtain ⟨n, hn⟩ : ∃ n : Nat, n = b.toNat - 48 := ⟨_, rfl⟩
      have hbn : b.toNat = n + 48 := by omega
      have hn9 : n ≤ 9 := by omega
      have hN := next_spec (b :: r) w
      rw [show bv (File.nextB (b :: r)) = .int .u8 ((n : Int) + 48) from by show Value.int .u8 (b.toNat : Int) = _; rw [hbn]; rfl] at hN
      have HN := Lib.hid hN
      obtain ⟨c, hc⟩ : ∃ c : Nat, c = (File.nextB r).toNat := ⟨_, rfl⟩
      have hc255 : c ≤ 255 := by have := (File.nextB r).toNat_lt; omega
      have HNR : Hid (∀ W : World, Calls Tryz.prog 115 #[.agg #[.string (File.ba r)]] W fun e w' => e = .returned (.int .u8 (c : Int)) ∧ Below W.heap.size W w') := Lib.hid fun W => by rw [hc]; exact next_spec r W
      have HRN : Hid (File.readNum (b :: r) k = if 0 < n ∧ File.isDig (File.nextB r) = true ∧ 10 * n + (c - 48) ≤ 40 then (10 * n + (c - 48), File.takes (· == 58) (File.rest File.isDig r), File.rest (· == 58) (File.rest File.isDig r), File.on (· == 58) (File.rest File.isDig r) (File.on File.isDig r (k + 1)))
          else (n, File.takes (· == 58) r, File.rest (· == 58) r, File.on (· == 58) r (k + 1))) := Lib.hid (by
        show (if File.isDig b = true then _ else _) = _
        rw [if_pos hd', ← hn, ← hc])
      have HDC : Hid (∀ W : World, Calls Tryz.prog 116 #[.int .u8 (c : Int)] W fun e w' => e = .returned (.bool (File.isDig (File.nextB r))) ∧ W = w') := Lib.hid fun W => by rw [hc]; exact digit_spec _ W
      have HCD : Hid (File.isDig (File.nextB r) = true → 48 ≤ c ∧ c ≤ 57) := Lib.hid fun h => by rw [hc]; simpa [File.isDig] using h
      have hkl : k + 1 + r.length ≤ 1000000000 := by simp only [List.length_cons] at hk; omega
      clear hN hbn hn hc
      go_enter Tryz.func167, Tryz.ntmps167
      go_wp2_with fail
      refine HN.out.mono ?_
      rintro e w1 ⟨rfl, hb1⟩
      have hR1 := hR.below hb1
      have hO1 := Only.of_below hb1 (Nat.le_of_lt hg0)
      obtain ⟨m0, m1, m2⟩ := hR1.agg
      have HTD := Lib.hid (takeDigit g k (b :: r) w1 hR1 (by simp only [List.length_cons] at hk ⊢; omega))
      rw [show File.takes File.isDig (b :: r) = true from hd, show File.rest File.isDig (b :: r) = r from by simp [File.rest, hd'], show File.on File.isDig (b :: r) k = k + 1 from by simp [File.on, File.takes, hd']] at HTD
      clear hd hd' hbb HN hR
      go_wp2_with fail
      refine HTD.out.mono ?_
      rintro e w2 ⟨rfl, hR2, hO2⟩
      have hO02 := hO1.trans hO2
      obtain ⟨m0, m1, m2⟩ := hR2.agg
      clear HTD hR1 hO1 hb1 hO2
      go_upto_region 5 with (go_at_call 115; refine (HNR.out _).mono ?_; rintro e w3 ⟨rfl, hb3⟩)
      have hR3 := hR2.below hb3
      have hO3 := hO02.next hb3 (Nat.le_of_lt m2)
      obtain ⟨m0, m1, m2⟩ := hR3.agg
      clear hR2 hO02 hb3
      have HONE : Hid (∀ W : World, Calls Tryz.prog 118 #[.int .u8 58] W fun e w' => ∃ q, e = .returned (.agg #[.func (.func 169) #[] #[.pointer (some ⟨q, 0, none⟩)]]) ∧ Blk w' q 5 #[bv 58] ∧ Below W.heap.size W w') := Lib.hid fun W => one_spec 58 W
      by_cases h0 : 0 < n
      · have h0i : (0 : Int) < (n : Int) := by omega
        cases hdr : File.isDig (File.nextB r)
        · have HX : Hid (File.readNum (b :: r) k = (n, File.takes (· == 58) r, File.rest (· == 58) r, File.on (· == 58) r (k + 1))) := Lib.hid (by rw [HRN.out, if_neg (by rw [hdr]; intro h; cases h.2.1)])
          rw [hdr] at HDC
          clear hdr HRN HCD
          go_wp2_with (first
            | (go_at_call 115; refine (HNR.out _).mono ?_; rintro e w4 ⟨rfl, hb4⟩; have hR4 := hR3.below hb4; obtain ⟨m3, m4, m5⟩ := hR4.agg)
            | (go_at_call 116; refine (HDC.out _).mono ?_; rintro e w' ⟨rfl, rfl⟩)
            | (go_at_call 118; refine (HONE.out _).mono ?_; rintro e w7 ⟨q, rfl, hq, hb7⟩; have hR7 := hR4.below hb7; obtain ⟨m6, m7, m8⟩ := hR7.agg)
            | (go_at_call 114; refine (takeOne 58 q g (k + 1) r _ hR7 (by omega) hq).mono ?_; rintro e w8 ⟨rfl, hR8, hO8⟩))
          go_ret2
          exact ⟨ret_eq (by rw [HX.out]; rfl), by rw [HX.out]; exact hR8, ((hO3.next hb4 (Nat.le_of_lt m2)).next hb7 (Nat.le_of_lt m5)).trans hO8⟩
        · have hcd := HCD.out hdr
          obtain ⟨d, hd⟩ : ∃ d : Nat, d = c - 48 := ⟨_, rfl⟩
          have hcd2 : (c : Int) - 48 = (d : Int) := by omega
          have hd9 : d ≤ 9 := by omega
          by_cases hm : 10 * n + d ≤ 40
          · have hmi : (10 : Int) * (n : Int) + (d : Int) ≤ 40 := by omega
            have HX : Hid (File.readNum (b :: r) k = (10 * n + d, File.takes (· == 58) (File.rest File.isDig r), File.rest (· == 58) (File.rest File.isDig r), File.on (· == 58) (File.rest File.isDig r) (File.on File.isDig r (k + 1)))) := Lib.hid (by rw [HRN.out, if_pos ⟨h0, hdr, by omega⟩, hd])
            have HRL := Lib.hid (rest_length File.isDig r (k + 1))
            rw [hdr] at HDC
            rw [hcd2]
            have HTD := Lib.hid (fun (W : World) (h : RD W g r (k + 1)) => takeDigit g (k + 1) r W h (by omega))
            clear hdr HRN HCD hd hcd hcd2
            go_upto_region 7 with (first
              | (go_at_call 115; refine (HNR.out _).mono ?_; rintro e w4 ⟨rfl, hb4⟩; have hR4 := hR3.below hb4; obtain ⟨m3, m4, m5⟩ := hR4.agg)
              | (go_at_call 116; refine (HDC.out _).mono ?_; rintro e w' ⟨rfl, rfl⟩))
            go_wp2_with fail
            refine (HTD.out _ hR4).mono ?_
            rintro e w6 ⟨rfl, hR6, hO6⟩
            go_wp2_with fail
            refine (HONE.out _).mono ?_
            rintro e w7 ⟨q, rfl, hq, hb7⟩
            have hR7 := hR6.below hb7
            have m8 := hR6.lt
            go_wp2_with fail
            refine (takeOne 58 q g _ _ _ hR7 (by rw [HRL.out]; omega) hq).mono ?_
            rintro e w8 ⟨rfl, hR8, hO8⟩
            go_wp2_with fail
            go_ret2
            exact ⟨ret_eq (by rw [HX.out]; rfl), by rw [HX.out]; exact hR8, ((((hO3.next hb4 (Nat.le_of_lt m2)).trans hO6).next hb7 (Nat.le_of_lt m8))).trans hO8⟩
          · have hmi : ¬ (10 : Int) * (n : Int) + (d : Int) ≤ 40 := by omega
            have HX : Hid (File.readNum (b :: r) k = (n, File.takes (· == 58) r, File.rest (· == 58) r, File.on (· == 58) r (k + 1))) := Lib.hid (by rw [HRN.out, if_neg (by rw [← hd]; intro h; omega)])
            rw [hdr] at HDC
            rw [hcd2]
            clear hdr HRN HCD hd hcd hcd2
            go_wp2_with (first
              | (go_at_call 115; refine (HNR.out _).mono ?_; rintro e w4 ⟨rfl, hb4⟩; have hR4 := hR3.below hb4; obtain ⟨m3, m4, m5⟩ := hR4.agg)
              | (go_at_call 116; refine (HDC.out _).mono ?_; rintro e w' ⟨rfl, rfl⟩)
              | (go_at_call 118; refine (HONE.out _).mono ?_; rintro e w7 ⟨q, rfl, hq, hb7⟩; have hR7 := hR4.below hb7; obtain ⟨m6, m7, m8⟩ := hR7.agg)
              | (go_at_call 114; refine (takeOne 58 q g (k + 1) r _ hR7 (by omega) hq).mono ?_; rintro e w8 ⟨rfl, hR8, hO8⟩))
            go_ret2
            exact ⟨ret_eq (by rw [HX.out]; rfl), by rw [HX.out]; exact hR8, ((hO3.next hb4 (Nat.le_of_lt m2)).next hb7 (Nat.le_of_lt m5)).trans hO8⟩
      · have h0i : ¬ (0 : Int) < (n : Int) := by omega
        have HX : Hid (File.readNum (b :: r) k = (n, File.takes (· == 58) r, File.rest (· == 58) r, File.on (· == 58) r (k + 1))) := Lib.hid (by rw [HRN.out, if_neg (fun h => h0 h.1)])
        clear HRN HCD HDC
        go_wp2_with (first
          | (go_at_call 118; refine (HONE.out _).mono ?_; rintro e w7 ⟨q, rfl, hq, hb7⟩; have hR7 := hR3.below hb7; obtain ⟨m6, m7, m8⟩ := hR7.agg)
          | (go_at_call 114; refine (takeOne 58 q g (k + 1) r _ hR7 (by omega) hq).mono ?_; rintro e w8 ⟨rfl, hR8, hO8⟩))
        go_ret2
        exact ⟨ret_eq (by rw [HX.out]; rfl), by rw [HX.out]; exact hR8, (hO3.next hb7 (Nat.le_of_lt m2)).trans hO8⟩
  · have hd' : File.takes File.isDig l = false := by simpa using hd
    have HTD := Lib.hid (fun (W : World) (h : RD W g l k) => takeDigit g k l W h (by omega))
    rw [hd', rest_no hd', on_no hd'] at HTD
    have HX : Hid (File.readNum l k = (0, false, l, k)) := Lib.hid (by
      cases l with
      | nil => rfl
      | cons b r => show (if File.isDig b = true then _ else _) = _; rw [if_neg (by rw [show File.isDig b = false from hd']; simp)])
    obtain ⟨c, hc⟩ : ∃ c : Nat, c = (File.nextB l).toNat := ⟨_, rfl⟩
    have hc255 : c ≤ 255 := by have := (File.nextB l).toNat_lt; omega
    have HNR : Hid (∀ W : World, Calls Tryz.prog 115 #[.agg #[.string (File.ba l)]] W fun e w' => e = .returned (.int .u8 (c : Int)) ∧ Below W.heap.size W w') := Lib.hid fun W => by rw [hc]; exact next_spec l W
    clear hc hd hd'
    go_enter Tryz.func167, Tryz.ntmps167
    go_wp2_with (first
      | (go_at_call 115; refine (HNR.out _).mono ?_; rintro e w1 ⟨rfl, hb1⟩; have hR1 := hR.below hb1)
      | (go_at_call 114; refine (HTD.out _ hR1).mono ?_; rintro e w2 ⟨rfl, hR2, hO2⟩))
    go_ret2
    exact ⟨ret_eq (by rw [HX.out]; rfl), by rw [HX.out]; exact hR2, (Only.of_below hb1 (Nat.le_of_lt hg0)).trans hO2⟩
end Fl
end Go.Proofs.YtekkhnjepcebkaaGreatDoor
