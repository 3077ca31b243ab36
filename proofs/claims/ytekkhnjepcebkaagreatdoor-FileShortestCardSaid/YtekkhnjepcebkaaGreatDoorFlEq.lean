/- slices.Equal of strings. Condition: lengths are below a great bound. -/
import Derived.Test.YtekkhnjepcebkaaGreatDoorFlG
import Derived.BigQuiet
set_option linter.unusedVariables false
set_option linter.unusedSimpArgs false
namespace Go.Proofs.YtekkhnjepcebkaaGreatDoor
namespace Fl
open Go.RowKit Go.Shelf
set_option maxRecDepth 100000
theorem take_ne' {α : Type} {l l' : List α} {k : Nat} {p q : α} (hp : l[k]? = some p) (hq : l'[k]? = some q) (h : p ≠ q) : l ≠ l' := by
  rintro rfl
  rw [hp] at hq
  exact h (Option.some.inj hq)
set_option maxHeartbeats 1000000 in
theorem equalS (A : Option Addr) (xs : List ByteArray) (c : Nat) (A' : Option Addr) (ys : List ByteArray) (c' : Nat) (w : World) (hm : xs.length ≤ big) (hs : Sl strE w A xs) (hm' : ys.length ≤ big) (hs' : Sl strE w A' ys) :
    Calls Tryz.prog 18 #[.slice A xs.length c, .slice A' ys.length c'] w fun e w' => e = .returned (.bool (decide (xs = ys))) ∧ Below w.heap.size w w' := by
  unfold big at hm hm'
  by_cases hl : xs.length = ys.length
  · have hl' : ((xs.length : Int) != (ys.length : Int)) = false := by simp [hl]
    have HL := Lib.hid hl
    clear hl
    go_enter Tryz.func18, Tryz.ntmps18
    go_wp2
    go_loopw [5, 13] (fun _ i wr => ∃ (k : Nat), k ≤ xs.length ∧ i = iv k ∧ Hid (xs.take k = ys.take k) ∧ Below w.heap.size w wr) (fun _ i _ => xs.length - (intOf i).toNat)
    case atStart => exact ⟨0, by omega, rfl, rfl, Below.refl _ _⟩
    case round =>
      obtain ⟨k, hk, rfl, hf, hbw⟩ := hrel
      by_cases hlt : k < xs.length
      · obtain ⟨b, off, p, rfl, hb, hp, hp0⟩ := Sl.atS (hs.below hbw) hlt
        obtain ⟨b', off', q, rfl, hb', hq, hq0⟩ := Sl.atS (hs'.below hbw) (by have := HL.out; omega : k < ys.length)
        have hly : (k : Int) < (ys.length : Int) := by have := HL.out; omega
        have hlx : (k : Int) < (xs.length : Int) := by omega
        have HP := Lib.hid hp
        have HQ := Lib.hid hq
        clear hp hq hs hs'
        have hsq := str_eq p q
        by_cases hpq : p = q
        · rw [decide_eq_true hpq] at hsq
          have HPQ := Lib.hid hpq
          clear hpq
          go_wp2
          go_quiet (fail)
          have hqd : Below w.heap.size w (wr.drewN nq) := ⟨hbw.os, hbw.tape, hbw.output, hbw.size, hbw.block⟩
          generalize wr.drewN nq = wq at *
          go_wp2
          go_roundw
          case rel => exact ⟨k + 1, by omega, by go_num, by
            show xs.take (k + 1) = ys.take (k + 1)
            rw [List.take_add_one, List.take_add_one, HP.out, HQ.out, HPQ.out, hf.out], hqd⟩
          case measure => simp [intOf]; omega
        · rw [decide_eq_false hpq] at hsq
          have HPQ := Lib.hid hpq
          clear hpq
          go_wp2
          go_quiet (fail)
          have hqd : Below w.heap.size w (wr.drewN nq) := ⟨hbw.os, hbw.tape, hbw.output, hbw.size, hbw.block⟩
          generalize wr.drewN nq = wq at *
          go_wp2
          go_ret
          exact ⟨ret_eq (by rw [decide_eq_false (take_ne' HP.out HQ.out HPQ.out)]; rfl), hqd⟩
      · have he : xs = ys := by
          have := hf.out
          rwa [List.take_of_length_le (by omega), List.take_of_length_le (by have := HL.out; omega)] at this
        have HE := Lib.hid he
        clear he
        go_wp2
        go_ret
        exact ⟨ret_eq (by rw [decide_eq_true HE.out]; rfl), (by first | exact hbw | exact hbw.drew)⟩
  · have hl' : ((xs.length : Int) != (ys.length : Int)) = true := by simp; omega
    go_enter Tryz.func18, Tryz.ntmps18
    go_wp2
    go_ret
    exact ⟨ret_eq (by rw [decide_eq_false (fun h => hl (by rw [h]))]; rfl), Below.refl _ _⟩
end Fl
end Go.Proofs.YtekkhnjepcebkaaGreatDoor
