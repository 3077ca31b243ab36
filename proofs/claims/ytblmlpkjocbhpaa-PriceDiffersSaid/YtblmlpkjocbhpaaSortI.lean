/- slices.Contains and slices.IsSorted of numbers; the spool's orders. Conditions: lengths are below a great bound. -/
import Derived.Test.YtblmlpkjocbhpaaEqR
import Derived.Test.YtblmlpkjocbhpaaTriedW
set_option linter.unusedVariables false
set_option linter.unusedSimpArgs false
namespace Go.Proofs.Ytblmlpkjocbhpaa
open Go.RowKit Go.Shelf
set_option maxRecDepth 100000
theorem index2I (A : Option Addr) (xs : List Int) (c : Nat) (r : Int) (w : World) (hm : xs.length ≤ big) (hs : Sl intE w A xs) :
    Calls Try.prog 112 #[.slice A xs.length c, iv r] w fun e w' => e = .returned (iv (findFrom (fun x => decide (r = x)) xs 0)) ∧ w = w' := by
  unfold big at hm
  go_enter Try.func112, Try.ntmps112
  go_wp2
  go_loop [5, 8] (fun _ i => ∃ (k : Nat), k ≤ xs.length ∧ i = iv k ∧ Hid (findFrom (fun x => decide (r = x)) (xs.drop k) k = findFrom (fun x => decide (r = x)) xs 0)) (fun _ i => xs.length - (intOf i).toNat)
  case atStart => exact ⟨0, by omega, rfl, rfl⟩
  case round =>
    obtain ⟨k, hk, rfl, hf⟩ := hrel
    by_cases hlt : k < xs.length
    · obtain ⟨b, off, p, rfl, hb, hp, hc⟩ := hs.atI hlt
      have hf' := hf.out
      rw [drop_at hp] at hf'
      simp only [findFrom] at hf'
      have HF := Lib.hid hf'
      have hlx : (k : Int) < (xs.length : Int) := by omega
      clear hf hf' hp hs
      by_cases hpq : r = p
      · have hpq' : (r == p) = true := by simpa using hpq
        have h2 := HF.out
        rw [if_pos (by simpa using hpq)] at h2
        have H2 := Lib.hid h2
        clear h2 HF hpq
        go_wp2
        go_ret
        exact ⟨ret_eq (by rw [← H2.out]; rfl), rfl⟩
      · have hpq' : (r == p) = false := by simpa using hpq
        have h2 := HF.out
        rw [if_neg (by simpa using hpq)] at h2
        have H2 := Lib.hid h2
        clear h2 HF hpq
        go_wp2
        go_round
        case rel => exact ⟨k + 1, by omega, by go_num, H2⟩
        case measure => simp [intOf]; omega
    · have hf' := hf.out
      rw [drop_end hlt] at hf'
      have HF := Lib.hid hf'
      clear hf hf'
      go_wp2
      go_ret
      exact ⟨ret_eq (by rw [← HF.out]; rfl), rfl⟩
theorem containsI_any (r : Int) (xs : List Int) (k : Int) (hk : 0 ≤ k) : decide (0 ≤ findFrom (fun x => decide (r = x)) xs k) = xs.contains r := by
  rw [findFrom_nonneg _ xs k hk]
  induction xs with
  | nil => rfl
  | cons x xs ih => simp only [List.any_cons, ih, List.contains_cons]; congr 1
theorem contains2I (A : Option Addr) (xs : List Int) (c : Nat) (r : Int) (w : World) (hm : xs.length ≤ big) (hs : Sl intE w A xs) :
    Calls Try.prog 66 #[.slice A xs.length c, iv r] w fun e w' => e = .returned (.bool (xs.contains r)) ∧ w = w' := by
  have HI := Lib.hid (index2I A xs c r w hm hs)
  have HC := Lib.hid (containsI_any r xs 0 (Int.le_refl 0))
  generalize findFrom (fun x => decide (r = x)) xs 0 = fi at *
  go_enter Try.func66, Try.ntmps66
  go_wp2_with (go_at_call 112; refine HI.out.mono ?_; rintro e w1 ⟨rfl, rfl⟩)
  go_ret
  exact ⟨ret_eq (by rw [← HC.out]; rfl), rfl⟩
theorem isNaN_int (x : Int) (w : World) : Calls Try.prog 140 #[iv x] w fun e w' => e = .returned (.bool false) ∧ w = w' := by
  go_enter Try.func140, Try.ntmps140
  go_wp2
  go_ret
  exact ⟨by simp, rfl⟩
theorem less_int (x y : Int) (w : World) : Calls Try.prog 113 #[iv x, iv y] w fun e w' => e = .returned (.bool (decide (x < y))) ∧ w = w' := by
  by_cases h : x < y
  · rw [decide_eq_true h]
    go_enter Try.func113, Try.ntmps113
    go_wp2_with (go_at_call 140; refine (isNaN_int _ _).mono ?_; rintro e w' ⟨rfl, rfl⟩)
    go_ret
    exact ⟨by first | rfl | (simp; done) | (simp; omega), rfl⟩
  · rw [decide_eq_false h]
    go_enter Try.func113, Try.ntmps113
    go_wp2_with (go_at_call 140; refine (isNaN_int _ _).mono ?_; rintro e w' ⟨rfl, rfl⟩)
    go_ret
    exact ⟨by first | rfl | (simp; done) | (simp; omega), rfl⟩
/-- Do the numbers rise? -/
def Rising (xs : List Int) : Prop := ∀ k x y, xs[k]? = some x → xs[k + 1]? = some y → x ≤ y
set_option maxHeartbeats 2000000 in
theorem sortedI (A : Option Addr) (xs : List Int) (c : Nat) (w : World) (hm : xs.length ≤ big) (hs : Sl intE w A xs) (hr : Rising xs) :
    Calls Try.prog 67 #[.slice A xs.length c] w fun e w' => e = .returned (.bool true) ∧ Below w.heap.size w w' := by
  unfold big at hm
  have HR := Lib.hid hr
  have hwl : IntKind.i64.wrap ((xs.length : Int) - 1) = (xs.length : Int) - 1 := IntWalk.i64_in _ (by omega)
  clear hr
  go_enter Try.func67, Try.ntmps67
  go_wp2
  go_loopw [3] (fun i wr => ∃ k : Int, -1 ≤ k ∧ k < xs.length ∧ i = iv k ∧ Below w.heap.size w wr) (fun i _ => (intOf i).toNat)
  case atStart => exact ⟨(xs.length : Int) - 1, by omega, by omega, rfl, Below.refl _ _⟩
  case round =>
    obtain ⟨k, hk0, hk1, rfl, hbw⟩ := hrel
    by_cases hlt : 0 < k
    · obtain ⟨j, rfl⟩ : ∃ j : Nat, k = ((j + 1 : Nat) : Int) := ⟨(k - 1).toNat, by omega⟩
      have hj1 : j + 1 < xs.length := by omega
      obtain ⟨b, off, x, rfl, hb, hx, hc⟩ := (hs.below hbw).atI (k := j) (by omega)
      obtain ⟨b2, off2, y, hA, hb2, hy, hc2⟩ := (hs.below hbw).atI (k := j + 1) hj1
      injection hA with hA
      injection hA with e1 e2
      subst e1 e2
      have hxy := HR.out j x y hx hy
      have q1 : IntKind.i64.wrap ((j : Int) + 1 - 1) = (j : Int) := by rw [Int.add_sub_cancel]; exact IntWalk.i64_in _ (by omega)
      have q6 : IntKind.i64.wrap (j : Int) = (j : Int) := IntWalk.i64_in _ (by omega)
      have q2 : (j : Int) + 1 < (xs.length : Int) := by omega
      have q3 : (j : Int) < (xs.length : Int) := by omega
      have q4 : (0 : Int) ≤ (j : Int) + 1 := by omega
      have q5 : ((j : Int) + 1).toNat = j + 1 := by omega
      have HFF : Hid (∀ a : World, Below wr.heap.size wr a → a.cell? ⟨b, off + j, none⟩ = some (iv x) ∧ a.cell? ⟨b, off + (j + 1), none⟩ = some (iv y)) := fun a h => ⟨(h.cell (p := ⟨b, off + j, none⟩) hb).trans hc, (h.cell (p := ⟨b, off + (j + 1), none⟩) hb).trans hc2⟩
      have HL : Hid (∀ a : World, Calls Try.prog 113 #[iv y, iv x] a fun e w' => e = .returned (.bool false) ∧ Below a.heap.size a w') := fun a => by
        have := less_int y x a
        rw [decide_eq_false (by omega)] at this
        exact this.mono fun e w' h => ⟨h.1, by rw [← h.2]; exact Below.refl _ _⟩
      clear hc hc2 hx hy hxy
      go_wp2_with fail
      refine wp_havoc_lit (by kernel_rfl) (by kernel_rfl) ?_
      repeat (first
        | (refine hv_skip (by rfl) ?_; simp only [Act.put, List.setIfInBounds_toArray, List.set_cons_zero, List.set_cons_succ])
        | (apply hv_val (by rfl); (intro w hw; have F := HFF.out w hw; go_simp; exact rfl); simp only [Act.put, List.setIfInBounds_toArray, List.set_cons_zero, List.set_cons_succ])
        | (apply hv_call (by rfl); (intro w hw; have F := HFF.out w hw; go_simp; exact ⟨rfl, rfl⟩); (intro w hw; have F := HFF.out w hw; with_reducible exact HL.out w); simp only [Act.put, List.setIfInBounds_toArray, List.set_cons_zero, List.set_cons_succ]))
      refine hv_nil ?_
      rintro w3 hb3
      go_wp2
      go_roundw
      case rel => exact ⟨(j : Int), by omega, by omega, (by first | rfl | go_num), hbw.next hb3 (Nat.le_refl _)⟩
      case measure => simp [intOf] <;> omega
    · go_wp2
      go_ret
      exact ⟨rfl, hbw⟩
end Go.Proofs.Ytblmlpkjocbhpaa
