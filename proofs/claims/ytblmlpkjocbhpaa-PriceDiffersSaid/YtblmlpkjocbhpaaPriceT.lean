/- petershamkit.Eq of pieces. Condition: lengths are below a great bound. -/
import Derived.Test.YtblmlpkjocbhpaaPriceS
set_option linter.unusedVariables false
set_option linter.unusedSimpArgs false
namespace Go.Proofs.Ytblmlpkjocbhpaa
open Go.RowKit Go.Shelf
set_option maxRecDepth 100000

theorem take_ne {α : Type} {xs ys : List α} {k : Nat} {x y : α} (hx : xs[k]? = some x) (hy : ys[k]? = some y) (h : x ≠ y) : xs ≠ ys := by
  rintro rfl
  rw [hx] at hy
  injection hy with hy
  exact h hy
set_option maxHeartbeats 1000000 in
theorem equalP (A : Option Addr) (xs : List Piece) (c : Nat) (A' : Option Addr) (ys : List Piece) (c' : Nat) (w : World) (hm : xs.length ≤ big) (hs : Sl pieceE w A xs) (hm' : ys.length ≤ big) (hs' : Sl pieceE w A' ys) :
    Calls Try.prog 74 #[.slice A xs.length c, .slice A' ys.length c'] w fun e w' => e = .returned (.bool (decide (xs = ys))) ∧ Below w.heap.size w w' := by
  unfold big at hm hm'
  by_cases hl : xs.length = ys.length
  · have hl' : ((xs.length : Int) != (ys.length : Int)) = false := by simp [hl]
    have HL := Lib.hid hl
    clear hl
    go_enter Try.func74, Try.ntmps74
    go_wp2
    go_loopw [5, 13] (fun _ i wr => ∃ (k : Nat), k ≤ xs.length ∧ i = iv k ∧ Hid (xs.take k = ys.take k) ∧ Below w.heap.size w wr) (fun _ i _ => xs.length - (intOf i).toNat)
    case atStart => exact ⟨0, by omega, rfl, rfl, Below.refl _ _⟩
    case round =>
      obtain ⟨k, hk, rfl, hf, hbw⟩ := hrel
      by_cases hlt : k < xs.length
      · obtain ⟨b, off, p, rfl, hb, hp, hp0, hp1, hp2⟩ := (hs.below hbw).atP hlt
        obtain ⟨b', off', q, rfl, hb', hq, hq0, hq1, hq2⟩ := (hs'.below hbw).atP (by have := HL.out; omega : k < ys.length)
        obtain ⟨pa, pb, pc⟩ := p
        obtain ⟨qa, qb, qc⟩ := q
        dsimp only at hp0 hp1 hp2 hq0 hq1 hq2
        have hly : (k : Int) < (ys.length : Int) := by have := HL.out; omega
        have hlx : (k : Int) < (xs.length : Int) := by omega
        have heq : ∀ w, (Op.equalIn 10000 42 (.agg #[iv pa, iv pb, iv pc]) (.agg #[iv qa, iv qb, iv qc])).run Try.prog w = .ok (decide ((⟨pa, pb, pc⟩ : Piece) = ⟨qa, qb, qc⟩)) w := fun w => by
          rw [eqPiece]
          congr 1
          by_cases h1 : pa = qa <;> by_cases h2 : pb = qb <;> by_cases h3 : pc = qc <;> simp [h1, h2, h3]
        have HP := Lib.hid hp
        have HQ := Lib.hid hq
        clear hp hq hs hs'
        by_cases hpq : (⟨pa, pb, pc⟩ : Piece) = ⟨qa, qb, qc⟩
        · rw [decide_eq_true hpq] at heq
          have HPQ := Lib.hid hpq
          clear hpq
          go_wp2
          go_region
          go_wp2
          go_roundw
          case rel => exact ⟨k + 1, by omega, by go_num, by
            show xs.take (k + 1) = ys.take (k + 1)
            rw [List.take_add_one, List.take_add_one, HP.out, HQ.out, HPQ.out, hf.out], (by first | exact hbw | exact hbw.drew)⟩
          case measure => simp [intOf]; omega
        · rw [decide_eq_false hpq] at heq
          have HPQ := Lib.hid hpq
          clear hpq
          go_wp2
          go_region
          go_wp2
          go_ret
          exact ⟨ret_eq (by rw [decide_eq_false (take_ne HP.out HQ.out HPQ.out)]; rfl), (by first | exact hbw | exact hbw.drew)⟩
      · have he : xs = ys := by
          have := hf.out
          rwa [List.take_of_length_le (by omega), List.take_of_length_le (by have := HL.out; omega)] at this
        have HE := Lib.hid he
        clear he
        go_wp2
        go_ret
        exact ⟨ret_eq (by rw [decide_eq_true HE.out]; rfl), (by first | exact hbw | exact hbw.drew)⟩
  · have hl' : ((xs.length : Int) != (ys.length : Int)) = true := by simp; omega
    go_enter Try.func74, Try.ntmps74
    go_wp2
    go_ret
    exact ⟨ret_eq (by rw [decide_eq_false (fun h => hl (by rw [h]))]; rfl), Below.refl _ _⟩
theorem eqP (A : Option Addr) (xs : List Piece) (c : Nat) (A' : Option Addr) (ys : List Piece) (c' : Nat) (w : World) (hm : xs.length ≤ big) (hs : Sl pieceE w A xs) (hm' : ys.length ≤ big) (hs' : Sl pieceE w A' ys) :
    Calls Try.prog 31 #[.slice A xs.length c, .slice A' ys.length c'] w fun e w' => e = .returned (.bool (decide (xs = ys))) ∧ Below w.heap.size w w' := by
  go_enter Try.func31, Try.ntmps31
  go_wp2_with (go_at_call 74; refine (equalP A xs c A' ys c' w hm hs hm' hs').mono ?_; rintro e w1 ⟨rfl, hb1⟩)
  go_ret
  exact ⟨rfl, hb1⟩
end Go.Proofs.Ytblmlpkjocbhpaa
