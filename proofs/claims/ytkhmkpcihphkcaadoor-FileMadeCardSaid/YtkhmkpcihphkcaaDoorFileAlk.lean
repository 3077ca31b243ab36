/- How much two lists have in common: the same in either order, all just if they are the same, nothing just if no element is in both. Plain laws. -/
import Derived.Test.YtkhmkpcihphkcaaDoorFileDiff
set_option linter.unusedVariables false
set_option linter.unusedSimpArgs false
namespace Go.Proofs.YtkhmkpcihphkcaaDoor
namespace File
set_option linter.unusedSectionVars false
section
variable {α : Type} [DecidableEq α]
theorem lcs_comm (a b : List α) : lcs a b = lcs b a := by
  have key : ∀ a b : List α, lcs a b ≤ lcs b a := fun a b => by
    rw [← common_length a b, ← common_length b a]
    have := pairs_most (pairs_swap (common_pairs a b))
    simpa [swap] using this
  exact Nat.le_antisymm (key a b) (key b a)
theorem lcs_most_r (a b : List α) : lcs a b ≤ b.length := by rw [lcs_comm]; exact lcs_most b a
theorem lcs_self (a : List α) : lcs a a = a.length := by
  induction a with
  | nil => rfl
  | cons x a ih =>
    have := lcs_most (x :: a) (x :: a)
    rw [lcs_cons, if_pos rfl] at this ⊢
    simp only [List.length_cons] at *
    omega
theorem lcs_all : ∀ {a b : List α}, lcs a b = a.length → a.length = b.length → a = b
  | [], b, _, h => (List.eq_nil_of_length_eq_zero h.symm).symm
  | x :: a, [], _, h => by simp at h
  | x :: a, y :: b, h, hl => by
    have h1 := lcs_most a (y :: b)
    have h2 := lcs_most_r (x :: a) b
    simp only [List.length_cons] at hl h
    rw [lcs_cons] at h
    split at h
    · rename_i he
      subst he
      have : lcs a b = a.length := by
        have h3 := lcs_most a b
        omega
      rw [lcs_all this (by omega)]
    · omega
theorem lcs_met {a b : List α} : lcs a b = 0 ↔ ∀ x ∈ a, x ∉ b := by
  constructor
  · intro h x hx hy
    obtain ⟨i, hi, rfl⟩ := List.getElem_of_mem hx
    obtain ⟨j, hj, he⟩ := List.getElem_of_mem hy
    have := pairs_most (a := a) (b := b) (l := [(i, j)]) ⟨Nat.zero_le _, Nat.zero_le _, ⟨hi, hj, he.symm⟩, trivial⟩
    rw [common_length] at this
    simp at this
    omega
  · intro h
    have hp := common_pairs a b
    rw [← common_length]
    cases hc : common a b with
    | nil => rfl
    | cons p r =>
      rw [hc] at hp
      obtain ⟨_, _, ⟨h1, h2, h3⟩, _⟩ := hp
      exact absurd (h3 ▸ List.getElem_mem h2) (h _ (List.getElem_mem h1))
theorem pairs_snoc {a b : List α} {e : α} : ∀ {l : List (Nat × Nat)} {i j : Nat}, Pairs a b i j l → i ≤ a.length → j ≤ b.length → Pairs (a ++ [e]) (b ++ [e]) i j (l ++ [(a.length, b.length)])
  | [], i, j, _, hi, hj => ⟨hi, hj, ⟨by simp, by simp, by simp⟩, trivial⟩
  | p :: r, i, j, ⟨h1, h2, ⟨h3, h4, h5⟩, h6⟩, _, _ => ⟨h1, h2, ⟨by simp; omega, by simp; omega, by rw [List.getElem_append_left h3, List.getElem_append_left h4]; exact h5⟩, pairs_snoc h6 h3 h4⟩
theorem lcs_snoc (a b : List α) (e : α) : lcs a b + 1 ≤ lcs (a ++ [e]) (b ++ [e]) := by
  have := pairs_most (pairs_snoc (e := e) (common_pairs a b) (Nat.zero_le _) (Nat.zero_le _))
  rw [common_length, List.length_append, common_length] at this
  simpa using this
/-- A ratio in its least terms. -/
def ratio (x y : Nat) : Nat × Nat := (x / Nat.gcd x y, y / Nat.gcd x y)
theorem ratio_mul (x y : Nat) : (ratio x y).1 * Nat.gcd x y = x ∧ (ratio x y).2 * Nat.gcd x y = y :=
  ⟨Nat.div_mul_cancel (Nat.gcd_dvd_left x y), Nat.div_mul_cancel (Nat.gcd_dvd_right x y)⟩
theorem ratio_pos {x y : Nat} (h : 0 < y) : 0 < Nat.gcd x y ∧ 1 ≤ (ratio x y).2 := by
  have hg := Nat.gcd_pos_of_pos_right x h
  have := (ratio_mul x y).2
  refine ⟨hg, ?_⟩
  cases h2 : (ratio x y).2 with
  | zero => rw [h2] at this; omega
  | succ n => omega
theorem ratio_le {x y : Nat} (h : x ≤ y) : (ratio x y).1 ≤ (ratio x y).2 := Nat.div_le_div_right h
theorem ratio_one {x y : Nat} (h : 0 < y) : ratio x y = (1, 1) ↔ x = y := by
  obtain ⟨h1, h2⟩ := ratio_mul x y
  constructor
  · intro e
    rw [e] at h1 h2
    omega
  · intro e
    subst e
    simp [ratio, Nat.div_self h]
theorem ratio_zero {x y : Nat} (h : 0 < y) : ratio x y = (0, 1) ↔ x = 0 := by
  obtain ⟨h1, h2⟩ := ratio_mul x y
  constructor
  · intro e
    rw [e] at h1
    omega
  · intro e
    subst e
    simp [ratio, Nat.div_self h]
theorem ratio_cross {x y x' y' : Nat} (hy : 0 < y) (hy' : 0 < y') (h : x * y' ≤ x' * y) : (ratio x y).1 * (ratio x' y').2 ≤ (ratio x' y').1 * (ratio x y).2 := by
  obtain ⟨h1, h2⟩ := ratio_mul x y
  obtain ⟨h3, h4⟩ := ratio_mul x' y'
  have hg := (ratio_pos (x := x) hy).1
  have hg' := (ratio_pos (x := x') hy').1
  generalize Nat.gcd x y = g at *
  generalize Nat.gcd x' y' = g' at *
  generalize ratio x y = p at *
  generalize ratio x' y' = q at *
  have e1 : x * y' = (p.1 * q.2) * (g * g') := by rw [← h1, ← h4, Nat.mul_mul_mul_comm]
  have e2 : x' * y = (q.1 * p.2) * (g * g') := by rw [← h3, ← h2, Nat.mul_mul_mul_comm, Nat.mul_comm g' g]
  rw [e1, e2] at h
  exact Nat.le_of_mul_le_mul_right h (Nat.mul_pos hg hg')
/-- The law of two lists that are alike. -/
theorem alike_more (a b : List α) (e : α) (h : 0 < a.length + b.length) :
    (ratio (2 * lcs a b) (a.length + b.length)).1 * (ratio (2 * lcs (a ++ [e]) (b ++ [e])) ((a ++ [e]).length + (b ++ [e]).length)).2 ≤ (ratio (2 * lcs (a ++ [e]) (b ++ [e])) ((a ++ [e]).length + (b ++ [e]).length)).1 * (ratio (2 * lcs a b) (a.length + b.length)).2 := by
  refine ratio_cross h (by simp; omega) ?_
  have h1 := lcs_snoc a b e
  have h2 := lcs_most a b
  have h3 := lcs_most_r a b
  simp only [List.length_append, List.length_singleton]
  generalize lcs (a ++ [e]) (b ++ [e]) = q at *
  generalize lcs a b = p at *
  generalize a.length = m at *
  generalize b.length = n at *
  have h4 : 2 * (p + 1) * (m + n) ≤ 2 * q * (m + n) := Nat.mul_le_mul_right _ (by omega)
  have e1 : 2 * p * (m + 1 + (n + 1)) = 2 * p * (m + n) + 4 * p := by rw [show m + 1 + (n + 1) = (m + n) + 2 by omega, Nat.mul_add]; omega
  have e2 : 2 * (p + 1) * (m + n) = 2 * p * (m + n) + 2 * (m + n) := by rw [show 2 * (p + 1) = 2 * p + 2 by omega, Nat.add_mul]
  omega
end
end File
end Go.Proofs.YtkhmkpcihphkcaaDoor
