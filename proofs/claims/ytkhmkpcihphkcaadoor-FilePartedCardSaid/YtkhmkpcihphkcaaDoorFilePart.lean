/- Joins on a base without lines; where conflicts lie (plain laws). No condition. -/
import Derived.Test.YtkhmkpcihphkcaaDoorFileJoin2
set_option linter.unusedVariables false
set_option linter.unusedSimpArgs false
namespace Go.Proofs.YtkhmkpcihphkcaaDoor
namespace File
section
variable {α : Type} [DecidableEq α]
theorem diff_empty {b : List α} (hb : b ≠ []) : diff [] b = [⟨0, [], b⟩] := by
  have hc : common ([] : List α) b = [] := List.eq_nil_of_length_eq_zero (by rw [common_length]; rfl)
  have hl : 0 < b.length := List.length_pos_iff.2 hb
  unfold diff
  rw [hc]
  simp only [List.nil_append, diffGo, List.length_nil, List.append_nil]
  rw [if_neg (by rintro ⟨_, h⟩; omega)]
  simp [cut]
theorem join_empty {a b : List α} (ha : a ≠ []) (hb : b ≠ []) (hab : a ≠ b) : join [] a b = ([], [(0, 0)]) := by
  unfold join
  rw [diff_empty ha, diff_empty hb]
  have hm : blocks [(⟨0, [], a⟩ : Edit α)] [⟨0, [], b⟩] = [⟨0, 0, [⟨0, [], a⟩], [⟨0, [], b⟩]⟩] := by
    simp [blocks, merge, mergeGo, blocksOf, grow, Block.new, Block.add, Edit.lo, Edit.hi]
  rw [hm]
  simp [joinGo, hasGo, cut, Edit.lo, hab]
theorem join_emptyA (b : List α) : join [] [] b = (b, []) := by rw [join_swap]; exact join_base [] b
theorem parts_at {n : Nat} : ∀ {l : List (Nat × Nat)} {i k : Nat} {p : Nat × Nat}, Parts n i l → l[k]? = some p → i ≤ p.1 ∧ p.1 ≤ p.2 ∧ p.2 ≤ n
  | [], _, _, _, _, h => by simp at h
  | q :: r, i, 0, p, ⟨h1, h2, h3, _⟩, h => by
    simp at h; subst h; exact ⟨h1, h2, h3⟩
  | q :: r, i, k + 1, p, ⟨h1, h2, h3, h4⟩, h => by
    obtain ⟨a, b, c⟩ := parts_at h4 (show r[k]? = some p by simpa using h)
    exact ⟨by omega, b, c⟩
theorem parts_len {n : Nat} : ∀ {l : List (Nat × Nat)} {i : Nat}, Parts n i l → l ≠ [] → l.length + i ≤ n + 1
  | [], _, _, h => absurd rfl h
  | [p], i, ⟨h1, h2, h3, _⟩, _ => by simp; omega
  | p :: q :: r, i, ⟨h1, h2, h3, h4⟩, _ => by
    have := parts_len h4 (by simp)
    simp only [List.length_cons] at this ⊢
    omega
theorem parts_next {n : Nat} : ∀ {l : List (Nat × Nat)} {i k : Nat} {p q : Nat × Nat}, Parts n i l → l[k]? = some p → l[k + 1]? = some q → p.2 + 1 ≤ q.1
  | [], _, _, _, _, _, h, _ => by simp at h
  | x :: r, i, 0, p, q, ⟨h1, h2, h3, h4⟩, h, h' => by
    simp at h; subst h
    exact (parts_at h4 (show r[0]? = some q by simpa using h')).1
  | x :: r, i, k + 1, p, q, ⟨h1, h2, h3, h4⟩, h, h' => parts_next h4 (show r[k]? = some p by simpa using h) (show r[k + 1]? = some q by simpa using h')
end
end File
end Go.Proofs.YtkhmkpcihphkcaaDoor
