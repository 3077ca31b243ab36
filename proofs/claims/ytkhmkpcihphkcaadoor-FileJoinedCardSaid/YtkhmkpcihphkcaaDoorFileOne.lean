/- Joins of two copies of a list of different lines that changed one line each. Plain laws. -/
import Derived.Test.YtkhmkpcihphkcaaDoorFileJoin2
set_option linter.unusedVariables false
set_option linter.unusedSimpArgs false
namespace Go.Proofs.YtkhmkpcihphkcaaDoor
namespace File
set_option linter.unusedSectionVars false
section
variable {α : Type} [DecidableEq α]
theorem lcs_cons_le (z : α) (u v : List α) : lcs u v + 1 ≤ lcs (z :: u) (z :: v) := by
  rw [lcs_cons, if_pos rfl]; omega
theorem lcs_one (p q : List α) (c x : α) : p.length + q.length ≤ lcs (p ++ c :: q) (p ++ x :: q) := by
  induction p with
  | nil =>
    have h1 := lcs_left c q (x :: q)
    have h2 := lcs_right x q q
    rw [lcs_self] at h2
    simp only [List.nil_append, List.length_nil]
    omega
  | cons z p ih =>
    have := lcs_cons_le z (p ++ c :: q) (p ++ x :: q)
    simp only [List.cons_append, List.length_cons]
    omega
theorem set_parts {base : List α} {i : Nat} (hi : i < base.length) (x : α) : base = base.take i ++ base[i] :: base.drop (i + 1) ∧ base.set i x = base.take i ++ x :: base.drop (i + 1) := by
  refine ⟨?_, by rw [List.set_eq_take_append_cons_drop, if_pos hi]⟩
  rw [← List.drop_eq_getElem_cons hi, List.take_append_drop]
theorem cut_one {a : List α} {i : Nat} (hi : i < a.length) : cut a i (i + 1) = [a[i]] := by
  unfold cut
  rw [List.drop_eq_getElem_cons hi, show i + 1 - i = 1 by omega]
  rfl
/-- The common pairs with a copy in which one line is another one lie on the diagonal. -/
theorem pair_diag {base : List α} (hn : base.Nodup) {i : Nat} (hi : i < base.length) {x : α} (hx : x ∉ base) {p q : Nat} (h1 : p < base.length) (h2 : q < (base.set i x).length) (h : base[p] = (base.set i x)[q]) : p = q ∧ p ≠ i := by
  rw [List.getElem_set] at h
  split at h
  · exact absurd (h ▸ List.getElem_mem h1) hx
  · rename_i hne
    have : p = q := (List.getElem_inj hn).1 h
    exact ⟨this, fun e => hne (by omega)⟩
theorem diag_most {base : List α} (hn : base.Nodup) {i : Nat} (hi : i < base.length) {x : α} (hx : x ∉ base) : ∀ (l : List (Nat × Nat)) (j : Nat), Pairs base (base.set i x) j j l → j ≤ base.length → l.length + (if j ≤ i then 1 else 0) ≤ base.length - j
  | [], j, _, hj => by
    split
    · simp; omega
    · simp
  | p :: r, j, ⟨h1, h2, ⟨h3, h4, h5⟩, h6⟩, hj => by
    obtain ⟨e, hne⟩ := pair_diag hn hi hx h3 h4 h5
    rw [← e] at h6
    have ih := diag_most hn hi hx r (p.1 + 1) h6 (by omega)
    simp only [List.length_cons]
    split at ih <;> split <;> omega
theorem diffGo_one {base : List α} (hn : base.Nodup) {i : Nat} (hi : i < base.length) {x : α} (hx : x ∉ base) : ∀ (l : List (Nat × Nat)) (j : Nat), Pairs base (base.set i x) j j l → j ≤ base.length → base.length - j ≤ l.length + (if j ≤ i then 1 else 0) →
    diffGo base (base.set i x) j j (l ++ [(base.length, (base.set i x).length)]) = if j ≤ i then [⟨(i : Int), [base[i]], [x]⟩] else []
  | [], j, _, hj, hl => by
    have hsl : (base.set i x).length = base.length := List.length_set
    simp only [List.nil_append, diffGo, List.append_nil, hsl]
    by_cases hji : j ≤ i
    · simp only [List.length_nil, if_pos hji] at hl
      have hji' : j = i := by omega
      subst hji'
      have e : base.length = j + 1 := by omega
      rw [if_neg (by omega), if_pos (Nat.le_refl _), e, cut_one hi, cut_one (by rw [hsl]; exact hi)]
      simp
    · simp only [List.length_nil, if_neg hji] at hl
      rw [if_pos ⟨by omega, by omega⟩, if_neg hji]
  | p :: r, j, ⟨h1, h2, ⟨h3, h4, h5⟩, h6⟩, hj, hl => by
    obtain ⟨e, hne⟩ := pair_diag hn hi hx h3 h4 h5
    have hm := diag_most hn hi hx r (p.1 + 1) (by rw [← e] at h6; exact h6) (by omega)
    have hsl : (base.set i x).length = base.length := List.length_set
    simp only [List.length_cons] at hl
    have ih := diffGo_one hn hi hx r (p.1 + 1) (by rw [← e] at h6; exact h6) (by omega)
    simp only [List.cons_append, diffGo]
    rw [← e]
    by_cases hpj : p.1 = j
    · rw [if_pos ⟨hpj, hpj⟩, List.nil_append, ih (by split <;> split at hl <;> omega), hpj]
      by_cases hji : j ≤ i
      · rw [if_pos hji, if_pos (by omega)]
      · rw [if_neg hji, if_neg (by omega)]
    · have hji : j ≤ i := by split at hl <;> split at hm <;> omega
      have hip : p.1 = i + 1 := by rw [if_pos hji] at hl; split at hm <;> omega
      have hij : j = i := by rw [if_pos hji] at hl; split at hm <;> omega
      subst hij
      rw [if_neg (by omega), if_pos (Nat.le_refl _), ih (by rw [if_neg (by omega)]; rw [if_pos hji] at hl; omega), if_neg (by omega), hip, cut_one hi, cut_one (by rw [hsl]; exact hi)]
      simp
theorem diff_one {base : List α} (hn : base.Nodup) {i : Nat} (hi : i < base.length) {x : α} (hx : x ∉ base) : diff base (base.set i x) = [⟨(i : Int), [base[i]], [x]⟩] := by
  have hl : base.length ≤ (common base (base.set i x)).length + 1 := by
    rw [common_length]
    obtain ⟨h1, h2⟩ := set_parts hi x
    have := lcs_one (base.take i) (base.drop (i + 1)) base[i] x
    rw [← h1, ← h2, List.length_take, List.length_drop] at this
    omega
  have := diffGo_one hn hi hx (common base (base.set i x)) 0 (common_pairs _ _) (Nat.zero_le _) (by rw [if_pos (Nat.zero_le _)]; omega)
  unfold diff
  rw [this, if_pos (Nat.zero_le _)]
theorem join_ones {base : List α} (hn : base.Nodup) {i k : Nat} (hi : i < base.length) (hk : k < base.length) {x y : α} (hx : x ∉ base) (hy : y ∉ base) (hxy : x ≠ y) (hik : i ≤ k) :
    join base (base.set i x) (base.set k y) = if k ≤ i + 1 then (base, [(i, k + 1)]) else ((base.set i x).set k y, []) := by
  unfold join
  rw [diff_one hn hi hx, diff_one hn hk hy]
  have hnk : ¬ (k : Int) < i := by omega
  have hm : merge [(⟨(i : Int), [base[i]], [x]⟩ : Edit α)] [⟨(k : Int), [base[k]], [y]⟩] = [(false, ⟨(i : Int), [base[i]], [x]⟩), (true, ⟨(k : Int), [base[k]], [y]⟩)] := by
    unfold merge
    show (if (k : Int) < i then _ else _) = _
    rw [if_neg hnk]
    rfl
  unfold blocks
  rw [hm]
  have l1 : (⟨(i : Int), [base[i]], [x]⟩ : Edit α).lo = i := rfl
  have l2 : (⟨(k : Int), [base[k]], [y]⟩ : Edit α).lo = k := rfl
  have l3 : (⟨(i : Int), [base[i]], [x]⟩ : Edit α).hi = i + 1 := rfl
  have l4 : (⟨(k : Int), [base[k]], [y]⟩ : Edit α).hi = k + 1 := rfl
  simp only [blocksOf, grow]
  rw [show (Block.new false (⟨(i : Int), [base[i]], [x]⟩ : Edit α)).hi = i + 1 from rfl, l2]
  by_cases h : k ≤ i + 1
  · rw [if_pos h, if_pos h]
    have hb : (Block.new false (⟨(i : Int), [base[i]], [x]⟩ : Edit α)).add true ⟨(k : Int), [base[k]], [y]⟩ = ⟨i, k + 1, [⟨(i : Int), [base[i]], [x]⟩], [⟨(k : Int), [base[k]], [y]⟩]⟩ := by
      simp only [Block.add, Block.new, l1, l3, l4]
      congr 1
      omega
    rw [hb]
    simp only [joinGo, hasGo, l1, l2, l3, l4]
    rw [cut_self, cut_self, List.nil_append, List.append_nil]
    have hne : ¬ ([x] ++ cut base (i + 1) (k + 1) = cut base i k ++ [y]) := by
      intro e
      have : x ∈ cut base i k ++ [y] := by rw [← e]; simp
      rcases List.mem_append.1 this with h1 | h1
      · exact hx (mem_cut h1)
      · simp at h1; exact hxy h1
    rw [if_neg (by rintro (h1 | h1); simp at h1; exact hne h1), if_neg (by simp)]
    congr 1
    rw [← List.append_assoc, cut_cut (Nat.zero_le _) (by omega), cut_drop (Nat.zero_le _)]
    rfl
  · rw [if_neg h, if_neg h]
    have g1 : hasGo base (i + 1) i [(⟨(i : Int), [base[i]], [x]⟩ : Edit α)] = [x] := by
      simp only [hasGo, l1, l3, cut_self, List.nil_append, List.append_nil]
    have g2 : hasGo base (k + 1) k [(⟨(k : Int), [base[k]], [y]⟩ : Edit α)] = [y] := by
      simp only [hasGo, l2, l4, cut_self, List.nil_append, List.append_nil]
    have g3 : hasGo base (k + 1) k ([] : List (Edit α)) = cut base k (k + 1) := rfl
    have e1 : (base.set i x).set k y = cut base 0 i ++ ([x] ++ (cut base (i + 1) k ++ ([y] ++ base.drop (k + 1)))) := by
      rw [(set_parts hi x).2, List.set_append_right _ _ (by rw [List.length_take]; omega), List.length_take, show k - min i base.length = (k - (i + 1)) + 1 by omega, List.set_cons_succ, (set_parts (by rw [List.length_drop]; omega) y).2, List.drop_drop]
      unfold cut
      simp only [List.drop_zero, Nat.sub_zero, List.cons_append, List.nil_append, List.append_cancel_left_eq, List.cons.injEq, true_and]
      rw [show i + 1 + (k - (i + 1) + 1) = k + 1 by omega]
    rw [e1]
    have hy1 : ¬ (cut base k (k + 1) = [y]) := by
      rw [cut_one hk]
      intro e
      simp at e
      exact hy (e ▸ List.getElem_mem hk)
    rw [← g3, ← g2] at hy1
    have b1 : Block.new false (⟨(i : Int), [base[i]], [x]⟩ : Edit α) = ⟨i, i + 1, [⟨(i : Int), [base[i]], [x]⟩], []⟩ := rfl
    have b2 : Block.new true (⟨(k : Int), [base[k]], [y]⟩ : Edit α) = ⟨k, k + 1, [], [⟨(k : Int), [base[k]], [y]⟩]⟩ := rfl
    rw [b1, b2]
    simp only [joinGo]
    rw [if_pos (Or.inl trivial), if_neg (by rintro (h1 | h1); simp at h1; exact hy1 h1), g1, g2]
    simp
end
end File
end Go.Proofs.YtkhmkpcihphkcaaDoor
