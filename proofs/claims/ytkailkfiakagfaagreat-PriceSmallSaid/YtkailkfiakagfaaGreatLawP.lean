/- The price of a piece, as the statements reckon it, is what the program finds. Condition: prices are not less than 0. -/
import Derived.Test.YtkailkfiakagfaaGreatPriceSpec
set_option linter.unusedVariables false
set_option linter.unusedSimpArgs false
namespace Go.Proofs.YtkailkfiakagfaaGreat
namespace Price
/-- How much a rule names of a piece, as the statements reckon it; -1 if it does not hold. -/
def lawNames (p : Piece) (r : Rule) : Int := if holds r p then many r else -1
def lawStep (p : Piece) (st : Int × Int × Int) (r : Rule) : Int × Int × Int :=
  if st.1 < lawNames p r then (lawNames p r, r.p, 0) else if 0 ≤ lawNames p r ∧ lawNames p r = st.1 ∧ r.p ≠ st.2.1 then (st.1, -1, 7) else st
def lawEnd (st : Int × Int × Int) : Int × Int := if st.2.2 = 0 then (st.2.1, 0) else (0, st.2.2)
def lawPriced (l : List Rule) (p : Piece) : Int × Int := lawEnd (l.foldl (lawStep p) (-1, 0, 6))
theorem countsFrom_prices (most : Int) (p : Piece) : ∀ (l pre : List Rule), (countsFrom most p l pre.length).map (fun i => ((pre ++ l).getD i.toNat default).p) = (l.filter fun r => holds r p && decide (many r = most)).map (·.p) := by
  intro l
  induction l with
  | nil => intro pre; simp [countsFrom]
  | cons r l ih =>
    intro pre
    have := ih (pre ++ [r])
    simp only [List.length_append, List.length_cons, List.length_nil, Nat.zero_add, List.append_assoc, List.cons_append, List.nil_append, Int.natCast_add, Int.natCast_one] at this
    simp only [countsFrom, List.filter_cons]
    by_cases h : (holds r p && decide (many r = most)) = true
    · rw [if_pos h, if_pos h, List.map_cons, List.map_cons]
      congr 1
      simp [List.getD_eq_getElem?_getD]
    · rw [if_neg h, if_neg h]; exact this
def top (l : List Rule) (p : Piece) : List Int := (l.filter fun r => holds r p && decide (many r = greatest (held l p))).map (·.p)
theorem prices_top (l : List Rule) (p : Piece) : prices l p = top l p := countsFrom_prices _ p l []
theorem many_bounds (r : Rule) : 0 ≤ many r := by
  have h : ∀ n, 0 ≤ one n := fun n => by unfold one; split <;> omega
  have := h r.b; have := h r.s; have := h r.e
  unfold many; omega
theorem greatest_snoc (l : List Int) (x : Int) : greatest (l ++ [x]) = max (greatest l) x := by simp [greatest, List.foldl_append]
theorem foldl_max_ge : ∀ (l : List Int) (a : Int), a ≤ l.foldl max a := by
  intro l
  induction l with
  | nil => intro a; exact Int.le_refl _
  | cons x l ih => intro a; have := ih (max a x); simp only [List.foldl_cons]; omega
theorem greatest_ge (l : List Int) : ∀ x ∈ l, x ≤ greatest l := by
  unfold greatest
  suffices h : ∀ (l : List Int) (a : Int), ∀ x ∈ l, x ≤ l.foldl max a from h l 0
  intro l
  induction l with
  | nil => intro a x h; simp at h
  | cons y l ih =>
    intro a x h
    rcases List.mem_cons.1 h with rfl | h
    · have := foldl_max_ge l (max a x); simp only [List.foldl_cons]; omega
    · exact ih _ x h
theorem held_snoc (l : List Rule) (r : Rule) (p : Piece) : held (l ++ [r]) p = if holds r p then held l p ++ [many r] else held l p := by
  unfold held
  rw [List.filter_append, List.filter_cons, List.filter_nil]
  split <;> simp
theorem top_snoc (l : List Rule) (r : Rule) (p : Piece) : top (l ++ [r]) p = if holds r p then (if greatest (held l p) < many r then [r.p] else if many r = greatest (held l p) then top l p ++ [r.p] else top l p) else top l p := by
  unfold top
  rw [held_snoc]
  by_cases h : holds r p = true
  · rw [if_pos h, if_pos h, greatest_snoc, List.filter_append, List.filter_cons, List.filter_nil]
    by_cases h1 : greatest (held l p) < many r
    · rw [if_pos h1, show max (greatest (held l p)) (many r) = many r by omega, h]
      have : (l.filter fun r' => holds r' p && decide (many r' = many r)) = [] := by
        rw [List.filter_eq_nil_iff]
        intro r' hr' hh
        simp only [Bool.and_eq_true, decide_eq_true_eq] at hh
        have := greatest_ge (held l p) (many r') (List.mem_map.2 ⟨r', List.mem_filter.2 ⟨hr', hh.1⟩, rfl⟩)
        omega
      rw [this]; simp
    · rw [if_neg h1, show max (greatest (held l p)) (many r) = greatest (held l p) by omega, h]
      by_cases h2 : many r = greatest (held l p)
      · rw [if_pos h2]; simp [h2]
      · rw [if_neg h2]; simp [h2]
  · rw [if_neg h, if_neg h, List.filter_append, List.filter_cons, List.filter_nil]
    simp [h]
/-- What the statements' reckoning has found so far. -/
structure LawSt (l : List Rule) (p : Piece) (st : Int × Int × Int) : Prop where
  none_ : held l p = [] → st.1 = -1
  some_ : held l p ≠ [] → st.1 = greatest (held l p)
  err : st.2.2 = (pricedOf (top l p)).2
  price : st.2.2 = 0 → ∃ ps, top l p = st.2.1 :: ps
  torn : st.2.2 = 7 → st.2.1 = -1
theorem top_none {l : List Rule} {p : Piece} (h : held l p = []) : top l p = [] := by
  unfold held at h
  rw [List.map_eq_nil_iff, List.filter_eq_nil_iff] at h
  unfold top
  rw [List.map_eq_nil_iff, List.filter_eq_nil_iff]
  intro r hr hh
  simp only [Bool.and_eq_true] at hh
  exact h r hr hh.1
theorem foldl_max_mem : ∀ (l : List Int) (a : Int), l.foldl max a = a ∨ l.foldl max a ∈ l := by
  intro l
  induction l with
  | nil => intro a; exact .inl rfl
  | cons x l ih =>
    intro a
    rcases ih (max a x) with h | h
    · simp only [List.foldl_cons, h]
      by_cases hx : x ≤ a
      · left; omega
      · right; rw [show max a x = x by omega]; exact List.mem_cons_self
    · exact .inr (List.mem_cons_of_mem _ h)
theorem top_some {l : List Rule} {p : Piece} (h : held l p ≠ []) : top l p ≠ [] := by
  have hm : greatest (held l p) ∈ held l p := by
    rcases foldl_max_mem (held l p) 0 with h1 | h1
    · obtain ⟨x, r, hx⟩ := List.exists_cons_of_ne_nil h
      have hmem : x ∈ held l p := by rw [hx]; exact List.mem_cons_self
      have h2 := greatest_ge _ _ hmem
      have h3 : 0 ≤ x := by
        obtain ⟨r, _, rfl⟩ := List.mem_map.1 hmem
        exact many_bounds r
      have : greatest (held l p) = x := by unfold greatest at h2 ⊢; omega
      rw [this]; exact hmem
    · exact h1
  obtain ⟨r, hr, hg⟩ := List.mem_map.1 hm
  have hr' := List.mem_filter.1 hr
  intro e
  unfold top at e
  rw [List.map_eq_nil_iff, List.filter_eq_nil_iff] at e
  exact e r hr'.1 (by simp only [Bool.and_eq_true, decide_eq_true_eq]; exact ⟨hr'.2, hg⟩)
theorem pricedOf_snoc_same {x : Int} {ps : List Int} (h : (pricedOf (x :: ps)).2 = 0) (y : Int) : (pricedOf (x :: ps ++ [y])).2 = if y = x then 0 else 7 := by
  simp only [pricedOf, List.cons_append] at h ⊢
  by_cases ha : (ps.all fun y => y == x) = true
  · rw [List.all_append, ha]
    by_cases hy : y = x <;> simp [hy]
  · rw [if_neg ha] at h; cases h
theorem pricedOf_snoc_torn {ps : List Int} (h : (pricedOf ps).2 = 7) (y : Int) : (pricedOf (ps ++ [y])).2 = 7 := by
  cases ps with
  | nil => simp [pricedOf] at h
  | cons x ps =>
    simp only [pricedOf, List.cons_append] at h ⊢
    by_cases ha : (ps.all fun y => y == x) = true
    · rw [if_pos ha] at h; cases h
    · rw [List.all_append, if_neg (by simp only [Bool.and_eq_true]; exact fun hh => ha hh.1)]
theorem pricedOf_err (ps : List Int) : (ps = [] ∧ (pricedOf ps).2 = 6) ∨ (∃ x r, ps = x :: r ∧ ((pricedOf ps).2 = 0 ∨ (pricedOf ps).2 = 7)) := by
  cases ps with
  | nil => exact .inl ⟨rfl, rfl⟩
  | cons x r =>
    refine .inr ⟨x, r, rfl, ?_⟩
    simp only [pricedOf]
    split
    · exact .inl rfl
    · exact .inr rfl
theorem law_step {l : List Rule} {p : Piece} {st : Int × Int × Int} {r : Rule} (h : LawSt l p st) (hp : 0 ≤ r.p) : LawSt (l ++ [r]) p (lawStep p st r) := by
  obtain ⟨M, n, e⟩ := st
  obtain ⟨h1, h2, h3, h4, h5⟩ := h
  dsimp only at h1 h2 h3 h4 h5
  unfold lawStep lawNames
  dsimp only
  by_cases hh : holds r p = true
  · have hk := many_bounds r
    rw [if_pos hh]
    have hheld : held (l ++ [r]) p = held l p ++ [many r] := by rw [held_snoc, if_pos hh]
    have hne : held (l ++ [r]) p ≠ [] := by rw [hheld]; simp
    have hg : greatest (held (l ++ [r]) p) = max (greatest (held l p)) (many r) := by rw [hheld, greatest_snoc]
    have ht := top_snoc l r p
    rw [if_pos hh] at ht
    by_cases h0 : held l p = []
    · have hM := h1 h0
      have hg0 : greatest (held l p) = 0 := by rw [h0]; rfl
      rw [if_pos (by omega)]
      have ht' : top (l ++ [r]) p = [r.p] := by
        rw [ht, hg0]
        split
        · rfl
        · rw [if_pos (by omega), top_none h0]; rfl
      refine ⟨fun e => absurd e hne, fun _ => by rw [hg, hg0]; omega, by rw [ht']; rfl, fun _ => ⟨[], ht'⟩, (fun e => by cases e)⟩
    · have hM := h2 h0
      by_cases hlt : M < many r
      · rw [if_pos hlt]
        rw [if_pos (by omega)] at ht
        exact ⟨fun e => absurd e hne, fun _ => by rw [hg]; omega, by rw [ht]; rfl, fun _ => ⟨[], ht⟩, (fun e => by cases e)⟩
      · rw [if_neg hlt]
        rw [if_neg (by omega)] at ht
        by_cases heq : many r = M
        · rw [if_pos (by omega)] at ht
          rcases pricedOf_err (top l p) with ⟨he, _⟩ | ⟨x, ps, hx, he⟩
          · exact absurd he (top_some h0)
          · rcases he with he | he
            · rw [he] at h3
              subst h3
              obtain ⟨qs, hq⟩ := h4 rfl
              have hs := pricedOf_snoc_same (x := n) (ps := qs) (by rw [← hq]; exact he) r.p
              by_cases hpn : r.p = n
              · rw [if_neg (by omega)]
                exact ⟨fun e => absurd e hne, fun _ => by rw [hg]; omega, by rw [ht, hq, hs, if_pos hpn], fun _ => ⟨qs ++ [r.p], by rw [ht, hq]; rfl⟩, (fun e => by cases e)⟩
              · rw [if_pos ⟨hk, heq, hpn⟩]
                exact ⟨fun e => absurd e hne, fun _ => by rw [hg]; omega, by rw [ht, hq, hs, if_neg hpn], (fun e => by cases e), fun _ => rfl⟩
            · rw [he] at h3
              subst h3
              have hn := h5 rfl
              rw [if_pos ⟨hk, heq, by omega⟩]
              exact ⟨fun e => absurd e hne, fun _ => by rw [hg]; omega, by rw [ht, pricedOf_snoc_torn he], (fun e => by cases e), fun _ => rfl⟩
        · rw [if_neg (by omega)] at ht
          rw [if_neg (by omega)]
          exact ⟨fun e => absurd e hne, fun _ => by rw [hg]; omega, by rw [ht]; exact h3, fun e => by rw [ht]; exact h4 e, h5⟩
  · rw [if_neg hh]
    have hheld : held (l ++ [r]) p = held l p := by rw [held_snoc, if_neg hh]
    have ht : top (l ++ [r]) p = top l p := by rw [top_snoc, if_neg hh]
    have hM : -1 ≤ M := by
      by_cases h0 : held l p = []
      · rw [h1 h0]; omega
      · rw [h2 h0]; have := foldl_max_ge (held l p) 0; unfold greatest; omega
    rw [if_neg (by omega), if_neg (by omega)]
    exact ⟨by rw [hheld]; exact h1, by rw [hheld]; exact h2, by rw [ht]; exact h3, by rw [ht]; exact h4, h5⟩
theorem law_fold (p : Piece) : ∀ (l pre : List Rule) (st : Int × Int × Int), LawSt pre p st → (∀ r ∈ l, 0 ≤ r.p) → LawSt (pre ++ l) p (l.foldl (lawStep p) st) := by
  intro l
  induction l with
  | nil => intro pre st h _; simpa using h
  | cons r l ih =>
    intro pre st h hp
    have := ih (pre ++ [r]) _ (law_step h (hp r List.mem_cons_self)) fun q hq => hp q (List.mem_cons_of_mem _ hq)
    simpa using this
theorem lawPriced_eq {l : List Rule} (hp : ∀ r ∈ l, 0 ≤ r.p) (p : Piece) : lawPriced l p = priced l p := by
  have h := law_fold p l [] (-1, 0, 6) ⟨fun _ => rfl, fun e => absurd rfl e, rfl, (fun e => by cases e), (fun e => by cases e)⟩ hp
  rw [List.nil_append] at h
  unfold lawPriced priced
  rw [prices_top]
  generalize l.foldl (lawStep p) (-1, 0, 6) = st at *
  obtain ⟨M, n, e⟩ := st
  obtain ⟨_, _, h3, h4, _⟩ := h
  dsimp only at h3 h4
  unfold lawEnd
  dsimp only
  rcases pricedOf_err (top l p) with ⟨he, h6⟩ | ⟨x, ps, hx, he⟩
  · rw [he] at h3 ⊢
    rw [h3]; rfl
  · by_cases h0 : e = 0
    · obtain ⟨qs, hq⟩ := h4 h0
      rw [if_pos h0]
      rw [h0] at h3
      rw [hq] at h3 ⊢
      simp only [pricedOf] at h3 ⊢
      split
      · rfl
      · rename_i hn; rw [if_neg hn] at h3; cases h3
    · rw [if_neg h0, h3]
      have h7 : (pricedOf (top l p)).2 = 7 := by omega
      rw [hx] at h7 ⊢
      simp only [pricedOf] at h7 ⊢
      split
      · rename_i hn; rw [if_pos hn] at h7; cases h7
      · rfl
end Price
end Go.Proofs.YtkailkfiakagfaaGreat
