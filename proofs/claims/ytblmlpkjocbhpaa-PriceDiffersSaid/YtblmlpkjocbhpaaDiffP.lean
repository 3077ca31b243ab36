/- Prices do not hang on the order of the rules, nor on an idle rule. No condition. -/
import Derived.Test.YtblmlpkjocbhpaaCountsP
import Derived.Test.YtblmlpkjocbhpaaPriceS
set_option linter.unusedVariables false
set_option linter.unusedSimpArgs false
namespace Go.Proofs.Ytblmlpkjocbhpaa
namespace Price
theorem pricedOf_same {x : Int} {ps : List Int} (h : ps ≠ []) (ha : ∀ y ∈ ps, y = x) : pricedOf ps = (x, 0) := by
  cases ps with
  | nil => exact absurd rfl h
  | cons y ps =>
    simp only [pricedOf]
    obtain rfl : y = x := ha y List.mem_cons_self
    rw [if_pos]
    rw [List.all_eq_true]
    intro z hz
    simpa using ha z (List.mem_cons_of_mem _ hz)
theorem pricedOf_torn {ps : List Int} {x y : Int} (hx : x ∈ ps) (hy : y ∈ ps) (h : x ≠ y) : pricedOf ps = (0, 7) := by
  cases ps with
  | nil => cases hx
  | cons z ps =>
    simp only [pricedOf]
    rw [if_neg]
    intro ha
    rw [List.all_eq_true] at ha
    have key : ∀ u ∈ z :: ps, u = z := fun u hu => by
      rcases List.mem_cons.1 hu with rfl | hu
      · rfl
      · simpa using ha u hu
    exact h ((key x hx).trans (key y hy).symm)
theorem pricedOf_perm {ps qs : List Int} (h : ps.Perm qs) : pricedOf ps = pricedOf qs := by
  by_cases h0 : ps = []
  · subst h0; rw [List.nil_perm.1 h]
  · obtain ⟨x, hx⟩ := List.exists_mem_of_ne_nil ps h0
    have h1 : qs ≠ [] := fun e => by rw [e] at h; exact h0 (List.perm_nil.1 h)
    by_cases ha : ∀ y ∈ ps, y = x
    · rw [pricedOf_same h0 ha, pricedOf_same h1 fun y hy => ha y (h.mem_iff.2 hy)]
    · obtain ⟨y, hy, hne⟩ : ∃ y, y ∈ ps ∧ y ≠ x := by
        false_or_by_contra
        rename_i hno
        exact ha fun y hy => Decidable.byContradiction fun hn => hno ⟨y, hy, hn⟩
      rw [pricedOf_torn hx hy (Ne.symm hne), pricedOf_torn (h.mem_iff.1 hx) (h.mem_iff.1 hy) (Ne.symm hne)]
theorem greatest_le {l : List Int} {m : Int} (hm : 0 ≤ m) (h : ∀ x ∈ l, x ≤ m) : greatest l ≤ m := by
  unfold greatest
  rcases foldl_max_mem l 0 with e | e
  · rw [e]; exact hm
  · exact h _ e
theorem greatest_nonneg (l : List Int) : 0 ≤ greatest l := by unfold greatest; exact foldl_max_ge _ 0
theorem greatest_same {l k : List Int} (h : ∀ x, x ∈ l ↔ x ∈ k) : greatest l = greatest k := by
  have h1 := greatest_le (greatest_nonneg k) fun x hx => greatest_ge k x ((h x).1 hx)
  have h2 := greatest_le (greatest_nonneg l) fun x hx => greatest_ge l x ((h x).2 hx)
  omega
theorem priced_top (l : List Rule) (p : Piece) : priced l p = pricedOf (top l p) := by unfold priced; rw [prices_top]
theorem held_perm {l k : List Rule} (h : l.Perm k) (p : Piece) : (held l p).Perm (held k p) := (h.filter _).map _
theorem top_perm {l k : List Rule} (h : l.Perm k) (p : Piece) : (top l p).Perm (top k p) := by
  unfold top
  rw [greatest_same fun x => (held_perm h p).mem_iff]
  exact (h.filter _).map _
theorem priced_perm {l k : List Rule} (h : l.Perm k) (p : Piece) : priced l p = priced k p := by
  rw [priced_top, priced_top, pricedOf_perm (top_perm h p)]
/-- A rule that does not count can be left out. -/
theorem top_out {a b : List Rule} {r : Rule} {p : Piece} (h : hit (a ++ r :: b) p r = false) : top (a ++ b) p = top (a ++ r :: b) p := by
  have hg : greatest (held (a ++ b) p) = greatest (held (a ++ r :: b) p) := by
    unfold hit at h
    have hsub : ∀ x ∈ held (a ++ b) p, x ∈ held (a ++ r :: b) p := fun x hx => by
      obtain ⟨q, hq, rfl⟩ := List.mem_map.1 hx
      obtain ⟨hq1, hq2⟩ := List.mem_filter.1 hq
      refine held_mem ?_ hq2
      rcases List.mem_append.1 hq1 with h | h
      · exact List.mem_append_left _ h
      · exact List.mem_append_right _ (List.mem_cons_of_mem _ h)
    have h1 := greatest_le (greatest_nonneg (held (a ++ r :: b) p)) fun x hx => greatest_ge _ x (hsub x hx)
    have h2 : greatest (held (a ++ r :: b) p) ≤ greatest (held (a ++ b) p) := by
      have hgr : greatest (held (a ++ r :: b) p) = 0 ∨ greatest (held (a ++ r :: b) p) ∈ held (a ++ r :: b) p := by
        unfold greatest; exact foldl_max_mem _ 0
      rcases hgr with e | e
      · rw [e]; exact greatest_nonneg _
      · obtain ⟨q, hq, hqe⟩ := List.mem_map.1 e
        obtain ⟨hq1, hq2⟩ := List.mem_filter.1 hq
        have hqr : q ≠ r := fun er => by
          subst er
          rw [hq2, Bool.true_and, decide_eq_false_iff_not] at h
          exact h hqe
        have hq3 : q ∈ a ++ b := by
          rcases List.mem_append.1 hq1 with h | h
          · exact List.mem_append_left _ h
          · rcases List.mem_cons.1 h with h | h
            · exact absurd h hqr
            · exact List.mem_append_right _ h
        rw [← hqe]
        exact greatest_ge _ _ (held_mem hq3 hq2)
    omega
  unfold top
  rw [hg, List.filter_append, List.filter_append, List.filter_cons]
  unfold hit at h
  rw [if_neg (by rw [h]; simp)]
theorem eraseIdx_split {l : List Rule} {i : Nat} {r : Rule} (h : l[i]? = some r) : l = l.take i ++ r :: l.drop (i + 1) ∧ l.eraseIdx i = l.take i ++ l.drop (i + 1) := by
  refine ⟨?_, List.eraseIdx_eq_take_drop_succ _ _⟩
  obtain ⟨hi, rfl⟩ := List.getElem?_eq_some_iff.1 h
  rw [← List.drop_eq_getElem_cons hi, List.take_append_drop]
theorem priced_erase {l : List Rule} {i : Nat} {r : Rule} (h : l[i]? = some r) {p : Piece} (hh : hit l p r = false) : priced (l.eraseIdx i) p = priced l p := by
  obtain ⟨h1, h2⟩ := eraseIdx_split h
  rw [priced_top, priced_top, h2]
  rw [h1] at hh
  have := top_out hh
  rw [← h1] at this
  rw [this]
theorem times_zero {l : List Rule} {i : Nat} {r : Rule} (h : l[i]? = some r) (ht : times l i allPieces = 0) : ∀ p ∈ allPieces, hit l p r = false := by
  intro p hp
  rw [Bool.eq_false_iff]
  intro hh
  have : ∀ (ps : List Piece), p ∈ ps → 0 < cn (fun p => (counts l p).contains (i : Int)) ps := by
    intro ps
    induction ps with
    | nil => intro h; cases h
    | cons q ps ih =>
      intro hq
      have hn := cn_nonneg (fun p => (counts l p).contains (i : Int)) ps
      simp only [cn]
      rcases List.mem_cons.1 hq with rfl | hq
      · rw [if_pos (by rw [counts_contains p h]; exact hh)]; omega
      · have := ih hq; split <;> omega
  have := this allPieces hp
  unfold times at ht
  omega
theorem differ_none {a b : List Rule} (h : ∀ p ∈ allPieces, priced a p = priced b p) : differ a b = (⟨0, 0, 0⟩, 6) := by
  unfold differ
  have : allPieces.find? (differs a b) = none := by
    rw [List.find?_eq_none]
    intro p hp
    simp [differs, h p hp]
  rw [this]
theorem differ_err (a b : List Rule) : (differ a b).2 = 0 ∨ (differ a b).2 = 6 := by
  unfold differ; split
  · exact .inl rfl
  · exact .inr rfl
/-- No rule that can be left out is needed: an idle rule has no witness. -/
theorem idle_witness {l : List Rule} {i : Nat} (hi : i < l.length) (ht : times l i allPieces = 0) : differ l (l.eraseIdx i) = (⟨0, 0, 0⟩, 6) := by
  have hr : l[i]? = some l[i] := List.getElem?_eq_getElem hi
  exact differ_none fun p hp => (priced_erase hr (times_zero hr ht p hp)).symm
theorem MadeOk.perm {n : Nat} {l k : List Rule} (h : MadeOk n l) (hp : l.Perm k) : MadeOk n k :=
  ⟨by rw [← hp.length_eq]; exact h.len, hp.nodup_iff.1 h.nodup, fun r hr => h.ok r (hp.mem_iff.2 hr)⟩
theorem MadeOk.erase {n : Nat} {l : List Rule} (h : MadeOk n l) (i : Nat) : MadeOk n (l.eraseIdx i) :=
  ⟨Nat.le_trans (List.length_eraseIdx_le _ _) h.len, h.nodup.sublist (List.eraseIdx_sublist _ _), fun r hr => h.ok r ((List.eraseIdx_sublist _ _).subset hr)⟩
theorem MadeOk.pos {n : Nat} {l : List Rule} (h : MadeOk n l) : ∀ r ∈ l, 0 ≤ r.p := fun r hr => by have := (h.ok r hr).2; omega
theorem MadeOk.law {n : Nat} {l : List Rule} (h : MadeOk n l) (p : Piece) : lawPriced l p = priced l p := lawPriced_eq h.pos p
/-- Setting one place, and what was there put behind. -/
theorem set_perm {α : Type} : ∀ (l : List α) (j : Nat) (x v : α), l[j]? = some x → (l.set j v ++ [x]).Perm (l ++ [v]) := by
  intro l
  induction l with
  | nil => intro j x v h; simp at h
  | cons y l ih =>
    intro j x v h
    cases j with
    | zero =>
      simp only [List.getElem?_cons_zero, Option.some.injEq] at h
      subst h
      simp only [List.set_cons_zero, List.cons_append]
      exact (List.perm_append_comm (l₁ := v :: l) (l₂ := [y])).trans ((List.Perm.cons y (List.perm_append_comm (l₁ := [v]) (l₂ := l))))
    | succ j =>
      simp only [List.set_cons_succ, List.cons_append]
      exact List.Perm.cons y (ih j x v (by simpa using h))
end Price
end Go.Proofs.Ytblmlpkjocbhpaa
