/- Common pairs of two lists: how many there are at most, and the first list of as many. Plain laws. -/
set_option linter.unusedVariables false
set_option linter.unusedSimpArgs false
namespace Go.Proofs.YtekkhnjepcebkaaGreatDoor
namespace File
set_option linter.unusedSectionVars false
section
variable {α : Type} [DecidableEq α]
def lcsGo (x : α) (g : List α → Nat) : List α → Nat
  | [] => 0
  | y :: ys => if x = y then max (max (g (y :: ys)) (lcsGo x g ys)) (g ys + 1) else max (g (y :: ys)) (lcsGo x g ys)
/-- How many common pairs two lists have at most. -/
def lcs : List α → List α → Nat
  | [] => fun _ => 0
  | x :: xs => lcsGo x (lcs xs)
theorem lcs_cons (x y : α) (xs ys : List α) : lcs (x :: xs) (y :: ys) = if x = y then max (max (lcs xs (y :: ys)) (lcs (x :: xs) ys)) (lcs xs ys + 1) else max (lcs xs (y :: ys)) (lcs (x :: xs) ys) := rfl
theorem lcs_nil (a : List α) : lcs a [] = 0 := by cases a <;> rfl
theorem lcs_left (x : α) (a b : List α) : lcs a b ≤ lcs (x :: a) b := by
  cases b with
  | nil => rw [lcs_nil]; exact Nat.zero_le _
  | cons y ys => rw [lcs_cons]; split <;> omega
theorem lcs_right (y : α) (a b : List α) : lcs a b ≤ lcs a (y :: b) := by
  cases a with
  | nil => exact Nat.zero_le _
  | cons x xs => rw [lcs_cons]; split <;> omega
theorem lcs_most : ∀ (a b : List α), lcs a b ≤ a.length := by
  intro a
  induction a with
  | nil => intro b; exact Nat.zero_le _
  | cons x xs ih =>
    intro b
    induction b with
    | nil => rw [lcs_nil]; exact Nat.zero_le _
    | cons y ys ihb =>
      have h1 := ih (y :: ys)
      have h2 := ih ys
      rw [lcs_cons]
      simp only [List.length_cons] at *
      split <;> omega
/-- As many from two positions on. -/
def from_ (a b : List α) (i j : Nat) : Nat := lcs (a.drop i) (b.drop j)
theorem from_step {a b : List α} {i j : Nat} (hi : i < a.length) (hj : j < b.length) :
    from_ a b i j = if a[i] = b[j] then max (max (from_ a b (i + 1) j) (from_ a b i (j + 1))) (from_ a b (i + 1) (j + 1) + 1) else max (from_ a b (i + 1) j) (from_ a b i (j + 1)) := by
  unfold from_
  rw [List.drop_eq_getElem_cons hi, List.drop_eq_getElem_cons hj, lcs_cons]
theorem from_endA {a b : List α} {i j : Nat} (h : a.length ≤ i) : from_ a b i j = 0 := by
  unfold from_; rw [List.drop_eq_nil_of_le h]; rfl
theorem from_endB {a b : List α} {i j : Nat} (h : b.length ≤ j) : from_ a b i j = 0 := by
  unfold from_; rw [List.drop_eq_nil_of_le h, lcs_nil]
theorem from_le (a b : List α) (i j : Nat) : from_ a b i j ≤ a.length := by
  have := lcs_most (a.drop i) (b.drop j)
  rw [List.length_drop] at this
  unfold from_
  omega
theorem from_left (a b : List α) (i j : Nat) : from_ a b (i + 1) j ≤ from_ a b i j := by
  by_cases hi : i < a.length
  · unfold from_; rw [List.drop_eq_getElem_cons hi]; exact lcs_left _ _ _
  · rw [from_endA (by omega)]; exact Nat.zero_le _
theorem from_right (a b : List α) (i j : Nat) : from_ a b i (j + 1) ≤ from_ a b i j := by
  by_cases hj : j < b.length
  · unfold from_; rw [List.drop_eq_getElem_cons hj]; exact lcs_right _ _ _
  · rw [from_endB (by omega)]; exact Nat.zero_le _
theorem from_mono (a b : List α) {i j i' j' : Nat} (hi : i ≤ i') (hj : j ≤ j') : from_ a b i' j' ≤ from_ a b i j := by
  obtain ⟨d, rfl⟩ := Nat.exists_eq_add_of_le hi
  obtain ⟨e, rfl⟩ := Nat.exists_eq_add_of_le hj
  have h1 : from_ a b (i + d) (j + e) ≤ from_ a b i (j + e) := by
    clear hi hj
    induction d with
    | zero => exact Nat.le_refl _
    | succ d ih => exact Nat.le_trans (from_left a b (i + d) (j + e)) ih
  have h2 : from_ a b i (j + e) ≤ from_ a b i j := by
    clear h1 hi hj
    induction e with
    | zero => exact Nat.le_refl _
    | succ e ih => exact Nat.le_trans (from_right a b i (j + e)) ih
  exact Nat.le_trans h1 h2
/-- A list of common pairs, from two positions on. -/
def Pairs (a b : List α) : Nat → Nat → List (Nat × Nat) → Prop
  | _, _, [] => True
  | i, j, p :: r => i ≤ p.1 ∧ j ≤ p.2 ∧ (∃ h1 : p.1 < a.length, ∃ h2 : p.2 < b.length, a[p.1] = b[p.2]) ∧ Pairs a b (p.1 + 1) (p.2 + 1) r
theorem Pairs.weaken {a b : List α} : ∀ {l : List (Nat × Nat)} {i j i' j' : Nat}, Pairs a b i' j' l → i ≤ i' → j ≤ j' → Pairs a b i j l
  | [], _, _, _, _, _, _, _ => trivial
  | _ :: _, _, _, _, _, ⟨h1, h2, h3, h4⟩, hi, hj => ⟨Nat.le_trans hi h1, Nat.le_trans hj h2, h3, h4⟩
theorem from_pair {a b : List α} {x y : Nat} (h1 : x < a.length) (h2 : y < b.length) (h : a[x] = b[y]) : from_ a b (x + 1) (y + 1) + 1 ≤ from_ a b x y := by
  rw [from_step h1 h2, if_pos h]
  omega
theorem pairs_le {a b : List α} : ∀ (l : List (Nat × Nat)) (i j : Nat), Pairs a b i j l → l.length ≤ from_ a b i j := by
  intro l
  induction l with
  | nil => intro i j _; exact Nat.zero_le _
  | cons p r ih =>
    intro i j ⟨h1, h2, ⟨h3, h4, h5⟩, h6⟩
    have := ih _ _ h6
    have h7 := from_pair h3 h4 h5
    have h8 := from_mono a b h1 h2
    simp only [List.length_cons]
    omega
/-- Whether a pair can be the next one of as many as there can be. -/
def fits (a b : List α) (left i j : Nat) : Bool := match a[i]?, b[j]? with
  | some x, some y => decide (x = y) && decide (from_ a b (i + 1) (j + 1) + 1 = left)
  | _, _ => false
theorem fits_iff {a b : List α} {left i j : Nat} : fits a b left i j = true ↔ ∃ h1 : i < a.length, ∃ h2 : j < b.length, a[i] = b[j] ∧ from_ a b (i + 1) (j + 1) + 1 = left := by
  unfold fits
  by_cases h1 : i < a.length
  · by_cases h2 : j < b.length
    · simp [List.getElem?_eq_getElem h1, List.getElem?_eq_getElem h2, h1, h2]
    · simp [List.getElem?_eq_getElem h1, List.getElem?_eq_none (Nat.le_of_not_lt h2), h2]
  · simp [List.getElem?_eq_none (Nat.le_of_not_lt h1), h1]
def rowFirst (a b : List α) (left i : Nat) : Nat → Nat → Option Nat
  | 0, _ => none
  | n + 1, j => if fits a b left i j then some j else rowFirst a b left i n (j + 1)
def firstGo (a b : List α) (left j : Nat) : Nat → Nat → Option (Nat × Nat)
  | 0, _ => none
  | n + 1, i => match rowFirst a b left i (b.length - j) j with
    | some y => some (i, y)
    | none => firstGo a b left j n (i + 1)
/-- The first pair, from two positions on, behind which there are as many as there can be. -/
def first (a b : List α) (i j : Nat) : Option (Nat × Nat) := firstGo a b (from_ a b i j) j (a.length - i) i
def commonGo (a b : List α) : Nat → Nat → Nat → List (Nat × Nat)
  | 0, _, _ => []
  | n + 1, i, j => match first a b i j with
    | some p => p :: commonGo a b n (p.1 + 1) (p.2 + 1)
    | none => []
/-- The longest common pairs. -/
def common (a b : List α) : List (Nat × Nat) := commonGo a b (a.length + 1) 0 0
theorem rowFirst_some {a b : List α} {left i : Nat} : ∀ {n j y : Nat}, rowFirst a b left i n j = some y → j ≤ y ∧ y < j + n ∧ fits a b left i y = true ∧ ∀ k, j ≤ k → k < y → fits a b left i k = false := by
  intro n
  induction n with
  | zero => intro j y h; cases h
  | succ n ih =>
    intro j y h
    unfold rowFirst at h
    split at h
    · rename_i hf
      injection h with h
      subst h
      exact ⟨Nat.le_refl _, by omega, hf, fun k h1 h2 => absurd h2 (by omega)⟩
    · rename_i hf
      obtain ⟨h1, h2, h3, h4⟩ := ih h
      refine ⟨by omega, by omega, h3, fun k hk1 hk2 => ?_⟩
      by_cases hk : k = j
      · subst hk; simpa using hf
      · exact h4 k (by omega) hk2
theorem rowFirst_none {a b : List α} {left i : Nat} : ∀ {n j : Nat}, rowFirst a b left i n j = none → ∀ k, j ≤ k → k < j + n → fits a b left i k = false := by
  intro n
  induction n with
  | zero => intro j _ k h1 h2; omega
  | succ n ih =>
    intro j h k h1 h2
    unfold rowFirst at h
    split at h
    · cases h
    · rename_i hf
      by_cases hk : k = j
      · subst hk; simpa using hf
      · exact ih h k (by omega) (by omega)
theorem firstGo_some {a b : List α} {left j : Nat} : ∀ {n i : Nat} {p : Nat × Nat}, firstGo a b left j n i = some p → i ≤ p.1 ∧ p.1 < i + n ∧ j ≤ p.2 ∧ fits a b left p.1 p.2 = true ∧ (∀ k, i ≤ k → k < p.1 → ∀ m, j ≤ m → fits a b left k m = false) ∧ ∀ m, j ≤ m → m < p.2 → fits a b left p.1 m = false := by
  intro n
  induction n with
  | zero => intro i p h; cases h
  | succ n ih =>
    intro i p h
    unfold firstGo at h
    cases hr : rowFirst a b left i (b.length - j) j with
    | some y =>
      rw [hr] at h
      injection h with h
      subst h
      obtain ⟨h1, h2, h3, h4⟩ := rowFirst_some hr
      exact ⟨Nat.le_refl _, by dsimp only; omega, h1, h3, fun k hk1 hk2 => absurd hk2 (by dsimp only; omega), h4⟩
    | none =>
      rw [hr] at h
      obtain ⟨h1, h2, h3, h4, h5, h6⟩ := ih h
      refine ⟨by omega, by omega, h3, h4, fun k hk1 hk2 m hm => ?_, h6⟩
      by_cases hk : k = i
      · subst hk
        by_cases hb : m < b.length
        · exact rowFirst_none hr m hm (by omega)
        · cases hf : fits a b left k m
          · rfl
          · obtain ⟨_, h, _⟩ := fits_iff.1 hf
            omega
      · exact h5 k (by omega) hk2 m hm
theorem firstGo_none {a b : List α} {left j : Nat} : ∀ {n i : Nat}, firstGo a b left j n i = none → ∀ k, i ≤ k → k < i + n → ∀ m, j ≤ m → fits a b left k m = false := by
  intro n
  induction n with
  | zero => intro i _ k h1 h2; omega
  | succ n ih =>
    intro i h k h1 h2 m hm
    unfold firstGo at h
    cases hr : rowFirst a b left i (b.length - j) j with
    | some y => rw [hr] at h; cases h
    | none =>
      rw [hr] at h
      by_cases hk : k = i
      · subst hk
        by_cases hb : m < b.length
        · exact rowFirst_none hr m hm (by omega)
        · cases hf : fits a b left k m
          · rfl
          · obtain ⟨_, h, _⟩ := fits_iff.1 hf
            omega
      · exact ih h k (by omega) (by omega) m hm
/-- There is a next pair as long as any are left. -/
theorem fits_exists {a b : List α} {left : Nat} (hl : 0 < left) : ∀ (n i j : Nat), (a.length - i) + (b.length - j) ≤ n → from_ a b i j = left → ∃ x y, i ≤ x ∧ j ≤ y ∧ fits a b left x y = true := by
  intro n
  induction n with
  | zero =>
    intro i j hn h
    rw [from_endA (by omega)] at h
    omega
  | succ n ih =>
    intro i j hn h
    by_cases hi : i < a.length
    · by_cases hj : j < b.length
      · have h1 := from_step hi hj
        by_cases hd : from_ a b (i + 1) j = left
        · obtain ⟨x, y, hx, hy, hf⟩ := ih (i + 1) j (by omega) hd
          exact ⟨x, y, by omega, hy, hf⟩
        · by_cases hr : from_ a b i (j + 1) = left
          · obtain ⟨x, y, hx, hy, hf⟩ := ih i (j + 1) (by omega) hr
            exact ⟨x, y, hx, by omega, hf⟩
          · have hl1 := from_left a b i j
            have hr1 := from_right a b i j
            by_cases he : a[i] = b[j]
            · rw [if_pos he] at h1
              exact ⟨i, j, Nat.le_refl _, Nat.le_refl _, fits_iff.2 ⟨hi, hj, he, by omega⟩⟩
            · rw [if_neg he] at h1
              omega
      · rw [from_endB (by omega)] at h
        omega
    · rw [from_endA (by omega)] at h
      omega
theorem first_some {a b : List α} {i j : Nat} (h : 0 < from_ a b i j) : ∃ p, first a b i j = some p := by
  obtain ⟨x, y, hx, hy, hf⟩ := fits_exists h _ i j (Nat.le_refl _) rfl
  cases hn : first a b i j with
  | some p => exact ⟨p, rfl⟩
  | none =>
    obtain ⟨h1, _⟩ := fits_iff.1 hf
    rw [firstGo_none hn x hx (by omega) y hy] at hf
    cases hf
theorem first_none {a b : List α} {i j : Nat} (h : from_ a b i j = 0) : first a b i j = none := by
  cases hn : first a b i j with
  | none => rfl
  | some p =>
    obtain ⟨_, _, _, h4, _⟩ := firstGo_some hn
    obtain ⟨_, _, _, h5⟩ := fits_iff.1 h4
    omega
theorem commonGo_pairs {a b : List α} : ∀ (n i j : Nat), a.length - i < n → Pairs a b i j (commonGo a b n i j) ∧ (commonGo a b n i j).length = from_ a b i j := by
  intro n
  induction n with
  | zero => intro i j h; omega
  | succ n ih =>
    intro i j h
    unfold commonGo
    by_cases h0 : 0 < from_ a b i j
    · obtain ⟨p, hp⟩ := first_some h0
      rw [hp]
      obtain ⟨h1, h2, h3, h4, _⟩ := firstGo_some hp
      obtain ⟨h5, h6, h7, h8⟩ := fits_iff.1 h4
      obtain ⟨h9, h10⟩ := ih (p.1 + 1) (p.2 + 1) (by omega)
      exact ⟨⟨h1, h3, ⟨h5, h6, h7⟩, h9⟩, by simp only [List.length_cons]; omega⟩
    · rw [first_none (by omega)]
      exact ⟨trivial, by simp; omega⟩
theorem common_pairs (a b : List α) : Pairs a b 0 0 (common a b) := (commonGo_pairs _ _ _ (by omega)).1
theorem common_length (a b : List α) : (common a b).length = lcs a b := by
  rw [show lcs a b = from_ a b 0 0 from rfl]
  exact (commonGo_pairs _ _ _ (by omega)).2
theorem pairs_most {a b : List α} {l : List (Nat × Nat)} (h : Pairs a b 0 0 l) : l.length ≤ (common a b).length := by
  rw [common_length]
  exact pairs_le l 0 0 h
/-- A list of pairs comes no later than another one. -/
def lexLe : List (Nat × Nat) → List (Nat × Nat) → Prop
  | [], _ => True
  | _ :: _, [] => False
  | p :: r, q :: s => p.1 < q.1 ∨ (p.1 = q.1 ∧ (p.2 < q.2 ∨ (p.2 = q.2 ∧ lexLe r s)))
theorem commonGo_first {a b : List α} : ∀ (n i j : Nat), a.length - i < n → ∀ l, Pairs a b i j l → l.length = from_ a b i j → lexLe (commonGo a b n i j) l := by
  intro n
  induction n with
  | zero => intro i j h; omega
  | succ n ih =>
    intro i j h l hl hlen
    unfold commonGo
    by_cases h0 : 0 < from_ a b i j
    · obtain ⟨p, hp⟩ := first_some h0
      rw [hp]
      obtain ⟨h1, h2, h3, h4, h5, h6⟩ := firstGo_some hp
      obtain ⟨h7, h8, h9, h10⟩ := fits_iff.1 h4
      cases l with
      | nil => simp at hlen; omega
      | cons q r =>
        obtain ⟨q1, q2, ⟨q3, q4, q5⟩, q6⟩ := hl
        have e1 := pairs_le r _ _ q6
        have e2 := from_pair q3 q4 q5
        have e3 := from_mono a b q1 q2
        simp only [List.length_cons] at hlen
        have hf : fits a b (from_ a b i j) q.1 q.2 = true := fits_iff.2 ⟨q3, q4, q5, by omega⟩
        unfold lexLe
        by_cases c1 : p.1 < q.1
        · exact .inl c1
        · by_cases c2 : q.1 < p.1
          · rw [h5 q.1 q1 c2 q.2 q2] at hf
            cases hf
          · have c3 : p.1 = q.1 := by omega
            refine .inr ⟨c3, ?_⟩
            by_cases c4 : p.2 < q.2
            · exact .inl c4
            · by_cases c5 : q.2 < p.2
              · have := h6 q.2 q2 c5
                rw [c3] at this
                rw [this] at hf
                cases hf
              · have c6 : p.2 = q.2 := by omega
                refine .inr ⟨c6, ih _ _ (by omega) r (by rw [c3, c6]; exact q6) ?_⟩
                rw [c3, c6] at h10 ⊢
                omega
    · rw [first_none (by omega)]
      cases l <;> trivial
theorem common_first {a b : List α} {l : List (Nat × Nat)} (h : Pairs a b 0 0 l) (hl : l.length = (common a b).length) : lexLe (common a b) l :=
  commonGo_first _ _ _ (by omega) l h (by rw [hl, common_length]; rfl)
end
end File
end Go.Proofs.YtekkhnjepcebkaaGreatDoor
