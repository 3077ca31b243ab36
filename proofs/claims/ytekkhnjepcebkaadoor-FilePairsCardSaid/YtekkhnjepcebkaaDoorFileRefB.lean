/- The reference of layer 11: levels are compared with all that follow; that is the same as what the layer asks. Plain laws. -/
import Derived.Test.YtekkhnjepcebkaaDoorFlLs
set_option linter.unusedVariables false
set_option linter.unusedSimpArgs false
namespace Go.Proofs.YtekkhnjepcebkaaDoor
namespace File
/-- Rows gone through with a test of each cell. -/
def rowP (ok : Nat → Nat → Int → Bool) (i : Nat) : Nat → Int → List Int → Option Int
  | _, most, [] => some most
  | j, most, n :: r => if ok i j n then rowP ok i (j + 1) (max most n) r else none
def levelsP (ok : Nat → Nat → Int → Bool) : Nat → Int → List (List Int) → Int × Int
  | _, most, [] => (most, 0)
  | i, most, l :: r => match rowP ok i 0 most l with
    | some m => levelsP ok (i + 1) m r
    | none => (0, 8)
theorem rowP_of {ok ok' : Nat → Nat → Int → Bool} {i : Nat} : ∀ (l : List Int) (j : Nat) (m : Int), (∀ k n, l[k]? = some n → ok i (j + k) n = true) → (∀ k n, l[k]? = some n → ok' i (j + k) n = true) → rowP ok i j m l = rowP ok' i j m l ∧ ∃ m', rowP ok i j m l = some m'
  | [], _, m, _, _ => ⟨rfl, m, rfl⟩
  | n :: r, j, m, h, h' => by
    have h0 := h 0 n rfl
    have h0' := h' 0 n rfl
    rw [Nat.add_zero] at h0 h0'
    have ih := rowP_of r (j + 1) (max m n) (fun k n hk => by have := h (k + 1) n (by simpa using hk); rwa [show j + (k + 1) = j + 1 + k by omega] at this) (fun k n hk => by have := h' (k + 1) n (by simpa using hk); rwa [show j + (k + 1) = j + 1 + k by omega] at this)
    unfold rowP
    rw [if_pos h0, if_pos h0']
    exact ih
theorem rowP_none {ok : Nat → Nat → Int → Bool} {i : Nat} : ∀ (l : List Int) (j : Nat) (m : Int), (∃ k n, l[k]? = some n ∧ ok i (j + k) n = false) → rowP ok i j m l = none
  | [], _, _, ⟨_, _, h, _⟩ => by simp at h
  | x :: r, j, m, ⟨k, n, hk, hn⟩ => by
    unfold rowP
    by_cases h0 : ok i j x = true
    · rw [if_pos h0]
      cases k with
      | zero => simp at hk; subst hk; rw [Nat.add_zero, h0] at hn; cases hn
      | succ k => exact rowP_none r (j + 1) _ ⟨k, n, by simpa using hk, by rw [show j + 1 + k = j + (k + 1) by omega]; exact hn⟩
    · rw [if_neg h0]
theorem levelsP_of {ok ok' : Nat → Nat → Int → Bool} : ∀ (l : List (List Int)) (i : Nat) (m : Int), (∀ p row, l[p]? = some row → ∀ k n, row[k]? = some n → ok (i + p) k n = true) → (∀ p row, l[p]? = some row → ∀ k n, row[k]? = some n → ok' (i + p) k n = true) → levelsP ok i m l = levelsP ok' i m l
  | [], _, _, _, _ => rfl
  | row :: r, i, m, h, h' => by
    have h0 := h 0 row rfl
    have h0' := h' 0 row rfl
    simp only [Nat.add_zero] at h0 h0'
    obtain ⟨e, m', hm⟩ := rowP_of (ok := ok) (ok' := ok') (i := i) row 0 m (fun k n hk => by rw [Nat.zero_add]; exact h0 k n hk) (fun k n hk => by rw [Nat.zero_add]; exact h0' k n hk)
    have ih := fun m => levelsP_of r (i + 1) m (fun p row hp k n hk => by have := h (p + 1) row (by simpa using hp) k n hk; rwa [show i + (p + 1) = i + 1 + p by omega] at this) (fun p row hp k n hk => by have := h' (p + 1) row (by simpa using hp) k n hk; rwa [show i + (p + 1) = i + 1 + p by omega] at this)
    unfold levelsP
    rw [← e, hm]
    exact ih m'
theorem levelsP_none {ok : Nat → Nat → Int → Bool} : ∀ (l : List (List Int)) (i : Nat) (m : Int), (∃ p row k n, l[p]? = some row ∧ row[k]? = some n ∧ ok (i + p) k n = false) → levelsP ok i m l = (0, 8)
  | [], _, _, ⟨_, _, _, _, h, _, _⟩ => by simp at h
  | x :: r, i, m, ⟨p, row, k, n, hp, hk, hn⟩ => by
    unfold levelsP
    cases hx : rowP ok i 0 m x with
    | none => rfl
    | some m' =>
      cases p with
      | zero =>
        simp at hp
        subst hp
        rw [rowP_none x 0 m ⟨k, n, hk, by rw [Nat.zero_add]; exact hn⟩] at hx
        cases hx
      | succ p => exact levelsP_none r (i + 1) m' ⟨p, row, k, n, by simpa using hp, hk, by rw [show i + 1 + p = i + (p + 1) by omega]; exact hn⟩
theorem levelsP_eq {ok ok' : Nat → Nat → Int → Bool} {l : List (List Int)} {m : Int} (h : (∀ p row, l[p]? = some row → ∀ k n, row[k]? = some n → ok p k n = true) ↔ ∀ p row, l[p]? = some row → ∀ k n, row[k]? = some n → ok' p k n = true) : levelsP ok 0 m l = levelsP ok' 0 m l := by
  by_cases ha : ∀ p row, l[p]? = some row → ∀ k n, row[k]? = some n → ok p k n = true
  · exact levelsP_of l 0 m (fun p row hp k n hk => by rw [Nat.zero_add]; exact ha p row hp k n hk) (fun p row hp k n hk => by rw [Nat.zero_add]; exact h.1 ha p row hp k n hk)
  · have hb : ¬ ∀ p row, l[p]? = some row → ∀ k n, row[k]? = some n → ok' p k n = true := fun hb => ha (h.2 hb)
    have neg : ∀ {ok : Nat → Nat → Int → Bool}, (¬ ∀ p row, l[p]? = some row → ∀ k n, row[k]? = some n → ok p k n = true) → ∃ p row k n, l[p]? = some row ∧ row[k]? = some n ∧ ok (0 + p) k n = false := fun {ok} hn => by
      apply Classical.byContradiction
      intro hc
      refine hn fun p row hp k n hk => ?_
      cases hq : ok p k n with
      | true => rfl
      | false => exact absurd ⟨p, row, k, n, hp, hk, by rw [Nat.zero_add]; exact hq⟩ hc
    rw [levelsP_none l 0 m (neg ha), levelsP_none l 0 m (neg hb)]
theorem great_ge : ∀ (l : List Int) (m : Int), m ≤ l.foldl max m ∧ (∀ x ∈ l, x ≤ l.foldl max m) ∧ (l.foldl max m = m ∨ ∃ x ∈ l, l.foldl max m = x)
  | [], m => ⟨Int.le_refl _, fun _ h => (by cases h), .inl rfl⟩
  | x :: l, m => by
    obtain ⟨h1, h2, h3⟩ := great_ge l (max m x)
    show m ≤ l.foldl max (max m x) ∧ (∀ y ∈ x :: l, y ≤ l.foldl max (max m x)) ∧ (l.foldl max (max m x) = m ∨ _)
    refine ⟨by omega, fun y hy => ?_, ?_⟩
    · rcases List.mem_cons.1 hy with rfl | hy
      · omega
      · exact h2 y hy
    · rcases h3 with h | ⟨y, hy, h⟩
      · by_cases hm : x ≤ m
        · exact .inl (by rw [h]; omega)
        · exact .inr ⟨x, List.mem_cons_self, by show l.foldl max (max m x) = x; rw [h]; omega⟩
      · exact .inr ⟨y, List.mem_cons_of_mem _ hy, h⟩
theorem rowGo_P (a b : List ByteArray) (xs : List (List Int)) (i : Nat) : ∀ (l : List Int) (j : Nat) (m : Int), 0 ≤ m → (∀ n ∈ l, 0 ≤ n) → rowGo a b xs i j m l = rowP (cellOk a b xs) i j m l ∧ ∀ m', rowP (cellOk a b xs) i j m l = some m' → 0 ≤ m'
  | [], j, m, h, _ => ⟨rfl, fun m' e => by injection e with e; omega⟩
  | n :: r, j, m, h, hl => by
    have hn := hl n (by simp)
    have hg : great [m, n] = max m n := by rw [great_two]; omega
    have ih := rowGo_P a b xs i r (j + 1) (max m n) (by omega) fun x hx => hl x (List.mem_cons_of_mem _ hx)
    unfold rowGo rowP
    rw [hg]
    split
    · exact ih
    · exact ⟨rfl, fun _ e => by cases e⟩
theorem levelsGo_P (a b : List ByteArray) (xs : List (List Int)) : ∀ (l : List (List Int)) (i : Nat) (m : Int), 0 ≤ m → (∀ row ∈ l, ∀ n ∈ row, 0 ≤ n) → levelsGo a b xs i m l = levelsP (cellOk a b xs) i m l
  | [], _, _, _, _ => rfl
  | row :: r, i, m, h, hl => by
    obtain ⟨e, h0⟩ := rowGo_P a b xs i row 0 m h (hl row (by simp))
    unfold levelsGo levelsP
    rw [e]
    cases hr : rowP (cellOk a b xs) i 0 m row with
    | none => rfl
    | some m' => exact levelsGo_P a b xs r (i + 1) m' (h0 m' hr) fun x hx => hl x (List.mem_cons_of_mem _ hx)
/-- What the reference asks of a level: all that follow are greater. -/
def laterOk (a b : List ByteArray) (xs : List (List Int)) (i j : Nat) (n : Int) : Bool :=
  (decide (n = 0) == decide (a[i]? ≠ b[j]?)) && (List.range a.length).all fun k => (List.range b.length).all fun l => !(decide (i < k) && decide (j < l) && decide (0 < n) && decide (a[k]? = b[l]?) && decide (((xs.getD k []).getD l 0) ≤ n))
theorem later_iff {a b : List ByteArray} {xs : List (List Int)} {i j : Nat} {n : Int} : laterOk a b xs i j n = true ↔ (n = 0 ↔ a[i]? ≠ b[j]?) ∧ ∀ k l, i < k → k < a.length → j < l → l < b.length → 0 < n → a[k]? = b[l]? → n < (xs.getD k []).getD l 0 := by
  unfold laterOk
  simp only [Bool.and_eq_true, List.all_eq_true, List.mem_range, Bool.not_eq_true', Bool.and_eq_false_iff, decide_eq_false_iff_not, beq_iff_eq, decide_eq_decide]
  refine and_congr Iff.rfl ⟨fun h k l h1 h2 h3 h4 h5 h6 => ?_, fun h k h2 l h4 => ?_⟩
  · rcases h k h2 l h4 with (((h | h) | h) | h) | h
    · exact absurd h1 h
    · exact absurd h3 h
    · exact absurd h5 h
    · exact absurd h6 h
    · omega
  · by_cases h1 : i < k
    · by_cases h3 : j < l
      · by_cases h5 : 0 < n
        · by_cases h6 : a[k]? = b[l]?
          · exact .inr (by have := h k l h1 h2 h3 h4 h5 h6; omega)
          · exact .inl (.inr h6)
        · exact .inl (.inl (.inr h5))
      · exact .inl (.inl (.inl (.inr h3)))
    · exact .inl (.inl (.inl (.inl h1)))
theorem cell_iff {a b : List ByteArray} {xs : List (List Int)} {i j : Nat} {n : Int} : cellOk a b xs i j n = true ↔ (n = 0 ↔ a[i]? ≠ b[j]?) ∧ ∀ row ∈ xs.take i, 0 < n → great (row.take j) < n := by
  unfold cellOk
  simp only [Bool.and_eq_true, List.all_eq_true, Bool.not_eq_true', Bool.and_eq_false_iff, decide_eq_false_iff_not, beq_iff_eq, decide_eq_decide]
  refine and_congr Iff.rfl ⟨fun h row hr hn => ?_, fun h row hr => ?_⟩
  · rcases h row hr with h | h
    · exact absurd hn h
    · omega
  · by_cases hn : 0 < n
    · exact .inr (by have := h row hr hn; omega)
    · exact .inl hn
theorem asks_alike {a b : List ByteArray} {xs : List (List Int)} (hl : xs.length = a.length) (hr : ∀ row ∈ xs, row.length = b.length) (h0 : ∀ row ∈ xs, ∀ n ∈ row, 0 ≤ n) :
    (∀ p row, xs[p]? = some row → ∀ k n, row[k]? = some n → cellOk a b xs p k n = true) ↔ ∀ p row, xs[p]? = some row → ∀ k n, row[k]? = some n → laterOk a b xs p k n = true := by
  constructor
  · intro h p row hp k n hk
    refine later_iff.2 ⟨(cell_iff.1 (h p row hp k n hk)).1, fun q l h1 h2 h3 h4 h5 h6 => ?_⟩
    have hq : q < xs.length := by omega
    have hql : l < (xs[q]).length := by rw [hr _ (List.getElem_mem hq)]; exact h4
    have e1 : xs.getD q [] = xs[q] := by simp [List.getD_eq_getElem?_getD, List.getElem?_eq_getElem hq]
    have e2 : (xs[q]).getD l 0 = (xs[q])[l] := by simp [List.getD_eq_getElem?_getD, List.getElem?_eq_getElem hql]
    rw [e1, e2]
    have hc := cell_iff.1 (h q xs[q] (List.getElem?_eq_getElem hq) l (xs[q])[l] (List.getElem?_eq_getElem hql))
    have hne : (xs[q])[l] ≠ 0 := fun e => absurd h6 (hc.1.1 e)
    have hge := h0 _ (List.getElem_mem hq) _ (List.getElem_mem hql)
    have hrow : row ∈ xs.take q := by
      rw [List.mem_take_iff_getElem]
      obtain ⟨hp1, hp2⟩ := List.getElem?_eq_some_iff.1 hp
      exact ⟨p, by omega, hp2⟩
    have hg := hc.2 row hrow (by omega)
    have hm : n ∈ row.take l := by
      rw [List.mem_take_iff_getElem]
      obtain ⟨hp1, hp2⟩ := List.getElem?_eq_some_iff.1 hk
      exact ⟨k, by omega, hp2⟩
    have := (great_ge (row.take l) 0).2.1 n hm
    unfold great at hg
    omega
  · intro h p row hp k n hk
    refine cell_iff.2 ⟨(later_iff.1 (h p row hp k n hk)).1, fun row' hm hn => ?_⟩
    have hz := later_iff.1 (h p row hp k n hk)
    obtain ⟨q, hq1, hq2⟩ := List.mem_take_iff_getElem.1 hm
    have hqx : xs[q]? = some row' := by rw [List.getElem?_eq_getElem (by omega), hq2]
    rcases (great_ge (row'.take k) 0).2.2 with e | ⟨x, hx, e⟩
    · unfold great; omega
    · obtain ⟨l, hl1, hl2⟩ := List.mem_take_iff_getElem.1 hx
      have hlx : row'[l]? = some x := by rw [List.getElem?_eq_getElem (by omega), hl2]
      have hw := later_iff.1 (h q row' hqx l x hlx)
      have hx0 : 0 ≤ x := h0 row' (List.mem_of_getElem? hqx) x (List.mem_of_getElem? hlx)
      have hpl := (List.getElem?_eq_some_iff.1 hp).1
      have hkl := (List.getElem?_eq_some_iff.1 hk).1
      have hrl := hr row (List.mem_of_getElem? hp)
      have hab : a[p]? = b[k]? := Classical.byContradiction fun e => by have := hz.1.2 e; omega
      by_cases hx1 : 0 < x
      · have := hw.2 p k (by omega) (by omega) (by omega) (by omega) hx1 hab
        have e1 : (xs.getD p []).getD k 0 = n := by simp [List.getD_eq_getElem?_getD, hp, hk]
        rw [e1] at this
        unfold great
        omega
      · unfold great; omega
/-- What the reference's Bound answers, of files that are right. -/
def refBound (a b : List ByteArray) (xs : List (List Int)) : Int × Int :=
  if xs.length = a.length ∧ (xs.all fun l => decide (l.length = b.length)) = true then
    if (xs.all fun l => l.all inr) = true then levelsP (laterOk a b xs) 0 0 xs else (0, 3)
  else (0, 2)
end File
namespace Fl
theorem ref_bound {a b : List ByteArray} (h : errOf a b = 0) (xs : List (List Int)) : File.refBound a b xs = boundOf a b xs := by
  unfold File.refBound boundOf
  rw [if_pos h]
  split
  · rename_i h1
    split
    · rename_i h2
      have hr : ∀ row ∈ xs, row.length = b.length := fun row hm => by simpa using List.all_eq_true.1 h1.2 row hm
      have h0 : ∀ row ∈ xs, ∀ n ∈ row, 0 ≤ n := fun row hm n hn => by
        have := List.all_eq_true.1 (List.all_eq_true.1 h2 row hm) n hn
        unfold File.inr at this
        simp only [Bool.and_eq_true, decide_eq_true_eq] at this
        exact this.1
      rw [File.levelsGo_P a b xs xs 0 0 (Int.le_refl _) h0]
      exact (File.levelsP_eq (File.asks_alike h1.1 hr h0)).symm
    · rfl
  · rfl
end Fl
end Go.Proofs.YtekkhnjepcebkaaDoor
