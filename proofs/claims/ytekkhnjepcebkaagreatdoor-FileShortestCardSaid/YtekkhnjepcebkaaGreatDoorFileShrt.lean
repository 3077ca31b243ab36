/- The reference of layer 11: levels are compared with all that follow; that is the same as what the layer asks. Plain laws. -/
import Derived.Test.YtekkhnjepcebkaaGreatDoorFlLs
import Derived.Test.YtekkhnjepcebkaaGreatDoorFlMk
import Derived.Test.YtekkhnjepcebkaaGreatDoorFilePl
import Derived.Test.YtekkhnjepcebkaaGreatDoorFlW
import Derived.Test.YtekkhnjepcebkaaGreatDoorFree
set_option linter.unusedVariables false
set_option linter.unusedSimpArgs false
namespace Go.Proofs.YtekkhnjepcebkaaGreatDoor
namespace File
/-- Rows gone through with a test of each cell. -/
def rowP (ok : Nat → Nat → Int → Bool) (i : Nat) : Nat → Int → List Int → Option Int
  | _, most, [] => some most
  | j, most, n :: r => if ok i j n then rowP ok i (j + 1) (max most n) r else none
def levelsP (ok : Nat → Nat → Int → Bool) : Nat → Int → List (List Int) → Int × Int
  | _, most, [] => (most, 0)
  | i, most, l :: r => match rowP ok i 0 most l with
    | some m => levelsP ok (i + 1) m r
    | none => (0, 8)
theorem rowP_of {ok ok' : Nat → Nat → Int → Bool} {i : Nat} : ∀ (l : List Int) (j : Nat) (m : Int), (∀ k n, l[k]? = some n → ok i (j + k) n = true) → (∀ k n, l[k]? = some n → ok' i (j + k) n = true) → rowP ok i j m l = rowP ok' i j m l ∧ ∃ m', rowP ok i j m l = some m'
  | [], _, m, _, _ => ⟨rfl, m, rfl⟩
  | n :: r, j, m, h, h' => by
    have h0 := h 0 n rfl
    have h0' := h' 0 n rfl
    rw [Nat.add_zero] at h0 h0'
    have ih := rowP_of r (j + 1) (max m n) (fun k n hk => by have := h (k + 1) n (by simpa using hk); rwa [show j + (k + 1) = j + 1 + k by omega] at this) (fun k n hk => by have := h' (k + 1) n (by simpa using hk); rwa [show j + (k + 1) = j + 1 + k by omega] at this)
    unfold rowP
    rw [if_pos h0, if_pos h0']
    exact ih
theorem rowP_none {ok : Nat → Nat → Int → Bool} {i : Nat} : ∀ (l : List Int) (j : Nat) (m : Int), (∃ k n, l[k]? = some n ∧ ok i (j + k) n = false) → rowP ok i j m l = none
  | [], _, _, ⟨_, _, h, _⟩ => by simp at h
  | x :: r, j, m, ⟨k, n, hk, hn⟩ => by
    unfold rowP
    by_cases h0 : ok i j x = true
    · rw [if_pos h0]
      cases k with
      | zero => simp at hk; subst hk; rw [Nat.add_zero, h0] at hn; cases hn
      | succ k => exact rowP_none r (j + 1) _ ⟨k, n, by simpa using hk, by rw [show j + 1 + k = j + (k + 1) by omega]; exact hn⟩
    · rw [if_neg h0]
theorem levelsP_of {ok ok' : Nat → Nat → Int → Bool} : ∀ (l : List (List Int)) (i : Nat) (m : Int), (∀ p row, l[p]? = some row → ∀ k n, row[k]? = some n → ok (i + p) k n = true) → (∀ p row, l[p]? = some row → ∀ k n, row[k]? = some n → ok' (i + p) k n = true) → levelsP ok i m l = levelsP ok' i m l
  | [], _, _, _, _ => rfl
  | row :: r, i, m, h, h' => by
    have h0 := h 0 row rfl
    have h0' := h' 0 row rfl
    simp only [Nat.add_zero] at h0 h0'
    obtain ⟨e, m', hm⟩ := rowP_of (ok := ok) (ok' := ok') (i := i) row 0 m (fun k n hk => by rw [Nat.zero_add]; exact h0 k n hk) (fun k n hk => by rw [Nat.zero_add]; exact h0' k n hk)
    have ih := fun m => levelsP_of r (i + 1) m (fun p row hp k n hk => by have := h (p + 1) row (by simpa using hp) k n hk; rwa [show i + (p + 1) = i + 1 + p by omega] at this) (fun p row hp k n hk => by have := h' (p + 1) row (by simpa using hp) k n hk; rwa [show i + (p + 1) = i + 1 + p by omega] at this)
    unfold levelsP
    rw [← e, hm]
    exact ih m'
theorem levelsP_none {ok : Nat → Nat → Int → Bool} : ∀ (l : List (List Int)) (i : Nat) (m : Int), (∃ p row k n, l[p]? = some row ∧ row[k]? = some n ∧ ok (i + p) k n = false) → levelsP ok i m l = (0, 8)
  | [], _, _, ⟨_, _, _, _, h, _, _⟩ => by simp at h
  | x :: r, i, m, ⟨p, row, k, n, hp, hk, hn⟩ => by
    unfold levelsP
    cases hx : rowP ok i 0 m x with
    | none => rfl
    | some m' =>
      cases p with
      | zero =>
        simp at hp
        subst hp
        rw [rowP_none x 0 m ⟨k, n, hk, by rw [Nat.zero_add]; exact hn⟩] at hx
        cases hx
      | succ p => exact levelsP_none r (i + 1) m' ⟨p, row, k, n, by simpa using hp, hk, by rw [show i + 1 + p = i + (p + 1) by omega]; exact hn⟩
theorem levelsP_eq {ok ok' : Nat → Nat → Int → Bool} {l : List (List Int)} {m : Int} (h : (∀ p row, l[p]? = some row → ∀ k n, row[k]? = some n → ok p k n = true) ↔ ∀ p row, l[p]? = some row → ∀ k n, row[k]? = some n → ok' p k n = true) : levelsP ok 0 m l = levelsP ok' 0 m l := by
  by_cases ha : ∀ p row, l[p]? = some row → ∀ k n, row[k]? = some n → ok p k n = true
  · exact levelsP_of l 0 m (fun p row hp k n hk => by rw [Nat.zero_add]; exact ha p row hp k n hk) (fun p row hp k n hk => by rw [Nat.zero_add]; exact h.1 ha p row hp k n hk)
  · have hb : ¬ ∀ p row, l[p]? = some row → ∀ k n, row[k]? = some n → ok' p k n = true := fun hb => ha (h.2 hb)
    have neg : ∀ {ok : Nat → Nat → Int → Bool}, (¬ ∀ p row, l[p]? = some row → ∀ k n, row[k]? = some n → ok p k n = true) → ∃ p row k n, l[p]? = some row ∧ row[k]? = some n ∧ ok (0 + p) k n = false := fun {ok} hn => by
      apply Classical.byContradiction
      intro hc
      refine hn fun p row hp k n hk => ?_
      cases hq : ok p k n with
      | true => rfl
      | false => exact absurd ⟨p, row, k, n, hp, hk, by rw [Nat.zero_add]; exact hq⟩ hc
    rw [levelsP_none l 0 m (neg ha), levelsP_none l 0 m (neg hb)]
theorem great_ge : ∀ (l : List Int) (m : Int), m ≤ l.foldl max m ∧ (∀ x ∈ l, x ≤ l.foldl max m) ∧ (l.foldl max m = m ∨ ∃ x ∈ l, l.foldl max m = x)
  | [], m => ⟨Int.le_refl _, fun _ h => (by cases h), .inl rfl⟩
  | x :: l, m => by
    obtain ⟨h1, h2, h3⟩ := great_ge l (max m x)
    show m ≤ l.foldl max (max m x) ∧ (∀ y ∈ x :: l, y ≤ l.foldl max (max m x)) ∧ (l.foldl max (max m x) = m ∨ _)
    refine ⟨by omega, fun y hy => ?_, ?_⟩
    · rcases List.mem_cons.1 hy with rfl | hy
      · omega
      · exact h2 y hy
    · rcases h3 with h | ⟨y, hy, h⟩
      · by_cases hm : x ≤ m
        · exact .inl (by rw [h]; omega)
        · exact .inr ⟨x, List.mem_cons_self, by show l.foldl max (max m x) = x; rw [h]; omega⟩
      · exact .inr ⟨y, List.mem_cons_of_mem _ hy, h⟩
theorem rowGo_P (a b : List ByteArray) (xs : List (List Int)) (i : Nat) : ∀ (l : List Int) (j : Nat) (m : Int), 0 ≤ m → (∀ n ∈ l, 0 ≤ n) → rowGo a b xs i j m l = rowP (cellOk a b xs) i j m l ∧ ∀ m', rowP (cellOk a b xs) i j m l = some m' → 0 ≤ m'
  | [], j, m, h, _ => ⟨rfl, fun m' e => by injection e with e; omega⟩
  | n :: r, j, m, h, hl => by
    have hn := hl n (by simp)
    have hg : great [m, n] = max m n := by rw [great_two]; omega
    have ih := rowGo_P a b xs i r (j + 1) (max m n) (by omega) fun x hx => hl x (List.mem_cons_of_mem _ hx)
    unfold rowGo rowP
    rw [hg]
    split
    · exact ih
    · exact ⟨rfl, fun _ e => by cases e⟩
theorem levelsGo_P (a b : List ByteArray) (xs : List (List Int)) : ∀ (l : List (List Int)) (i : Nat) (m : Int), 0 ≤ m → (∀ row ∈ l, ∀ n ∈ row, 0 ≤ n) → levelsGo a b xs i m l = levelsP (cellOk a b xs) i m l
  | [], _, _, _, _ => rfl
  | row :: r, i, m, h, hl => by
    obtain ⟨e, h0⟩ := rowGo_P a b xs i row 0 m h (hl row (by simp))
    unfold levelsGo levelsP
    rw [e]
    cases hr : rowP (cellOk a b xs) i 0 m row with
    | none => rfl
    | some m' => exact levelsGo_P a b xs r (i + 1) m' (h0 m' hr) fun x hx => hl x (List.mem_cons_of_mem _ hx)
/-- What the reference asks of a level: all that follow are greater. -/
def laterOk (a b : List ByteArray) (xs : List (List Int)) (i j : Nat) (n : Int) : Bool :=
  (decide (n = 0) == decide (a[i]? ≠ b[j]?)) && (List.range a.length).all fun k => (List.range b.length).all fun l => !(decide (i < k) && decide (j < l) && decide (0 < n) && decide (a[k]? = b[l]?) && decide (((xs.getD k []).getD l 0) ≤ n))
theorem later_iff {a b : List ByteArray} {xs : List (List Int)} {i j : Nat} {n : Int} : laterOk a b xs i j n = true ↔ (n = 0 ↔ a[i]? ≠ b[j]?) ∧ ∀ k l, i < k → k < a.length → j < l → l < b.length → 0 < n → a[k]? = b[l]? → n < (xs.getD k []).getD l 0 := by
  unfold laterOk
  simp only [Bool.and_eq_true, List.all_eq_true, List.mem_range, Bool.not_eq_true', Bool.and_eq_false_iff, decide_eq_false_iff_not, beq_iff_eq, decide_eq_decide]
  refine and_congr Iff.rfl ⟨fun h k l h1 h2 h3 h4 h5 h6 => ?_, fun h k h2 l h4 => ?_⟩
  · rcases h k h2 l h4 with (((h | h) | h) | h) | h
    · exact absurd h1 h
    · exact absurd h3 h
    · exact absurd h5 h
    · exact absurd h6 h
    · omega
  · by_cases h1 : i < k
    · by_cases h3 : j < l
      · by_cases h5 : 0 < n
        · by_cases h6 : a[k]? = b[l]?
          · exact .inr (by have := h k l h1 h2 h3 h4 h5 h6; omega)
          · exact .inl (.inr h6)
        · exact .inl (.inl (.inr h5))
      · exact .inl (.inl (.inl (.inr h3)))
    · exact .inl (.inl (.inl (.inl h1)))
theorem cell_iff {a b : List ByteArray} {xs : List (List Int)} {i j : Nat} {n : Int} : cellOk a b xs i j n = true ↔ (n = 0 ↔ a[i]? ≠ b[j]?) ∧ ∀ row ∈ xs.take i, 0 < n → great (row.take j) < n := by
  unfold cellOk
  simp only [Bool.and_eq_true, List.all_eq_true, Bool.not_eq_true', Bool.and_eq_false_iff, decide_eq_false_iff_not, beq_iff_eq, decide_eq_decide]
  refine and_congr Iff.rfl ⟨fun h row hr hn => ?_, fun h row hr => ?_⟩
  · rcases h row hr with h | h
    · exact absurd hn h
    · omega
  · by_cases hn : 0 < n
    · exact .inr (by have := h row hr hn; omega)
    · exact .inl hn
theorem asks_alike {a b : List ByteArray} {xs : List (List Int)} (hl : xs.length = a.length) (hr : ∀ row ∈ xs, row.length = b.length) (h0 : ∀ row ∈ xs, ∀ n ∈ row, 0 ≤ n) :
    (∀ p row, xs[p]? = some row → ∀ k n, row[k]? = some n → cellOk a b xs p k n = true) ↔ ∀ p row, xs[p]? = some row → ∀ k n, row[k]? = some n → laterOk a b xs p k n = true := by
  constructor
  · intro h p row hp k n hk
    refine later_iff.2 ⟨(cell_iff.1 (h p row hp k n hk)).1, fun q l h1 h2 h3 h4 h5 h6 => ?_⟩
    have hq : q < xs.length := by omega
    have hql : l < (xs[q]).length := by rw [hr _ (List.getElem_mem hq)]; exact h4
    have e1 : xs.getD q [] = xs[q] := by simp [List.getD_eq_getElem?_getD, List.getElem?_eq_getElem hq]
    have e2 : (xs[q]).getD l 0 = (xs[q])[l] := by simp [List.getD_eq_getElem?_getD, List.getElem?_eq_getElem hql]
    rw [e1, e2]
    have hc := cell_iff.1 (h q xs[q] (List.getElem?_eq_getElem hq) l (xs[q])[l] (List.getElem?_eq_getElem hql))
    have hne : (xs[q])[l] ≠ 0 := fun e => absurd h6 (hc.1.1 e)
    have hge := h0 _ (List.getElem_mem hq) _ (List.getElem_mem hql)
    have hrow : row ∈ xs.take q := by
      rw [List.mem_take_iff_getElem]
      obtain ⟨hp1, hp2⟩ := List.getElem?_eq_some_iff.1 hp
      exact ⟨p, by omega, hp2⟩
    have hg := hc.2 row hrow (by omega)
    have hm : n ∈ row.take l := by
      rw [List.mem_take_iff_getElem]
      obtain ⟨hp1, hp2⟩ := List.getElem?_eq_some_iff.1 hk
      exact ⟨k, by omega, hp2⟩
    have := (great_ge (row.take l) 0).2.1 n hm
    unfold great at hg
    omega
  · intro h p row hp k n hk
    refine cell_iff.2 ⟨(later_iff.1 (h p row hp k n hk)).1, fun row' hm hn => ?_⟩
    have hz := later_iff.1 (h p row hp k n hk)
    obtain ⟨q, hq1, hq2⟩ := List.mem_take_iff_getElem.1 hm
    have hqx : xs[q]? = some row' := by rw [List.getElem?_eq_getElem (by omega), hq2]
    rcases (great_ge (row'.take k) 0).2.2 with e | ⟨x, hx, e⟩
    · unfold great; omega
    · obtain ⟨l, hl1, hl2⟩ := List.mem_take_iff_getElem.1 hx
      have hlx : row'[l]? = some x := by rw [List.getElem?_eq_getElem (by omega), hl2]
      have hw := later_iff.1 (h q row' hqx l x hlx)
      have hx0 : 0 ≤ x := h0 row' (List.mem_of_getElem? hqx) x (List.mem_of_getElem? hlx)
      have hpl := (List.getElem?_eq_some_iff.1 hp).1
      have hkl := (List.getElem?_eq_some_iff.1 hk).1
      have hrl := hr row (List.mem_of_getElem? hp)
      have hab : a[p]? = b[k]? := Classical.byContradiction fun e => by have := hz.1.2 e; omega
      by_cases hx1 : 0 < x
      · have := hw.2 p k (by omega) (by omega) (by omega) (by omega) hx1 hab
        have e1 : (xs.getD p []).getD k 0 = n := by simp [List.getD_eq_getElem?_getD, hp, hk]
        rw [e1] at this
        unfold great
        omega
      · unfold great; omega
/-- What the reference's Bound answers, of files that are right. -/
def refBound (a b : List ByteArray) (xs : List (List Int)) : Int × Int :=
  if xs.length = a.length ∧ (xs.all fun l => decide (l.length = b.length)) = true then
    if (xs.all fun l => l.all inr) = true then levelsP (laterOk a b xs) 0 0 xs else (0, 3)
  else (0, 2)
end File
namespace Fl
theorem ref_bound {a b : List ByteArray} (h : errOf a b = 0) (xs : List (List Int)) : File.refBound a b xs = boundOf a b xs := by
  unfold File.refBound boundOf
  rw [if_pos h]
  split
  · rename_i h1
    split
    · rename_i h2
      have hr : ∀ row ∈ xs, row.length = b.length := fun row hm => by simpa using List.all_eq_true.1 h1.2 row hm
      have h0 : ∀ row ∈ xs, ∀ n ∈ row, 0 ≤ n := fun row hm n hn => by
        have := List.all_eq_true.1 (List.all_eq_true.1 h2 row hm) n hn
        unfold File.inr at this
        simp only [Bool.and_eq_true, decide_eq_true_eq] at this
        exact this.1
      rw [File.levelsGo_P a b xs xs 0 0 (Int.le_refl _) h0]
      exact (File.levelsP_eq (File.asks_alike h1.1 hr h0)).symm
    · rfl
  · rfl
end Fl
end Go.Proofs.YtekkhnjepcebkaaGreatDoor
-- The reference of layer 11: changes; what it finds is what the layer finds. Plain laws.
namespace Go.Proofs.YtekkhnjepcebkaaGreatDoor
namespace File
/-- The worst error of lists of lines. -/
def worse (e n : Int) : Int := if n = 10 then 10 else if n = 11 ∧ e = 0 then 11 else e
def worst (l : List (List ByteArray)) : Int := l.foldl (fun e x => worse e (lined x)) 0
def lin (w k : Bool) : Int := if w then (if k then 0 else 11) else 10
theorem lined_lin (l : List ByteArray) : lined l = lin (l.all wide) (l.all okLine) := rfl
theorem worse_lin (w k w' k' : Bool) : worse (lin w k) (lin w' k') = lin (w && w') (k && k') := by cases w <;> cases k <;> cases w' <;> cases k' <;> rfl
theorem worst_go : ∀ (l : List (List ByteArray)) (pre : List ByteArray), l.foldl (fun e x => worse e (lined x)) (lined pre) = lined (pre ++ l.flatMap id)
  | [], pre => by rw [List.flatMap_nil, List.append_nil]; rfl
  | x :: l, pre => by
    have e : worse (lined pre) (lined x) = lined (pre ++ x) := by
      rw [lined_lin, lined_lin, lined_lin, worse_lin, List.all_append, List.all_append]
    show l.foldl _ (worse (lined pre) (lined x)) = _
    rw [e, worst_go l (pre ++ x), List.flatMap_cons, List.append_assoc]; rfl
theorem worst_eq (l : List (List ByteArray)) : worst l = lined (l.flatMap id) := worst_go l []
/-- What the reference makes of a file, from a line on. -/
def makeGo (f : List ByteArray) : Nat → List (Edit ByteArray) → Option (List ByteArray)
  | at_, [] => some (f.drop at_)
  | at_, x :: r => if (x.at_ ≤ (f.length : Int) ∧ fitGo f x.at_.toNat x.old = true) then (makeGo f x.hi r).map (fun l => cut f at_ x.lo ++ (x.new ++ l)) else none
theorem makeGo_some {f : List ByteArray} : ∀ {c : List (Edit ByteArray)} {lo : Nat}, Chain lo c → c.all (fitAt f) = true → makeGo f lo c = some (hasGo f f.length lo c)
  | [], lo, _, _ => by
    show some (f.drop lo) = some (cut f lo f.length)
    unfold cut
    rw [List.take_of_length_le (by rw [List.length_drop]; omega)]
  | x :: r, lo, ⟨h1, h2⟩, h => by
    rw [List.all_cons, Bool.and_eq_true] at h
    have hx := h.1
    unfold fitAt at hx
    rw [Bool.and_eq_true, decide_eq_true_eq] at hx
    unfold makeGo
    rw [if_pos hx, makeGo_some (lo := x.hi) (h2.weaken (Nat.le_succ _)) h.2]
    rfl
theorem makeGo_none {f : List ByteArray} : ∀ {c : List (Edit ByteArray)} {lo : Nat}, c.all (fitAt f) = false → makeGo f lo c = none
  | [], _, h => by cases h
  | x :: r, lo, h => by
    unfold makeGo
    split
    · rename_i hx
      have : fitAt f x = true := by unfold fitAt; rw [Bool.and_eq_true, decide_eq_true_eq]; exact hx
      rw [List.all_cons, this, Bool.true_and] at h
      rw [makeGo_none h]
      rfl
    · rfl
theorem makeGo_eq {f : List ByteArray} {c : List (Edit ByteArray)} (h : ChOk c) : makeGo f 0 c = if c.all (fitAt f) then some (make f c) else none := by
  split
  · rename_i ha
    have hch := ch_chain h
    rw [makeGo_some hch ha]
    have := make_has (f := f) hch fun x hx => fit_hi (h.at_ x hx).1 (List.all_eq_true.1 ha x hx)
    rw [this]
    simp
  · rename_i ha
    exact makeGo_none (by simpa using ha)
/-- What the reference's Make answers, of a file and a change that are right. -/
def refMake (f : List ByteArray) (c : List (Edit ByteArray)) : List ByteArray × Int :=
  match makeGo f 0 c with
  | none => ([], 7)
  | some l => if 24 < l.length then ([], 2) else (l, 0)
theorem refMake_eq {f : List ByteArray} {c : List (Edit ByteArray)} (hf : check f = 0) (hc : checkChange c = 0) : refMake f c = makeAns f c := by
  unfold refMake makeAns
  rw [if_pos hf, if_pos hc, makeGo_eq (ch_of hc)]
  cases c.all (fitAt f) <;> rfl
/-- How far lines lie after some edits. -/
def byOf : List (Edit ByteArray) → Int
  | [] => 0
  | x :: r => (x.new.length : Int) - (x.old.length : Int) + byOf r
theorem byOf_snoc : ∀ (l : List (Edit ByteArray)) (x : Edit ByteArray), byOf (l ++ [x]) = byOf l + ((x.new.length : Int) - (x.old.length : Int))
  | [], x => by simp [byOf]
  | y :: l, x => by simp only [List.cons_append, byOf, byOf_snoc l x]; omega
/-- What the reference's Diff goes through: an edit where either place lies behind. -/
def diffBy {α : Type} (a b : List α) : Nat → Nat → List (Nat × Nat) → List (Edit α)
  | _, _, [] => []
  | i, j, p :: r => (if i < p.1 ∨ j < p.2 then [⟨(i : Int), cut a i p.1, cut b j p.2⟩] else []) ++ diffBy a b (p.1 + 1) (p.2 + 1) r
theorem diffBy_eq {α : Type} {a b : List α} : ∀ (l : List (Nat × Nat)) (i j : Nat), (∀ k p, l[k]? = some p → k = 0 → i ≤ p.1 ∧ j ≤ p.2) → (∀ k p q, l[k]? = some p → l[k + 1]? = some q → p.1 < q.1 ∧ p.2 < q.2) → diffBy a b i j l = diffGo a b i j l
  | [], _, _, _, _ => rfl
  | p :: r, i, j, h0, hs => by
    obtain ⟨h1, h2⟩ := h0 0 p rfl rfl
    have ih := diffBy_eq (a := a) (b := b) r (p.1 + 1) (p.2 + 1) (fun k q hq hk => by
      subst hk
      have := hs 0 p q rfl (by simpa using hq)
      omega) fun k q s hq hsn => hs (k + 1) q s (by simpa using hq) (by simpa using hsn)
    unfold diffBy diffGo
    rw [ih]
    by_cases he : p.1 = i ∧ p.2 = j
    · rw [if_pos he, if_neg (by omega)]
    · rw [if_neg he, if_pos (by omega)]
end File
end Go.Proofs.YtekkhnjepcebkaaGreatDoor
-- petershamlaw11's pairs, at lists of common pairs. Condition: lengths are below a great bound.
namespace Go.Proofs.YtekkhnjepcebkaaGreatDoor
namespace File
theorem pairs_at {α : Type} [DecidableEq α] {a b : List α} : ∀ {l : List (Nat × Nat)} {i j k : Nat} {p : Nat × Nat}, Pairs a b i j l → l[k]? = some p → i ≤ p.1 ∧ j ≤ p.2 ∧ ∃ h1 : p.1 < a.length, ∃ h2 : p.2 < b.length, a[p.1] = b[p.2]
  | [], _, _, _, _, _, h => by simp at h
  | q :: r, i, j, 0, p, ⟨h1, h2, h3, _⟩, h => by
    simp at h; subst h; exact ⟨h1, h2, h3⟩
  | q :: r, i, j, k + 1, p, ⟨h1, h2, _, h4⟩, h => by
    obtain ⟨a1, a2, a3⟩ := pairs_at h4 (show r[k]? = some p by simpa using h)
    exact ⟨by omega, by omega, a3⟩
theorem pairs_next {α : Type} [DecidableEq α] {a b : List α} : ∀ {l : List (Nat × Nat)} {i j k : Nat} {p q : Nat × Nat}, Pairs a b i j l → l[k]? = some p → l[k + 1]? = some q → p.1 < q.1 ∧ p.2 < q.2
  | [], _, _, _, _, _, _, h, _ => by simp at h
  | x :: r, i, j, 0, p, q, ⟨_, _, _, h4⟩, h, h' => by
    simp at h; subst h
    obtain ⟨a1, a2, _⟩ := pairs_at h4 (show r[0]? = some q by simpa using h')
    exact ⟨by omega, by omega⟩
  | x :: r, i, j, k + 1, p, q, ⟨_, _, _, h4⟩, h, h' => pairs_next h4 (show r[k]? = some p by simpa using h) (show r[k + 1]? = some q by simpa using h')
end File
namespace Fl
open Go.RowKit
set_option maxRecDepth 100000
theorem stepF_un {P : Program} {ops : Array Oper} {o : Oper} {a : Act} {w : World} {K : Value → World → Prop} (hw : Region.wanted o (yielded ops a.tmps) = false) (hK : K undef w) : StepF P ops o a w K := by
  refine ⟨?_⟩; unfold StepG; rw [if_neg (by rw [hw]; decide)]; exact hK
set_option maxHeartbeats 8000000 in
theorem pairs_spec (A : Option Addr) (a : List ByteArray) (ca : Nat) (B : Option Addr) (b : List ByteArray) (cb : Nat) (Lv : Option Addr) (l : List (Nat × Nat)) (cl : Nat) (w : World) (ha : a.length ≤ big) (hb : b.length ≤ big) (hl : l.length ≤ big) (hsa : Sl strE w A a) (hsb : Sl strE w B b) (hsl : Sl pairE w Lv l) (hp : File.Pairs a b 0 0 l) :
    Calls Tryz.prog 51 #[.slice A a.length ca, .slice B b.length cb, .slice Lv l.length cl] w fun e w' => e = .returned (.bool true) ∧ Below w.heap.size w w' := by
  have HP := Lib.hid hp
  unfold big at ha hb hl
  clear hp
  go_enter Tryz.func51, Tryz.ntmps51
  go_wp2_with fail
  go_loopw [7, 8, 11] (fun _ _ i wr => ∃ k : Nat, k ≤ l.length ∧ i = iv k ∧ Below w.heap.size w wr) (fun _ _ i _ => l.length - (intOf i).toNat)
  case atStart => exact ⟨0, by omega, rfl, Below.refl _ _⟩
  case round =>
    obtain ⟨k, hk, rfl, hbr⟩ := hrel
    by_cases hlt : k < l.length
    · have hki : (k : Int) < (l.length : Int) := by omega
      obtain ⟨bl, ol, x, rfl, hbl, hx, hc0, hc1⟩ := Sl.atPr (hsl.below hbr) hlt
      obtain ⟨_, _, h1, h2, h3⟩ := File.pairs_at HP.out hx
      obtain ⟨px, py⟩ := x
      simp only at h1 h2 h3 hc0 hc1
      obtain ⟨ba, oa, s0, rfl, hba, hs0, hca⟩ := Sl.atS (hsa.below hbr) h1
      obtain ⟨bb, ob, s1, rfl, hbb, hs1, hcb⟩ := Sl.atS (hsb.below hbr) h2
      have hse : s1 = s0 := by
        rw [List.getElem?_eq_getElem h1] at hs0
        rw [List.getElem?_eq_getElem h2] at hs1
        rw [← Option.some.inj hs0, ← Option.some.inj hs1, h3]
      subst hse
      have hbM : Below wr.heap.size wr (wr.alloc (.cells #[iv (px : Int), iv (py : Int)] 83)) := (Below.refl _ _).alloc (Nat.le_refl _) _
      have HBX : Hid (Blk (wr.alloc (.cells #[iv (px : Int), iv (py : Int)] 83)) wr.heap.size 83 #[iv (px : Int), iv (py : Int)]) := Lib.hid (Blk.new _ _ _)
      go_upto_region 4 with fail
      generalize wr.alloc (.cells #[iv (px : Int), iv (py : Int)] 83) = wM at *
      have HCA : Hid (∀ x, Below wM.heap.size wM x → x.cell? ⟨ba, oa + px, none⟩ = some (.string s1)) := Lib.hid fun x h => ((hbM.next h (Nat.le_refl _)).cell (p := ⟨ba, oa + px, none⟩) hba).trans hca
      have HCB : Hid (∀ x, Below wM.heap.size wM x → x.cell? ⟨bb, ob + py, none⟩ = some (.string s1)) := Lib.hid fun x h => ((hbM.next h (Nat.le_refl _)).cell (p := ⟨bb, ob + py, none⟩) hbb).trans hcb
      have q1 : ¬ (px : Int) < 0 := by omega
      have q2 : ¬ (py : Int) < 0 := by omega
      have q3 : ¬ (a.length : Int) ≤ (px : Int) := by omega
      have q4 : ¬ (b.length : Int) ≤ (py : Int) := by omega
      have q5 : (px : Int) < (a.length : Int) := by omega
      have q6 : (py : Int) < (b.length : Int) := by omega
      by_cases hkz : k = 0
      · have q7 : ¬ (0 : Int) < (k : Int) := by omega
        clear hkz hc0 hc1 hca hcb hs0 hs1 h3 hx
        refine wp_free_lit (by kernel_rfl) 61 (by kernel_rfl) (by kernel_rfl) (by decide) (fun _ x => Below wM.heap.size wM x) (fun x x' => Below x.heap.size x x')
          [fun _ u _ => u = .pointer (some ⟨wr.heap.size, 0, none⟩),
           fun _ u _ => u = iv (px : Int),
           fun _ u _ => u = .bool false,
           fun _ u _ => u = .bool false,
           fun _ u _ => u = .pointer (some ⟨wr.heap.size, 0, none⟩),
           fun _ u _ => u = iv (px : Int),
           fun _ u _ => u = .slice (some ⟨ba, oa, none⟩) a.length ca,
           fun _ u _ => u = iv (a.length : Int),
           fun _ u _ => u = .bool false,
           fun _ u _ => u = .bool false,
           fun _ u _ => u = .bool false,
           fun _ u _ => u = .pointer (some ⟨wr.heap.size, 1, none⟩),
           fun _ u _ => u = iv (py : Int),
           fun _ u _ => u = .bool false,
           fun _ u _ => u = .bool false,
           fun _ u _ => u = .bool false,
           fun _ u _ => u = .pointer (some ⟨wr.heap.size, 1, none⟩),
           fun _ u _ => u = iv (py : Int),
           fun _ u _ => u = .slice (some ⟨bb, ob, none⟩) b.length cb,
           fun _ u _ => u = iv (b.length : Int),
           fun _ u _ => u = .bool false,
           fun _ u _ => u = .bool false,
           fun _ u _ => u = .bool false,
           fun _ u _ => u = .slice (some ⟨ba, oa, none⟩) a.length ca,
           fun _ u _ => u = .pointer (some ⟨wr.heap.size, 0, none⟩),
           fun _ u _ => u = iv (px : Int),
           fun _ u _ => u = .pointer (some ⟨ba, oa + px, none⟩),
           fun _ u _ => u = .string s1,
           fun _ u _ => u = .slice (some ⟨bb, ob, none⟩) b.length cb,
           fun _ u _ => u = .pointer (some ⟨wr.heap.size, 1, none⟩),
           fun _ u _ => u = iv (py : Int),
           fun _ u _ => u = .pointer (some ⟨bb, ob + py, none⟩),
           fun _ u _ => u = .string s1,
           fun _ u _ => u = .bool false,
           fun _ u _ => u = .bool false,
           fun _ u _ => u = .bool false,
           fun _ u _ => u = iv (k : Int),
           fun _ u _ => u = .bool false,
           fun _ u _ => u = .bool false,
           fun _ u _ => u = undef,
           fun _ u _ => u = undef,
           fun _ u _ => u = undef,
           fun _ u _ => u = undef,
           fun _ u _ => u = undef,
           fun _ u _ => u = undef,
           fun _ u _ => u = undef,
           fun _ u _ => u = undef,
           fun _ u _ => u = undef,
           fun _ u _ => u = undef,
           fun _ u _ => u = undef,
           fun _ u _ => u = undef,
           fun _ u _ => u = undef,
           fun _ u _ => u = undef,
           fun _ u _ => u = undef,
           fun _ u _ => u = undef,
           fun _ u _ => u = undef,
           fun _ u _ => u = undef,
           fun _ u _ => u = undef,
           fun _ u _ => u = undef,
           fun _ u _ => u = .bool false,
           fun _ u _ => u = .bool false]
          (Below.refl _ wM).drew ?_ ?_
        · simp only [List.take_succ_cons, List.take_zero, HopL]
          refine ⟨?_, ?_, ?_, ?_, ?_, ?_, ?_, ?_, ?_, ?_, ?_, ?_, ?_, ?_, ?_, ?_, ?_, ?_, ?_, ?_, ?_, ?_, ?_, ?_, ?_, ?_, ?_, ?_, ?_, ?_, ?_, ?_, ?_, ?_, ?_, ?_, ?_, ?_, ?_, ?_, ?_, ?_, ?_, ?_, ?_, ?_, ?_, ?_, ?_, ?_, ?_, ?_, ?_, ?_, ?_, ?_, ?_, ?_, ?_, ?_, ?_, trivial⟩
          · refine ⟨fun _ _ _ _ _ h => h, fun _ _ _ _ h _ => h, fun v n x hn hR hk => ?_⟩
            simp only [List.take_succ_cons, List.take_zero, frameF, Act.put, List.setIfInBounds_toArray, List.set_cons_zero, List.set_cons_succ]
            exact stepF_val (by first | rfl | simp [Region.wanted, yielded, *]) (by go_simp <;> omega) ⟨rfl, Below.refl _ _, hR⟩
          · refine ⟨fun _ _ _ _ _ h => h, fun _ _ _ _ h _ => h, fun v n x hn hR hk => ?_⟩
            have h0 : v 0 = .pointer (some ⟨wr.heap.size, 0, none⟩) := hk 0 (by kernel_rfl)
            have g0 := (Blk.under HBX.out hR).cell 0
            have g1 := (Blk.under HBX.out hR).cell 1
            simp only [List.take_succ_cons, List.take_zero, frameF, Act.put, List.setIfInBounds_toArray, List.set_cons_zero, List.set_cons_succ]
            exact stepF_val (by first | rfl | simp [Region.wanted, yielded, *]) (by go_simp <;> omega) ⟨rfl, Below.refl _ _, hR⟩
          · refine ⟨fun _ _ _ _ _ h => h, fun _ _ _ _ h _ => h, fun v n x hn hR hk => ?_⟩
            have h1 : v 1 = iv (px : Int) := hk 1 (by kernel_rfl)
            simp only [List.take_succ_cons, List.take_zero, frameF, Act.put, List.setIfInBounds_toArray, List.set_cons_zero, List.set_cons_succ]
            exact stepF_val (by first | rfl | simp [Region.wanted, yielded, *]) (by go_simp <;> omega) ⟨rfl, Below.refl _ _, hR⟩
          · refine ⟨fun _ _ _ _ _ h => h, fun _ _ _ _ h _ => h, fun v n x hn hR hk => ?_⟩
            have h2 : v 2 = .bool false := hk 2 (by kernel_rfl)
            simp only [List.take_succ_cons, List.take_zero, frameF, Act.put, List.setIfInBounds_toArray, List.set_cons_zero, List.set_cons_succ]
            exact stepF_val (by first | rfl | simp [Region.wanted, yielded, *]) (by go_simp <;> omega) ⟨rfl, Below.refl _ _, hR⟩
          · refine ⟨fun _ _ _ _ _ h => h, fun _ _ _ _ h _ => h, fun v n x hn hR hk => ?_⟩
            have h3 : v 3 = .bool false := hk 3 (by kernel_rfl)
            simp only [List.take_succ_cons, List.take_zero, frameF, Act.put, List.setIfInBounds_toArray, List.set_cons_zero, List.set_cons_succ]
            exact stepF_val (by first | rfl | simp [Region.wanted, yielded, *]) (by go_simp <;> omega) ⟨rfl, Below.refl _ _, hR⟩
          · refine ⟨fun _ _ _ _ _ h => h, fun _ _ _ _ h _ => h, fun v n x hn hR hk => ?_⟩
            have h3 : v 3 = .bool false := hk 3 (by kernel_rfl)
            have h4 : v 4 = .pointer (some ⟨wr.heap.size, 0, none⟩) := hk 4 (by kernel_rfl)
            have g0 := (Blk.under HBX.out hR).cell 0
            have g1 := (Blk.under HBX.out hR).cell 1
            simp only [List.take_succ_cons, List.take_zero, frameF, Act.put, List.setIfInBounds_toArray, List.set_cons_zero, List.set_cons_succ]
            exact stepF_val (by first | rfl | simp [Region.wanted, yielded, *]) (by go_simp <;> omega) ⟨rfl, Below.refl _ _, hR⟩
          · refine ⟨fun _ _ _ _ _ h => h, fun _ _ _ _ h _ => h, fun v n x hn hR hk => ?_⟩
            have h3 : v 3 = .bool false := hk 3 (by kernel_rfl)
            simp only [List.take_succ_cons, List.take_zero, frameF, Act.put, List.setIfInBounds_toArray, List.set_cons_zero, List.set_cons_succ]
            exact stepF_val (by first | rfl | simp [Region.wanted, yielded, *]) (by go_simp <;> omega) ⟨rfl, Below.refl _ _, hR⟩
          · refine ⟨fun _ _ _ _ _ h => h, fun _ _ _ _ h _ => h, fun v n x hn hR hk => ?_⟩
            have h3 : v 3 = .bool false := hk 3 (by kernel_rfl)
            have h6 : v 6 = .slice (some ⟨ba, oa, none⟩) a.length ca := hk 6 (by kernel_rfl)
            simp only [List.take_succ_cons, List.take_zero, frameF, Act.put, List.setIfInBounds_toArray, List.set_cons_zero, List.set_cons_succ]
            exact stepF_val (by first | rfl | simp [Region.wanted, yielded, *]) (by go_simp <;> omega) ⟨rfl, Below.refl _ _, hR⟩
          · refine ⟨fun _ _ _ _ _ h => h, fun _ _ _ _ h _ => h, fun v n x hn hR hk => ?_⟩
            have h3 : v 3 = .bool false := hk 3 (by kernel_rfl)
            have h5 : v 5 = iv (px : Int) := hk 5 (by kernel_rfl)
            have h7 : v 7 = iv (a.length : Int) := hk 7 (by kernel_rfl)
            simp only [List.take_succ_cons, List.take_zero, frameF, Act.put, List.setIfInBounds_toArray, List.set_cons_zero, List.set_cons_succ]
            exact stepF_val (by first | rfl | simp [Region.wanted, yielded, *]) (by go_simp <;> omega) ⟨rfl, Below.refl _ _, hR⟩
          · refine ⟨fun _ _ _ _ _ h => h, fun _ _ _ _ h _ => h, fun v n x hn hR hk => ?_⟩
            have h3 : v 3 = .bool false := hk 3 (by kernel_rfl)
            have h8 : v 8 = .bool false := hk 8 (by kernel_rfl)
            simp only [List.take_succ_cons, List.take_zero, frameF, Act.put, List.setIfInBounds_toArray, List.set_cons_zero, List.set_cons_succ]
            exact stepF_val (by first | rfl | simp [Region.wanted, yielded, *]) (by go_simp <;> omega) ⟨rfl, Below.refl _ _, hR⟩
          · refine ⟨fun _ _ _ _ _ h => h, fun _ _ _ _ h _ => h, fun v n x hn hR hk => ?_⟩
            have h9 : v 9 = .bool false := hk 9 (by kernel_rfl)
            simp only [List.take_succ_cons, List.take_zero, frameF, Act.put, List.setIfInBounds_toArray, List.set_cons_zero, List.set_cons_succ]
            exact stepF_val (by first | rfl | simp [Region.wanted, yielded, *]) (by go_simp <;> omega) ⟨rfl, Below.refl _ _, hR⟩
          · refine ⟨fun _ _ _ _ _ h => h, fun _ _ _ _ h _ => h, fun v n x hn hR hk => ?_⟩
            have h10 : v 10 = .bool false := hk 10 (by kernel_rfl)
            simp only [List.take_succ_cons, List.take_zero, frameF, Act.put, List.setIfInBounds_toArray, List.set_cons_zero, List.set_cons_succ]
            exact stepF_val (by first | rfl | simp [Region.wanted, yielded, *]) (by go_simp <;> omega) ⟨rfl, Below.refl _ _, hR⟩
          · refine ⟨fun _ _ _ _ _ h => h, fun _ _ _ _ h _ => h, fun v n x hn hR hk => ?_⟩
            have h10 : v 10 = .bool false := hk 10 (by kernel_rfl)
            have h11 : v 11 = .pointer (some ⟨wr.heap.size, 1, none⟩) := hk 11 (by kernel_rfl)
            have g0 := (Blk.under HBX.out hR).cell 0
            have g1 := (Blk.under HBX.out hR).cell 1
            simp only [List.take_succ_cons, List.take_zero, frameF, Act.put, List.setIfInBounds_toArray, List.set_cons_zero, List.set_cons_succ]
            exact stepF_val (by first | rfl | simp [Region.wanted, yielded, *]) (by go_simp <;> omega) ⟨rfl, Below.refl _ _, hR⟩
          · refine ⟨fun _ _ _ _ _ h => h, fun _ _ _ _ h _ => h, fun v n x hn hR hk => ?_⟩
            have h10 : v 10 = .bool false := hk 10 (by kernel_rfl)
            have h12 : v 12 = iv (py : Int) := hk 12 (by kernel_rfl)
            simp only [List.take_succ_cons, List.take_zero, frameF, Act.put, List.setIfInBounds_toArray, List.set_cons_zero, List.set_cons_succ]
            exact stepF_val (by first | rfl | simp [Region.wanted, yielded, *]) (by go_simp <;> omega) ⟨rfl, Below.refl _ _, hR⟩
          · refine ⟨fun _ _ _ _ _ h => h, fun _ _ _ _ h _ => h, fun v n x hn hR hk => ?_⟩
            have h10 : v 10 = .bool false := hk 10 (by kernel_rfl)
            have h13 : v 13 = .bool false := hk 13 (by kernel_rfl)
            simp only [List.take_succ_cons, List.take_zero, frameF, Act.put, List.setIfInBounds_toArray, List.set_cons_zero, List.set_cons_succ]
            exact stepF_val (by first | rfl | simp [Region.wanted, yielded, *]) (by go_simp <;> omega) ⟨rfl, Below.refl _ _, hR⟩
          · refine ⟨fun _ _ _ _ _ h => h, fun _ _ _ _ h _ => h, fun v n x hn hR hk => ?_⟩
            have h14 : v 14 = .bool false := hk 14 (by kernel_rfl)
            simp only [List.take_succ_cons, List.take_zero, frameF, Act.put, List.setIfInBounds_toArray, List.set_cons_zero, List.set_cons_succ]
            exact stepF_val (by first | rfl | simp [Region.wanted, yielded, *]) (by go_simp <;> omega) ⟨rfl, Below.refl _ _, hR⟩
          · refine ⟨fun _ _ _ _ _ h => h, fun _ _ _ _ h _ => h, fun v n x hn hR hk => ?_⟩
            have h15 : v 15 = .bool false := hk 15 (by kernel_rfl)
            simp only [List.take_succ_cons, List.take_zero, frameF, Act.put, List.setIfInBounds_toArray, List.set_cons_zero, List.set_cons_succ]
            exact stepF_val (by first | rfl | simp [Region.wanted, yielded, *]) (by go_simp <;> omega) ⟨rfl, Below.refl _ _, hR⟩
          · refine ⟨fun _ _ _ _ _ h => h, fun _ _ _ _ h _ => h, fun v n x hn hR hk => ?_⟩
            have h15 : v 15 = .bool false := hk 15 (by kernel_rfl)
            have h16 : v 16 = .pointer (some ⟨wr.heap.size, 1, none⟩) := hk 16 (by kernel_rfl)
            have g0 := (Blk.under HBX.out hR).cell 0
            have g1 := (Blk.under HBX.out hR).cell 1
            simp only [List.take_succ_cons, List.take_zero, frameF, Act.put, List.setIfInBounds_toArray, List.set_cons_zero, List.set_cons_succ]
            exact stepF_val (by first | rfl | simp [Region.wanted, yielded, *]) (by go_simp <;> omega) ⟨rfl, Below.refl _ _, hR⟩
          · refine ⟨fun _ _ _ _ _ h => h, fun _ _ _ _ h _ => h, fun v n x hn hR hk => ?_⟩
            have h15 : v 15 = .bool false := hk 15 (by kernel_rfl)
            simp only [List.take_succ_cons, List.take_zero, frameF, Act.put, List.setIfInBounds_toArray, List.set_cons_zero, List.set_cons_succ]
            exact stepF_val (by first | rfl | simp [Region.wanted, yielded, *]) (by go_simp <;> omega) ⟨rfl, Below.refl _ _, hR⟩
          · refine ⟨fun _ _ _ _ _ h => h, fun _ _ _ _ h _ => h, fun v n x hn hR hk => ?_⟩
            have h15 : v 15 = .bool false := hk 15 (by kernel_rfl)
            have h18 : v 18 = .slice (some ⟨bb, ob, none⟩) b.length cb := hk 18 (by kernel_rfl)
            simp only [List.take_succ_cons, List.take_zero, frameF, Act.put, List.setIfInBounds_toArray, List.set_cons_zero, List.set_cons_succ]
            exact stepF_val (by first | rfl | simp [Region.wanted, yielded, *]) (by go_simp <;> omega) ⟨rfl, Below.refl _ _, hR⟩
          · refine ⟨fun _ _ _ _ _ h => h, fun _ _ _ _ h _ => h, fun v n x hn hR hk => ?_⟩
            have h15 : v 15 = .bool false := hk 15 (by kernel_rfl)
            have h17 : v 17 = iv (py : Int) := hk 17 (by kernel_rfl)
            have h19 : v 19 = iv (b.length : Int) := hk 19 (by kernel_rfl)
            simp only [List.take_succ_cons, List.take_zero, frameF, Act.put, List.setIfInBounds_toArray, List.set_cons_zero, List.set_cons_succ]
            exact stepF_val (by first | rfl | simp [Region.wanted, yielded, *]) (by go_simp <;> omega) ⟨rfl, Below.refl _ _, hR⟩
          · refine ⟨fun _ _ _ _ _ h => h, fun _ _ _ _ h _ => h, fun v n x hn hR hk => ?_⟩
            have h15 : v 15 = .bool false := hk 15 (by kernel_rfl)
            have h20 : v 20 = .bool false := hk 20 (by kernel_rfl)
            simp only [List.take_succ_cons, List.take_zero, frameF, Act.put, List.setIfInBounds_toArray, List.set_cons_zero, List.set_cons_succ]
            exact stepF_val (by first | rfl | simp [Region.wanted, yielded, *]) (by go_simp <;> omega) ⟨rfl, Below.refl _ _, hR⟩
          · refine ⟨fun _ _ _ _ _ h => h, fun _ _ _ _ h _ => h, fun v n x hn hR hk => ?_⟩
            have h21 : v 21 = .bool false := hk 21 (by kernel_rfl)
            simp only [List.take_succ_cons, List.take_zero, frameF, Act.put, List.setIfInBounds_toArray, List.set_cons_zero, List.set_cons_succ]
            exact stepF_val (by first | rfl | simp [Region.wanted, yielded, *]) (by go_simp <;> omega) ⟨rfl, Below.refl _ _, hR⟩
          · refine ⟨fun _ _ _ _ _ h => h, fun _ _ _ _ h _ => h, fun v n x hn hR hk => ?_⟩
            have h22 : v 22 = .bool false := hk 22 (by kernel_rfl)
            simp only [List.take_succ_cons, List.take_zero, frameF, Act.put, List.setIfInBounds_toArray, List.set_cons_zero, List.set_cons_succ]
            exact stepF_val (by first | rfl | simp [Region.wanted, yielded, *]) (by go_simp <;> omega) ⟨rfl, Below.refl _ _, hR⟩
          · refine ⟨fun _ _ _ _ _ h => h, fun _ _ _ _ h _ => h, fun v n x hn hR hk => ?_⟩
            have h22 : v 22 = .bool false := hk 22 (by kernel_rfl)
            simp only [List.take_succ_cons, List.take_zero, frameF, Act.put, List.setIfInBounds_toArray, List.set_cons_zero, List.set_cons_succ]
            exact stepF_val (by first | rfl | simp [Region.wanted, yielded, *]) (by go_simp <;> omega) ⟨rfl, Below.refl _ _, hR⟩
          · refine ⟨fun _ _ _ _ _ h => h, fun _ _ _ _ h _ => h, fun v n x hn hR hk => ?_⟩
            have h22 : v 22 = .bool false := hk 22 (by kernel_rfl)
            have h24 : v 24 = .pointer (some ⟨wr.heap.size, 0, none⟩) := hk 24 (by kernel_rfl)
            have g0 := (Blk.under HBX.out hR).cell 0
            have g1 := (Blk.under HBX.out hR).cell 1
            simp only [List.take_succ_cons, List.take_zero, frameF, Act.put, List.setIfInBounds_toArray, List.set_cons_zero, List.set_cons_succ]
            exact stepF_val (by first | rfl | simp [Region.wanted, yielded, *]) (by go_simp <;> omega) ⟨rfl, Below.refl _ _, hR⟩
          · refine ⟨fun _ _ _ _ _ h => h, fun _ _ _ _ h _ => h, fun v n x hn hR hk => ?_⟩
            have h22 : v 22 = .bool false := hk 22 (by kernel_rfl)
            have h23 : v 23 = .slice (some ⟨ba, oa, none⟩) a.length ca := hk 23 (by kernel_rfl)
            have h25 : v 25 = iv (px : Int) := hk 25 (by kernel_rfl)
            simp only [List.take_succ_cons, List.take_zero, frameF, Act.put, List.setIfInBounds_toArray, List.set_cons_zero, List.set_cons_succ]
            exact stepF_val (by first | rfl | simp [Region.wanted, yielded, *]) (by go_simp <;> omega) ⟨rfl, Below.refl _ _, hR⟩
          · refine ⟨fun _ _ _ _ _ h => h, fun _ _ _ _ h _ => h, fun v n x hn hR hk => ?_⟩
            have h22 : v 22 = .bool false := hk 22 (by kernel_rfl)
            have h26 : v 26 = .pointer (some ⟨ba, oa + px, none⟩) := hk 26 (by kernel_rfl)
            have g2 := HCA.out x hR
            simp only [List.take_succ_cons, List.take_zero, frameF, Act.put, List.setIfInBounds_toArray, List.set_cons_zero, List.set_cons_succ]
            exact stepF_val (by first | rfl | simp [Region.wanted, yielded, *]) (by go_simp <;> omega) ⟨rfl, Below.refl _ _, hR⟩
          · refine ⟨fun _ _ _ _ _ h => h, fun _ _ _ _ h _ => h, fun v n x hn hR hk => ?_⟩
            have h22 : v 22 = .bool false := hk 22 (by kernel_rfl)
            simp only [List.take_succ_cons, List.take_zero, frameF, Act.put, List.setIfInBounds_toArray, List.set_cons_zero, List.set_cons_succ]
            exact stepF_val (by first | rfl | simp [Region.wanted, yielded, *]) (by go_simp <;> omega) ⟨rfl, Below.refl _ _, hR⟩
          · refine ⟨fun _ _ _ _ _ h => h, fun _ _ _ _ h _ => h, fun v n x hn hR hk => ?_⟩
            have h22 : v 22 = .bool false := hk 22 (by kernel_rfl)
            simp only [List.take_succ_cons, List.take_zero, frameF, Act.put, List.setIfInBounds_toArray, List.set_cons_zero, List.set_cons_succ]
            exact stepF_val (by first | rfl | simp [Region.wanted, yielded, *]) (by go_simp <;> omega) ⟨rfl, Below.refl _ _, hR⟩
          · refine ⟨fun _ _ _ _ _ h => h, fun _ _ _ _ h _ => h, fun v n x hn hR hk => ?_⟩
            have h22 : v 22 = .bool false := hk 22 (by kernel_rfl)
            have h29 : v 29 = .pointer (some ⟨wr.heap.size, 1, none⟩) := hk 29 (by kernel_rfl)
            have g0 := (Blk.under HBX.out hR).cell 0
            have g1 := (Blk.under HBX.out hR).cell 1
            simp only [List.take_succ_cons, List.take_zero, frameF, Act.put, List.setIfInBounds_toArray, List.set_cons_zero, List.set_cons_succ]
            exact stepF_val (by first | rfl | simp [Region.wanted, yielded, *]) (by go_simp <;> omega) ⟨rfl, Below.refl _ _, hR⟩
          · refine ⟨fun _ _ _ _ _ h => h, fun _ _ _ _ h _ => h, fun v n x hn hR hk => ?_⟩
            have h22 : v 22 = .bool false := hk 22 (by kernel_rfl)
            have h28 : v 28 = .slice (some ⟨bb, ob, none⟩) b.length cb := hk 28 (by kernel_rfl)
            have h30 : v 30 = iv (py : Int) := hk 30 (by kernel_rfl)
            simp only [List.take_succ_cons, List.take_zero, frameF, Act.put, List.setIfInBounds_toArray, List.set_cons_zero, List.set_cons_succ]
            exact stepF_val (by first | rfl | simp [Region.wanted, yielded, *]) (by go_simp <;> omega) ⟨rfl, Below.refl _ _, hR⟩
          · refine ⟨fun _ _ _ _ _ h => h, fun _ _ _ _ h _ => h, fun v n x hn hR hk => ?_⟩
            have h22 : v 22 = .bool false := hk 22 (by kernel_rfl)
            have h31 : v 31 = .pointer (some ⟨bb, ob + py, none⟩) := hk 31 (by kernel_rfl)
            have g3 := HCB.out x hR
            simp only [List.take_succ_cons, List.take_zero, frameF, Act.put, List.setIfInBounds_toArray, List.set_cons_zero, List.set_cons_succ]
            exact stepF_val (by first | rfl | simp [Region.wanted, yielded, *]) (by go_simp <;> omega) ⟨rfl, Below.refl _ _, hR⟩
          · refine ⟨fun _ _ _ _ _ h => h, fun _ _ _ _ h _ => h, fun v n x hn hR hk => ?_⟩
            have h22 : v 22 = .bool false := hk 22 (by kernel_rfl)
            have h27 : v 27 = .string s1 := hk 27 (by kernel_rfl)
            have h32 : v 32 = .string s1 := hk 32 (by kernel_rfl)
            simp only [List.take_succ_cons, List.take_zero, frameF, Act.put, List.setIfInBounds_toArray, List.set_cons_zero, List.set_cons_succ]
            exact stepF_val (by first | rfl | simp [Region.wanted, yielded, *]) (by go_simp <;> omega) ⟨rfl, Below.refl _ _, hR⟩
          · refine ⟨fun _ _ _ _ _ h => h, fun _ _ _ _ h _ => h, fun v n x hn hR hk => ?_⟩
            have h22 : v 22 = .bool false := hk 22 (by kernel_rfl)
            have h33 : v 33 = .bool false := hk 33 (by kernel_rfl)
            simp only [List.take_succ_cons, List.take_zero, frameF, Act.put, List.setIfInBounds_toArray, List.set_cons_zero, List.set_cons_succ]
            exact stepF_val (by first | rfl | simp [Region.wanted, yielded, *]) (by go_simp <;> omega) ⟨rfl, Below.refl _ _, hR⟩
          · refine ⟨fun _ _ _ _ _ h => h, fun _ _ _ _ h _ => h, fun v n x hn hR hk => ?_⟩
            have h34 : v 34 = .bool false := hk 34 (by kernel_rfl)
            simp only [List.take_succ_cons, List.take_zero, frameF, Act.put, List.setIfInBounds_toArray, List.set_cons_zero, List.set_cons_succ]
            exact stepF_val (by first | rfl | simp [Region.wanted, yielded, *]) (by go_simp <;> omega) ⟨rfl, Below.refl _ _, hR⟩
          · refine ⟨fun _ _ _ _ _ h => h, fun _ _ _ _ h _ => h, fun v n x hn hR hk => ?_⟩
            have h35 : v 35 = .bool false := hk 35 (by kernel_rfl)
            simp only [List.take_succ_cons, List.take_zero, frameF, Act.put, List.setIfInBounds_toArray, List.set_cons_zero, List.set_cons_succ]
            exact stepF_val (by first | rfl | simp [Region.wanted, yielded, *]) (by go_simp <;> omega) ⟨rfl, Below.refl _ _, hR⟩
          · refine ⟨fun _ _ _ _ _ h => h, fun _ _ _ _ h _ => h, fun v n x hn hR hk => ?_⟩
            have h35 : v 35 = .bool false := hk 35 (by kernel_rfl)
            have h36 : v 36 = iv (k : Int) := hk 36 (by kernel_rfl)
            simp only [List.take_succ_cons, List.take_zero, frameF, Act.put, List.setIfInBounds_toArray, List.set_cons_zero, List.set_cons_succ]
            exact stepF_val (by first | rfl | simp [Region.wanted, yielded, *]) (by go_simp <;> omega) ⟨rfl, Below.refl _ _, hR⟩
          · refine ⟨fun _ _ _ _ _ h => h, fun _ _ _ _ h _ => h, fun v n x hn hR hk => ?_⟩
            have h35 : v 35 = .bool false := hk 35 (by kernel_rfl)
            have h37 : v 37 = .bool false := hk 37 (by kernel_rfl)
            simp only [List.take_succ_cons, List.take_zero, frameF, Act.put, List.setIfInBounds_toArray, List.set_cons_zero, List.set_cons_succ]
            exact stepF_val (by first | rfl | simp [Region.wanted, yielded, *]) (by go_simp <;> omega) ⟨rfl, Below.refl _ _, hR⟩
          · refine ⟨fun _ _ _ _ _ h => h, fun _ _ _ _ h _ => h, fun v n x hn hR hk => ?_⟩
            have h38 : v 38 = .bool false := hk 38 (by kernel_rfl)
            simp only [List.take_succ_cons, List.take_zero, frameF, Act.put, List.setIfInBounds_toArray, List.set_cons_zero, List.set_cons_succ]
            exact stepF_un (by first | rfl | (simp [Region.wanted, yielded, *]; done) | (simp [Region.wanted, yielded, undef, *]; done)) ⟨rfl, Below.refl _ _, hR⟩
          · refine ⟨fun _ _ _ _ _ h => h, fun _ _ _ _ h _ => h, fun v n x hn hR hk => ?_⟩
            have h38 : v 38 = .bool false := hk 38 (by kernel_rfl)
            simp only [List.take_succ_cons, List.take_zero, frameF, Act.put, List.setIfInBounds_toArray, List.set_cons_zero, List.set_cons_succ]
            exact stepF_un (by first | rfl | (simp [Region.wanted, yielded, *]; done) | (simp [Region.wanted, yielded, undef, *]; done)) ⟨rfl, Below.refl _ _, hR⟩
          · refine ⟨fun _ _ _ _ _ h => h, fun _ _ _ _ h _ => h, fun v n x hn hR hk => ?_⟩
            have h38 : v 38 = .bool false := hk 38 (by kernel_rfl)
            simp only [List.take_succ_cons, List.take_zero, frameF, Act.put, List.setIfInBounds_toArray, List.set_cons_zero, List.set_cons_succ]
            exact stepF_un (by first | rfl | (simp [Region.wanted, yielded, *]; done) | (simp [Region.wanted, yielded, undef, *]; done)) ⟨rfl, Below.refl _ _, hR⟩
          · refine ⟨fun _ _ _ _ _ h => h, fun _ _ _ _ h _ => h, fun v n x hn hR hk => ?_⟩
            have h38 : v 38 = .bool false := hk 38 (by kernel_rfl)
            simp only [List.take_succ_cons, List.take_zero, frameF, Act.put, List.setIfInBounds_toArray, List.set_cons_zero, List.set_cons_succ]
            exact stepF_un (by first | rfl | (simp [Region.wanted, yielded, *]; done) | (simp [Region.wanted, yielded, undef, *]; done)) ⟨rfl, Below.refl _ _, hR⟩
          · refine ⟨fun _ _ _ _ _ h => h, fun _ _ _ _ h _ => h, fun v n x hn hR hk => ?_⟩
            have h38 : v 38 = .bool false := hk 38 (by kernel_rfl)
            simp only [List.take_succ_cons, List.take_zero, frameF, Act.put, List.setIfInBounds_toArray, List.set_cons_zero, List.set_cons_succ]
            exact stepF_un (by first | rfl | (simp [Region.wanted, yielded, *]; done) | (simp [Region.wanted, yielded, undef, *]; done)) ⟨rfl, Below.refl _ _, hR⟩
          · refine ⟨fun _ _ _ _ _ h => h, fun _ _ _ _ h _ => h, fun v n x hn hR hk => ?_⟩
            have h38 : v 38 = .bool false := hk 38 (by kernel_rfl)
            simp only [List.take_succ_cons, List.take_zero, frameF, Act.put, List.setIfInBounds_toArray, List.set_cons_zero, List.set_cons_succ]
            exact stepF_un (by first | rfl | (simp [Region.wanted, yielded, *]; done) | (simp [Region.wanted, yielded, undef, *]; done)) ⟨rfl, Below.refl _ _, hR⟩
          · refine ⟨fun _ _ _ _ _ h => h, fun _ _ _ _ h _ => h, fun v n x hn hR hk => ?_⟩
            have h38 : v 38 = .bool false := hk 38 (by kernel_rfl)
            simp only [List.take_succ_cons, List.take_zero, frameF, Act.put, List.setIfInBounds_toArray, List.set_cons_zero, List.set_cons_succ]
            exact stepF_un (by first | rfl | (simp [Region.wanted, yielded, *]; done) | (simp [Region.wanted, yielded, undef, *]; done)) ⟨rfl, Below.refl _ _, hR⟩
          · refine ⟨fun _ _ _ _ _ h => h, fun _ _ _ _ h _ => h, fun v n x hn hR hk => ?_⟩
            have h38 : v 38 = .bool false := hk 38 (by kernel_rfl)
            simp only [List.take_succ_cons, List.take_zero, frameF, Act.put, List.setIfInBounds_toArray, List.set_cons_zero, List.set_cons_succ]
            exact stepF_un (by first | rfl | (simp [Region.wanted, yielded, *]; done) | (simp [Region.wanted, yielded, undef, *]; done)) ⟨rfl, Below.refl _ _, hR⟩
          · refine ⟨fun _ _ _ _ _ h => h, fun _ _ _ _ h _ => h, fun v n x hn hR hk => ?_⟩
            have h38 : v 38 = .bool false := hk 38 (by kernel_rfl)
            simp only [List.take_succ_cons, List.take_zero, frameF, Act.put, List.setIfInBounds_toArray, List.set_cons_zero, List.set_cons_succ]
            exact stepF_un (by first | rfl | (simp [Region.wanted, yielded, *]; done) | (simp [Region.wanted, yielded, undef, *]; done)) ⟨rfl, Below.refl _ _, hR⟩
          · refine ⟨fun _ _ _ _ _ h => h, fun _ _ _ _ h _ => h, fun v n x hn hR hk => ?_⟩
            have h38 : v 38 = .bool false := hk 38 (by kernel_rfl)
            simp only [List.take_succ_cons, List.take_zero, frameF, Act.put, List.setIfInBounds_toArray, List.set_cons_zero, List.set_cons_succ]
            exact stepF_un (by first | rfl | (simp [Region.wanted, yielded, *]; done) | (simp [Region.wanted, yielded, undef, *]; done)) ⟨rfl, Below.refl _ _, hR⟩
          · refine ⟨fun _ _ _ _ _ h => h, fun _ _ _ _ h _ => h, fun v n x hn hR hk => ?_⟩
            have h48 : v 48 = undef := hk 48 (by kernel_rfl)
            simp only [List.take_succ_cons, List.take_zero, frameF, Act.put, List.setIfInBounds_toArray, List.set_cons_zero, List.set_cons_succ]
            exact stepF_un (by first | rfl | (simp [Region.wanted, yielded, *]; done) | (simp [Region.wanted, yielded, undef, *]; done)) ⟨rfl, Below.refl _ _, hR⟩
          · refine ⟨fun _ _ _ _ _ h => h, fun _ _ _ _ h _ => h, fun v n x hn hR hk => ?_⟩
            have h48 : v 48 = undef := hk 48 (by kernel_rfl)
            simp only [List.take_succ_cons, List.take_zero, frameF, Act.put, List.setIfInBounds_toArray, List.set_cons_zero, List.set_cons_succ]
            exact stepF_un (by first | rfl | (simp [Region.wanted, yielded, *]; done) | (simp [Region.wanted, yielded, undef, *]; done)) ⟨rfl, Below.refl _ _, hR⟩
          · refine ⟨fun _ _ _ _ _ h => h, fun _ _ _ _ h _ => h, fun v n x hn hR hk => ?_⟩
            have h48 : v 48 = undef := hk 48 (by kernel_rfl)
            simp only [List.take_succ_cons, List.take_zero, frameF, Act.put, List.setIfInBounds_toArray, List.set_cons_zero, List.set_cons_succ]
            exact stepF_un (by first | rfl | (simp [Region.wanted, yielded, *]; done) | (simp [Region.wanted, yielded, undef, *]; done)) ⟨rfl, Below.refl _ _, hR⟩
          · refine ⟨fun _ _ _ _ _ h => h, fun _ _ _ _ h _ => h, fun v n x hn hR hk => ?_⟩
            have h48 : v 48 = undef := hk 48 (by kernel_rfl)
            simp only [List.take_succ_cons, List.take_zero, frameF, Act.put, List.setIfInBounds_toArray, List.set_cons_zero, List.set_cons_succ]
            exact stepF_un (by first | rfl | (simp [Region.wanted, yielded, *]; done) | (simp [Region.wanted, yielded, undef, *]; done)) ⟨rfl, Below.refl _ _, hR⟩
          · refine ⟨fun _ _ _ _ _ h => h, fun _ _ _ _ h _ => h, fun v n x hn hR hk => ?_⟩
            have h48 : v 48 = undef := hk 48 (by kernel_rfl)
            simp only [List.take_succ_cons, List.take_zero, frameF, Act.put, List.setIfInBounds_toArray, List.set_cons_zero, List.set_cons_succ]
            exact stepF_un (by first | rfl | (simp [Region.wanted, yielded, *]; done) | (simp [Region.wanted, yielded, undef, *]; done)) ⟨rfl, Below.refl _ _, hR⟩
          · refine ⟨fun _ _ _ _ _ h => h, fun _ _ _ _ h _ => h, fun v n x hn hR hk => ?_⟩
            have h48 : v 48 = undef := hk 48 (by kernel_rfl)
            simp only [List.take_succ_cons, List.take_zero, frameF, Act.put, List.setIfInBounds_toArray, List.set_cons_zero, List.set_cons_succ]
            exact stepF_un (by first | rfl | (simp [Region.wanted, yielded, *]; done) | (simp [Region.wanted, yielded, undef, *]; done)) ⟨rfl, Below.refl _ _, hR⟩
          · refine ⟨fun _ _ _ _ _ h => h, fun _ _ _ _ h _ => h, fun v n x hn hR hk => ?_⟩
            have h48 : v 48 = undef := hk 48 (by kernel_rfl)
            simp only [List.take_succ_cons, List.take_zero, frameF, Act.put, List.setIfInBounds_toArray, List.set_cons_zero, List.set_cons_succ]
            exact stepF_un (by first | rfl | (simp [Region.wanted, yielded, *]; done) | (simp [Region.wanted, yielded, undef, *]; done)) ⟨rfl, Below.refl _ _, hR⟩
          · refine ⟨fun _ _ _ _ _ h => h, fun _ _ _ _ h _ => h, fun v n x hn hR hk => ?_⟩
            have h48 : v 48 = undef := hk 48 (by kernel_rfl)
            simp only [List.take_succ_cons, List.take_zero, frameF, Act.put, List.setIfInBounds_toArray, List.set_cons_zero, List.set_cons_succ]
            exact stepF_un (by first | rfl | (simp [Region.wanted, yielded, *]; done) | (simp [Region.wanted, yielded, undef, *]; done)) ⟨rfl, Below.refl _ _, hR⟩
          · refine ⟨fun _ _ _ _ _ h => h, fun _ _ _ _ h _ => h, fun v n x hn hR hk => ?_⟩
            have h48 : v 48 = undef := hk 48 (by kernel_rfl)
            simp only [List.take_succ_cons, List.take_zero, frameF, Act.put, List.setIfInBounds_toArray, List.set_cons_zero, List.set_cons_succ]
            exact stepF_un (by first | rfl | (simp [Region.wanted, yielded, *]; done) | (simp [Region.wanted, yielded, undef, *]; done)) ⟨rfl, Below.refl _ _, hR⟩
          · refine ⟨fun _ _ _ _ _ h => h, fun _ _ _ _ h _ => h, fun v n x hn hR hk => ?_⟩
            have h38 : v 38 = .bool false := hk 38 (by kernel_rfl)
            simp only [List.take_succ_cons, List.take_zero, frameF, Act.put, List.setIfInBounds_toArray, List.set_cons_zero, List.set_cons_succ]
            exact stepF_un (by first | rfl | (simp [Region.wanted, yielded, *]; done) | (simp [Region.wanted, yielded, undef, *]; done)) ⟨rfl, Below.refl _ _, hR⟩
          · refine ⟨fun _ _ _ _ _ h => h, fun _ _ _ _ h _ => h, fun v n x hn hR hk => ?_⟩
            have h35 : v 35 = .bool false := hk 35 (by kernel_rfl)
            have h38 : v 38 = .bool false := hk 38 (by kernel_rfl)
            simp only [List.take_succ_cons, List.take_zero, frameF, Act.put, List.setIfInBounds_toArray, List.set_cons_zero, List.set_cons_succ]
            exact stepF_val (by first | rfl | simp [Region.wanted, yielded, *]) (by go_simp <;> omega) ⟨rfl, Below.refl _ _, hR⟩
          · refine ⟨fun _ _ _ _ _ h => h, fun _ _ _ _ h _ => h, fun v n x hn hR hk => ?_⟩
            have h35 : v 35 = .bool false := hk 35 (by kernel_rfl)
            have h59 : v 59 = .bool false := hk 59 (by kernel_rfl)
            simp only [List.take_succ_cons, List.take_zero, frameF, Act.put, List.setIfInBounds_toArray, List.set_cons_zero, List.set_cons_succ]
            exact stepF_val (by first | rfl | simp [Region.wanted, yielded, *]) (by go_simp <;> omega) ⟨rfl, Below.refl _ _, hR⟩
        · intro v n x hn hR hall
          have h60 : v 60 = .bool false := hall 60 (by decide)
          clear hall hn
          simp only [List.drop_succ_cons, List.drop_zero, List.drop_nil, List.take_succ_cons, List.take_zero, frameF, Act.put, List.setIfInBounds_toArray, List.set_cons_zero, List.set_cons_succ, Nat.zero_add, Nat.reduceAdd, h60]
          have hbz := hbr.trans ((hbM.mono hbr.size).trans (hR.mono (Nat.le_trans hbr.size hbM.size)))
          go_wp2_with fail
          go_roundw
          case rel => exact ⟨k + 1, by omega, by go_num, hbz⟩
          case measure => simp [intOf]; omega
      · obtain ⟨q, hq⟩ : ∃ q, k = q + 1 := ⟨k - 1, by omega⟩
        have q7 : (0 : Int) < (k : Int) := by omega
        obtain ⟨b0', off', y, hA1', hb0', hy, hd0, hd1⟩ := Sl.atPr (hsl.below hbr) (show q < l.length by omega)
        injection hA1' with hA1'
        injection hA1' with e1 e2 _
        subst e1; subst e2
        obtain ⟨n1, n2⟩ := File.pairs_next HP.out hy (by rw [← hq]; exact hx)
        obtain ⟨rx, ry⟩ := y
        simp only at n1 n2 hd0 hd1
        have HCP : Hid (∀ x, Below wM.heap.size wM x → x.cell? ⟨bl, ol + q * 2, none⟩ = some (iv (rx : Int)) ∧ x.cell? ⟨bl, ol + q * 2 + 1, none⟩ = some (iv (ry : Int))) := Lib.hid fun x h => ⟨((hbM.next h (Nat.le_refl _)).cell (p := ⟨bl, ol + q * 2, none⟩) hbl).trans hd0, ((hbM.next h (Nat.le_refl _)).cell (p := ⟨bl, ol + q * 2 + 1, none⟩) hbl).trans hd1⟩
        have q8 : ¬ (px : Int) ≤ (rx : Int) := by omega
        have q9 : ¬ (py : Int) ≤ (ry : Int) := by omega
        have eq2 : (k : Int) - 1 = (q : Int) := by omega
        have eq3 : IntKind.i64.wrap (q : Int) = (q : Int) := IntWalk.i64_in _ (by omega)
        have eq1 : IntKind.i64.wrap ((k : Int) - 1) = (q : Int) := by rw [eq2]; exact eq3
        have hql : q < l.length := by omega
        have hqli : (q : Int) < (l.length : Int) := by omega
        have HKQ := Lib.hid hq
        clear hkz hc0 hc1 hca hcb hs0 hs1 h3 hx hd0 hd1 hy hq
        refine wp_free_lit (by kernel_rfl) 61 (by kernel_rfl) (by kernel_rfl) (by decide) (fun _ x => Below wM.heap.size wM x) (fun x x' => Below x.heap.size x x')
          [fun _ u _ => u = .pointer (some ⟨wr.heap.size, 0, none⟩),
           fun _ u _ => u = iv (px : Int),
           fun _ u _ => u = .bool false,
           fun _ u _ => u = .bool false,
           fun _ u _ => u = .pointer (some ⟨wr.heap.size, 0, none⟩),
           fun _ u _ => u = iv (px : Int),
           fun _ u _ => u = .slice (some ⟨ba, oa, none⟩) a.length ca,
           fun _ u _ => u = iv (a.length : Int),
           fun _ u _ => u = .bool false,
           fun _ u _ => u = .bool false,
           fun _ u _ => u = .bool false,
           fun _ u _ => u = .pointer (some ⟨wr.heap.size, 1, none⟩),
           fun _ u _ => u = iv (py : Int),
           fun _ u _ => u = .bool false,
           fun _ u _ => u = .bool false,
           fun _ u _ => u = .bool false,
           fun _ u _ => u = .pointer (some ⟨wr.heap.size, 1, none⟩),
           fun _ u _ => u = iv (py : Int),
           fun _ u _ => u = .slice (some ⟨bb, ob, none⟩) b.length cb,
           fun _ u _ => u = iv (b.length : Int),
           fun _ u _ => u = .bool false,
           fun _ u _ => u = .bool false,
           fun _ u _ => u = .bool false,
           fun _ u _ => u = .slice (some ⟨ba, oa, none⟩) a.length ca,
           fun _ u _ => u = .pointer (some ⟨wr.heap.size, 0, none⟩),
           fun _ u _ => u = iv (px : Int),
           fun _ u _ => u = .pointer (some ⟨ba, oa + px, none⟩),
           fun _ u _ => u = .string s1,
           fun _ u _ => u = .slice (some ⟨bb, ob, none⟩) b.length cb,
           fun _ u _ => u = .pointer (some ⟨wr.heap.size, 1, none⟩),
           fun _ u _ => u = iv (py : Int),
           fun _ u _ => u = .pointer (some ⟨bb, ob + py, none⟩),
           fun _ u _ => u = .string s1,
           fun _ u _ => u = .bool false,
           fun _ u _ => u = .bool false,
           fun _ u _ => u = .bool false,
           fun _ u _ => u = iv (k : Int),
           fun _ u _ => u = .bool true,
           fun _ u _ => u = .bool true,
           fun _ u _ => u = .pointer (some ⟨wr.heap.size, 0, none⟩),
           fun _ u _ => u = iv (px : Int),
           fun _ u _ => u = .slice (some ⟨bl, ol, none⟩) l.length cl,
           fun _ u _ => u = iv (k : Int),
           fun _ u _ => u = iv (q : Int),
           fun _ u _ => u = .pointer (some ⟨bl, ol + q * 2, none⟩),
           fun _ u _ => u = .pointer (some ⟨bl, ol + q * 2, none⟩),
           fun _ u _ => u = iv (rx : Int),
           fun _ u _ => u = .bool false,
           fun _ u _ => u = .bool false,
           fun _ u _ => u = .pointer (some ⟨wr.heap.size, 1, none⟩),
           fun _ u _ => u = iv (py : Int),
           fun _ u _ => u = .slice (some ⟨bl, ol, none⟩) l.length cl,
           fun _ u _ => u = iv (k : Int),
           fun _ u _ => u = iv (q : Int),
           fun _ u _ => u = .pointer (some ⟨bl, ol + q * 2, none⟩),
           fun _ u _ => u = .pointer (some ⟨bl, ol + q * 2 + 1, none⟩),
           fun _ u _ => u = iv (ry : Int),
           fun _ u _ => u = .bool false,
           fun _ u _ => u = .bool false,
           fun _ u _ => u = .bool false,
           fun _ u _ => u = .bool false]
          (Below.refl _ wM).drew ?_ ?_
        · simp only [List.take_succ_cons, List.take_zero, HopL]
          refine ⟨?_, ?_, ?_, ?_, ?_, ?_, ?_, ?_, ?_, ?_, ?_, ?_, ?_, ?_, ?_, ?_, ?_, ?_, ?_, ?_, ?_, ?_, ?_, ?_, ?_, ?_, ?_, ?_, ?_, ?_, ?_, ?_, ?_, ?_, ?_, ?_, ?_, ?_, ?_, ?_, ?_, ?_, ?_, ?_, ?_, ?_, ?_, ?_, ?_, ?_, ?_, ?_, ?_, ?_, ?_, ?_, ?_, ?_, ?_, ?_, ?_, trivial⟩
          · refine ⟨fun _ _ _ _ _ h => h, fun _ _ _ _ h _ => h, fun v n x hn hR hk => ?_⟩
            simp only [List.take_succ_cons, List.take_zero, frameF, Act.put, List.setIfInBounds_toArray, List.set_cons_zero, List.set_cons_succ]
            exact stepF_val (by first | rfl | simp [Region.wanted, yielded, *]) (by go_simp <;> omega) ⟨rfl, Below.refl _ _, hR⟩
          · refine ⟨fun _ _ _ _ _ h => h, fun _ _ _ _ h _ => h, fun v n x hn hR hk => ?_⟩
            have h0 : v 0 = .pointer (some ⟨wr.heap.size, 0, none⟩) := hk 0 (by kernel_rfl)
            have g0 := (Blk.under HBX.out hR).cell 0
            have g1 := (Blk.under HBX.out hR).cell 1
            simp only [List.take_succ_cons, List.take_zero, frameF, Act.put, List.setIfInBounds_toArray, List.set_cons_zero, List.set_cons_succ]
            exact stepF_val (by first | rfl | simp [Region.wanted, yielded, *]) (by go_simp <;> omega) ⟨rfl, Below.refl _ _, hR⟩
          · refine ⟨fun _ _ _ _ _ h => h, fun _ _ _ _ h _ => h, fun v n x hn hR hk => ?_⟩
            have h1 : v 1 = iv (px : Int) := hk 1 (by kernel_rfl)
            simp only [List.take_succ_cons, List.take_zero, frameF, Act.put, List.setIfInBounds_toArray, List.set_cons_zero, List.set_cons_succ]
            exact stepF_val (by first | rfl | simp [Region.wanted, yielded, *]) (by go_simp <;> omega) ⟨rfl, Below.refl _ _, hR⟩
          · refine ⟨fun _ _ _ _ _ h => h, fun _ _ _ _ h _ => h, fun v n x hn hR hk => ?_⟩
            have h2 : v 2 = .bool false := hk 2 (by kernel_rfl)
            simp only [List.take_succ_cons, List.take_zero, frameF, Act.put, List.setIfInBounds_toArray, List.set_cons_zero, List.set_cons_succ]
            exact stepF_val (by first | rfl | simp [Region.wanted, yielded, *]) (by go_simp <;> omega) ⟨rfl, Below.refl _ _, hR⟩
          · refine ⟨fun _ _ _ _ _ h => h, fun _ _ _ _ h _ => h, fun v n x hn hR hk => ?_⟩
            have h3 : v 3 = .bool false := hk 3 (by kernel_rfl)
            simp only [List.take_succ_cons, List.take_zero, frameF, Act.put, List.setIfInBounds_toArray, List.set_cons_zero, List.set_cons_succ]
            exact stepF_val (by first | rfl | simp [Region.wanted, yielded, *]) (by go_simp <;> omega) ⟨rfl, Below.refl _ _, hR⟩
          · refine ⟨fun _ _ _ _ _ h => h, fun _ _ _ _ h _ => h, fun v n x hn hR hk => ?_⟩
            have h3 : v 3 = .bool false := hk 3 (by kernel_rfl)
            have h4 : v 4 = .pointer (some ⟨wr.heap.size, 0, none⟩) := hk 4 (by kernel_rfl)
            have g0 := (Blk.under HBX.out hR).cell 0
            have g1 := (Blk.under HBX.out hR).cell 1
            simp only [List.take_succ_cons, List.take_zero, frameF, Act.put, List.setIfInBounds_toArray, List.set_cons_zero, List.set_cons_succ]
            exact stepF_val (by first | rfl | simp [Region.wanted, yielded, *]) (by go_simp <;> omega) ⟨rfl, Below.refl _ _, hR⟩
          · refine ⟨fun _ _ _ _ _ h => h, fun _ _ _ _ h _ => h, fun v n x hn hR hk => ?_⟩
            have h3 : v 3 = .bool false := hk 3 (by kernel_rfl)
            simp only [List.take_succ_cons, List.take_zero, frameF, Act.put, List.setIfInBounds_toArray, List.set_cons_zero, List.set_cons_succ]
            exact stepF_val (by first | rfl | simp [Region.wanted, yielded, *]) (by go_simp <;> omega) ⟨rfl, Below.refl _ _, hR⟩
          · refine ⟨fun _ _ _ _ _ h => h, fun _ _ _ _ h _ => h, fun v n x hn hR hk => ?_⟩
            have h3 : v 3 = .bool false := hk 3 (by kernel_rfl)
            have h6 : v 6 = .slice (some ⟨ba, oa, none⟩) a.length ca := hk 6 (by kernel_rfl)
            simp only [List.take_succ_cons, List.take_zero, frameF, Act.put, List.setIfInBounds_toArray, List.set_cons_zero, List.set_cons_succ]
            exact stepF_val (by first | rfl | simp [Region.wanted, yielded, *]) (by go_simp <;> omega) ⟨rfl, Below.refl _ _, hR⟩
          · refine ⟨fun _ _ _ _ _ h => h, fun _ _ _ _ h _ => h, fun v n x hn hR hk => ?_⟩
            have h3 : v 3 = .bool false := hk 3 (by kernel_rfl)
            have h5 : v 5 = iv (px : Int) := hk 5 (by kernel_rfl)
            have h7 : v 7 = iv (a.length : Int) := hk 7 (by kernel_rfl)
            simp only [List.take_succ_cons, List.take_zero, frameF, Act.put, List.setIfInBounds_toArray, List.set_cons_zero, List.set_cons_succ]
            exact stepF_val (by first | rfl | simp [Region.wanted, yielded, *]) (by go_simp <;> omega) ⟨rfl, Below.refl _ _, hR⟩
          · refine ⟨fun _ _ _ _ _ h => h, fun _ _ _ _ h _ => h, fun v n x hn hR hk => ?_⟩
            have h3 : v 3 = .bool false := hk 3 (by kernel_rfl)
            have h8 : v 8 = .bool false := hk 8 (by kernel_rfl)
            simp only [List.take_succ_cons, List.take_zero, frameF, Act.put, List.setIfInBounds_toArray, List.set_cons_zero, List.set_cons_succ]
            exact stepF_val (by first | rfl | simp [Region.wanted, yielded, *]) (by go_simp <;> omega) ⟨rfl, Below.refl _ _, hR⟩
          · refine ⟨fun _ _ _ _ _ h => h, fun _ _ _ _ h _ => h, fun v n x hn hR hk => ?_⟩
            have h9 : v 9 = .bool false := hk 9 (by kernel_rfl)
            simp only [List.take_succ_cons, List.take_zero, frameF, Act.put, List.setIfInBounds_toArray, List.set_cons_zero, List.set_cons_succ]
            exact stepF_val (by first | rfl | simp [Region.wanted, yielded, *]) (by go_simp <;> omega) ⟨rfl, Below.refl _ _, hR⟩
          · refine ⟨fun _ _ _ _ _ h => h, fun _ _ _ _ h _ => h, fun v n x hn hR hk => ?_⟩
            have h10 : v 10 = .bool false := hk 10 (by kernel_rfl)
            simp only [List.take_succ_cons, List.take_zero, frameF, Act.put, List.setIfInBounds_toArray, List.set_cons_zero, List.set_cons_succ]
            exact stepF_val (by first | rfl | simp [Region.wanted, yielded, *]) (by go_simp <;> omega) ⟨rfl, Below.refl _ _, hR⟩
          · refine ⟨fun _ _ _ _ _ h => h, fun _ _ _ _ h _ => h, fun v n x hn hR hk => ?_⟩
            have h10 : v 10 = .bool false := hk 10 (by kernel_rfl)
            have h11 : v 11 = .pointer (some ⟨wr.heap.size, 1, none⟩) := hk 11 (by kernel_rfl)
            have g0 := (Blk.under HBX.out hR).cell 0
            have g1 := (Blk.under HBX.out hR).cell 1
            simp only [List.take_succ_cons, List.take_zero, frameF, Act.put, List.setIfInBounds_toArray, List.set_cons_zero, List.set_cons_succ]
            exact stepF_val (by first | rfl | simp [Region.wanted, yielded, *]) (by go_simp <;> omega) ⟨rfl, Below.refl _ _, hR⟩
          · refine ⟨fun _ _ _ _ _ h => h, fun _ _ _ _ h _ => h, fun v n x hn hR hk => ?_⟩
            have h10 : v 10 = .bool false := hk 10 (by kernel_rfl)
            have h12 : v 12 = iv (py : Int) := hk 12 (by kernel_rfl)
            simp only [List.take_succ_cons, List.take_zero, frameF, Act.put, List.setIfInBounds_toArray, List.set_cons_zero, List.set_cons_succ]
            exact stepF_val (by first | rfl | simp [Region.wanted, yielded, *]) (by go_simp <;> omega) ⟨rfl, Below.refl _ _, hR⟩
          · refine ⟨fun _ _ _ _ _ h => h, fun _ _ _ _ h _ => h, fun v n x hn hR hk => ?_⟩
            have h10 : v 10 = .bool false := hk 10 (by kernel_rfl)
            have h13 : v 13 = .bool false := hk 13 (by kernel_rfl)
            simp only [List.take_succ_cons, List.take_zero, frameF, Act.put, List.setIfInBounds_toArray, List.set_cons_zero, List.set_cons_succ]
            exact stepF_val (by first | rfl | simp [Region.wanted, yielded, *]) (by go_simp <;> omega) ⟨rfl, Below.refl _ _, hR⟩
          · refine ⟨fun _ _ _ _ _ h => h, fun _ _ _ _ h _ => h, fun v n x hn hR hk => ?_⟩
            have h14 : v 14 = .bool false := hk 14 (by kernel_rfl)
            simp only [List.take_succ_cons, List.take_zero, frameF, Act.put, List.setIfInBounds_toArray, List.set_cons_zero, List.set_cons_succ]
            exact stepF_val (by first | rfl | simp [Region.wanted, yielded, *]) (by go_simp <;> omega) ⟨rfl, Below.refl _ _, hR⟩
          · refine ⟨fun _ _ _ _ _ h => h, fun _ _ _ _ h _ => h, fun v n x hn hR hk => ?_⟩
            have h15 : v 15 = .bool false := hk 15 (by kernel_rfl)
            simp only [List.take_succ_cons, List.take_zero, frameF, Act.put, List.setIfInBounds_toArray, List.set_cons_zero, List.set_cons_succ]
            exact stepF_val (by first | rfl | simp [Region.wanted, yielded, *]) (by go_simp <;> omega) ⟨rfl, Below.refl _ _, hR⟩
          · refine ⟨fun _ _ _ _ _ h => h, fun _ _ _ _ h _ => h, fun v n x hn hR hk => ?_⟩
            have h15 : v 15 = .bool false := hk 15 (by kernel_rfl)
            have h16 : v 16 = .pointer (some ⟨wr.heap.size, 1, none⟩) := hk 16 (by kernel_rfl)
            have g0 := (Blk.under HBX.out hR).cell 0
            have g1 := (Blk.under HBX.out hR).cell 1
            simp only [List.take_succ_cons, List.take_zero, frameF, Act.put, List.setIfInBounds_toArray, List.set_cons_zero, List.set_cons_succ]
            exact stepF_val (by first | rfl | simp [Region.wanted, yielded, *]) (by go_simp <;> omega) ⟨rfl, Below.refl _ _, hR⟩
          · refine ⟨fun _ _ _ _ _ h => h, fun _ _ _ _ h _ => h, fun v n x hn hR hk => ?_⟩
            have h15 : v 15 = .bool false := hk 15 (by kernel_rfl)
            simp only [List.take_succ_cons, List.take_zero, frameF, Act.put, List.setIfInBounds_toArray, List.set_cons_zero, List.set_cons_succ]
            exact stepF_val (by first | rfl | simp [Region.wanted, yielded, *]) (by go_simp <;> omega) ⟨rfl, Below.refl _ _, hR⟩
          · refine ⟨fun _ _ _ _ _ h => h, fun _ _ _ _ h _ => h, fun v n x hn hR hk => ?_⟩
            have h15 : v 15 = .bool false := hk 15 (by kernel_rfl)
            have h18 : v 18 = .slice (some ⟨bb, ob, none⟩) b.length cb := hk 18 (by kernel_rfl)
            simp only [List.take_succ_cons, List.take_zero, frameF, Act.put, List.setIfInBounds_toArray, List.set_cons_zero, List.set_cons_succ]
            exact stepF_val (by first | rfl | simp [Region.wanted, yielded, *]) (by go_simp <;> omega) ⟨rfl, Below.refl _ _, hR⟩
          · refine ⟨fun _ _ _ _ _ h => h, fun _ _ _ _ h _ => h, fun v n x hn hR hk => ?_⟩
            have h15 : v 15 = .bool false := hk 15 (by kernel_rfl)
            have h17 : v 17 = iv (py : Int) := hk 17 (by kernel_rfl)
            have h19 : v 19 = iv (b.length : Int) := hk 19 (by kernel_rfl)
            simp only [List.take_succ_cons, List.take_zero, frameF, Act.put, List.setIfInBounds_toArray, List.set_cons_zero, List.set_cons_succ]
            exact stepF_val (by first | rfl | simp [Region.wanted, yielded, *]) (by go_simp <;> omega) ⟨rfl, Below.refl _ _, hR⟩
          · refine ⟨fun _ _ _ _ _ h => h, fun _ _ _ _ h _ => h, fun v n x hn hR hk => ?_⟩
            have h15 : v 15 = .bool false := hk 15 (by kernel_rfl)
            have h20 : v 20 = .bool false := hk 20 (by kernel_rfl)
            simp only [List.take_succ_cons, List.take_zero, frameF, Act.put, List.setIfInBounds_toArray, List.set_cons_zero, List.set_cons_succ]
            exact stepF_val (by first | rfl | simp [Region.wanted, yielded, *]) (by go_simp <;> omega) ⟨rfl, Below.refl _ _, hR⟩
          · refine ⟨fun _ _ _ _ _ h => h, fun _ _ _ _ h _ => h, fun v n x hn hR hk => ?_⟩
            have h21 : v 21 = .bool false := hk 21 (by kernel_rfl)
            simp only [List.take_succ_cons, List.take_zero, frameF, Act.put, List.setIfInBounds_toArray, List.set_cons_zero, List.set_cons_succ]
            exact stepF_val (by first | rfl | simp [Region.wanted, yielded, *]) (by go_simp <;> omega) ⟨rfl, Below.refl _ _, hR⟩
          · refine ⟨fun _ _ _ _ _ h => h, fun _ _ _ _ h _ => h, fun v n x hn hR hk => ?_⟩
            have h22 : v 22 = .bool false := hk 22 (by kernel_rfl)
            simp only [List.take_succ_cons, List.take_zero, frameF, Act.put, List.setIfInBounds_toArray, List.set_cons_zero, List.set_cons_succ]
            exact stepF_val (by first | rfl | simp [Region.wanted, yielded, *]) (by go_simp <;> omega) ⟨rfl, Below.refl _ _, hR⟩
          · refine ⟨fun _ _ _ _ _ h => h, fun _ _ _ _ h _ => h, fun v n x hn hR hk => ?_⟩
            have h22 : v 22 = .bool false := hk 22 (by kernel_rfl)
            simp only [List.take_succ_cons, List.take_zero, frameF, Act.put, List.setIfInBounds_toArray, List.set_cons_zero, List.set_cons_succ]
            exact stepF_val (by first | rfl | simp [Region.wanted, yielded, *]) (by go_simp <;> omega) ⟨rfl, Below.refl _ _, hR⟩
          · refine ⟨fun _ _ _ _ _ h => h, fun _ _ _ _ h _ => h, fun v n x hn hR hk => ?_⟩
            have h22 : v 22 = .bool false := hk 22 (by kernel_rfl)
            have h24 : v 24 = .pointer (some ⟨wr.heap.size, 0, none⟩) := hk 24 (by kernel_rfl)
            have g0 := (Blk.under HBX.out hR).cell 0
            have g1 := (Blk.under HBX.out hR).cell 1
            simp only [List.take_succ_cons, List.take_zero, frameF, Act.put, List.setIfInBounds_toArray, List.set_cons_zero, List.set_cons_succ]
            exact stepF_val (by first | rfl | simp [Region.wanted, yielded, *]) (by go_simp <;> omega) ⟨rfl, Below.refl _ _, hR⟩
          · refine ⟨fun _ _ _ _ _ h => h, fun _ _ _ _ h _ => h, fun v n x hn hR hk => ?_⟩
            have h22 : v 22 = .bool false := hk 22 (by kernel_rfl)
            have h23 : v 23 = .slice (some ⟨ba, oa, none⟩) a.length ca := hk 23 (by kernel_rfl)
            have h25 : v 25 = iv (px : Int) := hk 25 (by kernel_rfl)
            simp only [List.take_succ_cons, List.take_zero, frameF, Act.put, List.setIfInBounds_toArray, List.set_cons_zero, List.set_cons_succ]
            exact stepF_val (by first | rfl | simp [Region.wanted, yielded, *]) (by go_simp <;> omega) ⟨rfl, Below.refl _ _, hR⟩
          · refine ⟨fun _ _ _ _ _ h => h, fun _ _ _ _ h _ => h, fun v n x hn hR hk => ?_⟩
            have h22 : v 22 = .bool false := hk 22 (by kernel_rfl)
            have h26 : v 26 = .pointer (some ⟨ba, oa + px, none⟩) := hk 26 (by kernel_rfl)
            have g2 := HCA.out x hR
            simp only [List.take_succ_cons, List.take_zero, frameF, Act.put, List.setIfInBounds_toArray, List.set_cons_zero, List.set_cons_succ]
            exact stepF_val (by first | rfl | simp [Region.wanted, yielded, *]) (by go_simp <;> omega) ⟨rfl, Below.refl _ _, hR⟩
          · refine ⟨fun _ _ _ _ _ h => h, fun _ _ _ _ h _ => h, fun v n x hn hR hk => ?_⟩
            have h22 : v 22 = .bool false := hk 22 (by kernel_rfl)
            simp only [List.take_succ_cons, List.take_zero, frameF, Act.put, List.setIfInBounds_toArray, List.set_cons_zero, List.set_cons_succ]
            exact stepF_val (by first | rfl | simp [Region.wanted, yielded, *]) (by go_simp <;> omega) ⟨rfl, Below.refl _ _, hR⟩
          · refine ⟨fun _ _ _ _ _ h => h, fun _ _ _ _ h _ => h, fun v n x hn hR hk => ?_⟩
            have h22 : v 22 = .bool false := hk 22 (by kernel_rfl)
            simp only [List.take_succ_cons, List.take_zero, frameF, Act.put, List.setIfInBounds_toArray, List.set_cons_zero, List.set_cons_succ]
            exact stepF_val (by first | rfl | simp [Region.wanted, yielded, *]) (by go_simp <;> omega) ⟨rfl, Below.refl _ _, hR⟩
          · refine ⟨fun _ _ _ _ _ h => h, fun _ _ _ _ h _ => h, fun v n x hn hR hk => ?_⟩
            have h22 : v 22 = .bool false := hk 22 (by kernel_rfl)
            have h29 : v 29 = .pointer (some ⟨wr.heap.size, 1, none⟩) := hk 29 (by kernel_rfl)
            have g0 := (Blk.under HBX.out hR).cell 0
            have g1 := (Blk.under HBX.out hR).cell 1
            simp only [List.take_succ_cons, List.take_zero, frameF, Act.put, List.setIfInBounds_toArray, List.set_cons_zero, List.set_cons_succ]
            exact stepF_val (by first | rfl | simp [Region.wanted, yielded, *]) (by go_simp <;> omega) ⟨rfl, Below.refl _ _, hR⟩
          · refine ⟨fun _ _ _ _ _ h => h, fun _ _ _ _ h _ => h, fun v n x hn hR hk => ?_⟩
            have h22 : v 22 = .bool false := hk 22 (by kernel_rfl)
            have h28 : v 28 = .slice (some ⟨bb, ob, none⟩) b.length cb := hk 28 (by kernel_rfl)
            have h30 : v 30 = iv (py : Int) := hk 30 (by kernel_rfl)
            simp only [List.take_succ_cons, List.take_zero, frameF, Act.put, List.setIfInBounds_toArray, List.set_cons_zero, List.set_cons_succ]
            exact stepF_val (by first | rfl | simp [Region.wanted, yielded, *]) (by go_simp <;> omega) ⟨rfl, Below.refl _ _, hR⟩
          · refine ⟨fun _ _ _ _ _ h => h, fun _ _ _ _ h _ => h, fun v n x hn hR hk => ?_⟩
            have h22 : v 22 = .bool false := hk 22 (by kernel_rfl)
            have h31 : v 31 = .pointer (some ⟨bb, ob + py, none⟩) := hk 31 (by kernel_rfl)
            have g3 := HCB.out x hR
            simp only [List.take_succ_cons, List.take_zero, frameF, Act.put, List.setIfInBounds_toArray, List.set_cons_zero, List.set_cons_succ]
            exact stepF_val (by first | rfl | simp [Region.wanted, yielded, *]) (by go_simp <;> omega) ⟨rfl, Below.refl _ _, hR⟩
          · refine ⟨fun _ _ _ _ _ h => h, fun _ _ _ _ h _ => h, fun v n x hn hR hk => ?_⟩
            have h22 : v 22 = .bool false := hk 22 (by kernel_rfl)
            have h27 : v 27 = .string s1 := hk 27 (by kernel_rfl)
            have h32 : v 32 = .string s1 := hk 32 (by kernel_rfl)
            simp only [List.take_succ_cons, List.take_zero, frameF, Act.put, List.setIfInBounds_toArray, List.set_cons_zero, List.set_cons_succ]
            exact stepF_val (by first | rfl | simp [Region.wanted, yielded, *]) (by go_simp <;> omega) ⟨rfl, Below.refl _ _, hR⟩
          · refine ⟨fun _ _ _ _ _ h => h, fun _ _ _ _ h _ => h, fun v n x hn hR hk => ?_⟩
            have h22 : v 22 = .bool false := hk 22 (by kernel_rfl)
            have h33 : v 33 = .bool false := hk 33 (by kernel_rfl)
            simp only [List.take_succ_cons, List.take_zero, frameF, Act.put, List.setIfInBounds_toArray, List.set_cons_zero, List.set_cons_succ]
            exact stepF_val (by first | rfl | simp [Region.wanted, yielded, *]) (by go_simp <;> omega) ⟨rfl, Below.refl _ _, hR⟩
          · refine ⟨fun _ _ _ _ _ h => h, fun _ _ _ _ h _ => h, fun v n x hn hR hk => ?_⟩
            have h34 : v 34 = .bool false := hk 34 (by kernel_rfl)
            simp only [List.take_succ_cons, List.take_zero, frameF, Act.put, List.setIfInBounds_toArray, List.set_cons_zero, List.set_cons_succ]
            exact stepF_val (by first | rfl | simp [Region.wanted, yielded, *]) (by go_simp <;> omega) ⟨rfl, Below.refl _ _, hR⟩
          · refine ⟨fun _ _ _ _ _ h => h, fun _ _ _ _ h _ => h, fun v n x hn hR hk => ?_⟩
            have h35 : v 35 = .bool false := hk 35 (by kernel_rfl)
            simp only [List.take_succ_cons, List.take_zero, frameF, Act.put, List.setIfInBounds_toArray, List.set_cons_zero, List.set_cons_succ]
            exact stepF_val (by first | rfl | simp [Region.wanted, yielded, *]) (by go_simp <;> omega) ⟨rfl, Below.refl _ _, hR⟩
          · refine ⟨fun _ _ _ _ _ h => h, fun _ _ _ _ h _ => h, fun v n x hn hR hk => ?_⟩
            have h35 : v 35 = .bool false := hk 35 (by kernel_rfl)
            have h36 : v 36 = iv (k : Int) := hk 36 (by kernel_rfl)
            simp only [List.take_succ_cons, List.take_zero, frameF, Act.put, List.setIfInBounds_toArray, List.set_cons_zero, List.set_cons_succ]
            exact stepF_val (by first | rfl | simp [Region.wanted, yielded, *]) (by go_simp <;> omega) ⟨rfl, Below.refl _ _, hR⟩
          · refine ⟨fun _ _ _ _ _ h => h, fun _ _ _ _ h _ => h, fun v n x hn hR hk => ?_⟩
            have h35 : v 35 = .bool false := hk 35 (by kernel_rfl)
            have h37 : v 37 = .bool true := hk 37 (by kernel_rfl)
            simp only [List.take_succ_cons, List.take_zero, frameF, Act.put, List.setIfInBounds_toArray, List.set_cons_zero, List.set_cons_succ]
            exact stepF_val (by first | rfl | simp [Region.wanted, yielded, *]) (by go_simp <;> omega) ⟨rfl, Below.refl _ _, hR⟩
          · refine ⟨fun _ _ _ _ _ h => h, fun _ _ _ _ h _ => h, fun v n x hn hR hk => ?_⟩
            have h38 : v 38 = .bool true := hk 38 (by kernel_rfl)
            simp only [List.take_succ_cons, List.take_zero, frameF, Act.put, List.setIfInBounds_toArray, List.set_cons_zero, List.set_cons_succ]
            exact stepF_val (by first | rfl | simp [Region.wanted, yielded, *]) (by go_simp <;> omega) ⟨rfl, Below.refl _ _, hR⟩
          · refine ⟨fun _ _ _ _ _ h => h, fun _ _ _ _ h _ => h, fun v n x hn hR hk => ?_⟩
            have h38 : v 38 = .bool true := hk 38 (by kernel_rfl)
            have h39 : v 39 = .pointer (some ⟨wr.heap.size, 0, none⟩) := hk 39 (by kernel_rfl)
            have g0 := (Blk.under HBX.out hR).cell 0
            have g1 := (Blk.under HBX.out hR).cell 1
            simp only [List.take_succ_cons, List.take_zero, frameF, Act.put, List.setIfInBounds_toArray, List.set_cons_zero, List.set_cons_succ]
            exact stepF_val (by first | rfl | simp [Region.wanted, yielded, *]) (by go_simp <;> omega) ⟨rfl, Below.refl _ _, hR⟩
          · refine ⟨fun _ _ _ _ _ h => h, fun _ _ _ _ h _ => h, fun v n x hn hR hk => ?_⟩
            have h38 : v 38 = .bool true := hk 38 (by kernel_rfl)
            simp only [List.take_succ_cons, List.take_zero, frameF, Act.put, List.setIfInBounds_toArray, List.set_cons_zero, List.set_cons_succ]
            exact stepF_val (by first | rfl | simp [Region.wanted, yielded, *]) (by go_simp <;> omega) ⟨rfl, Below.refl _ _, hR⟩
          · refine ⟨fun _ _ _ _ _ h => h, fun _ _ _ _ h _ => h, fun v n x hn hR hk => ?_⟩
            have h38 : v 38 = .bool true := hk 38 (by kernel_rfl)
            simp only [List.take_succ_cons, List.take_zero, frameF, Act.put, List.setIfInBounds_toArray, List.set_cons_zero, List.set_cons_succ]
            exact stepF_val (by first | rfl | simp [Region.wanted, yielded, *]) (by go_simp <;> omega) ⟨rfl, Below.refl _ _, hR⟩
          · refine ⟨fun _ _ _ _ _ h => h, fun _ _ _ _ h _ => h, fun v n x hn hR hk => ?_⟩
            have h38 : v 38 = .bool true := hk 38 (by kernel_rfl)
            have h42 : v 42 = iv (k : Int) := hk 42 (by kernel_rfl)
            simp only [List.take_succ_cons, List.take_zero, frameF, Act.put, List.setIfInBounds_toArray, List.set_cons_zero, List.set_cons_succ]
            exact stepF_val (by first | rfl | simp [Region.wanted, yielded, *]) (by go_simp <;> omega) ⟨rfl, Below.refl _ _, hR⟩
          · refine ⟨fun _ _ _ _ _ h => h, fun _ _ _ _ h _ => h, fun v n x hn hR hk => ?_⟩
            have h38 : v 38 = .bool true := hk 38 (by kernel_rfl)
            have h41 : v 41 = .slice (some ⟨bl, ol, none⟩) l.length cl := hk 41 (by kernel_rfl)
            have h43 : v 43 = iv (q : Int) := hk 43 (by kernel_rfl)
            simp only [List.take_succ_cons, List.take_zero, frameF, Act.put, List.setIfInBounds_toArray, List.set_cons_zero, List.set_cons_succ]
            exact stepF_val (by first | rfl | simp [Region.wanted, yielded, *]) (by go_simp <;> omega) ⟨rfl, Below.refl _ _, hR⟩
          · refine ⟨fun _ _ _ _ _ h => h, fun _ _ _ _ h _ => h, fun v n x hn hR hk => ?_⟩
            have h38 : v 38 = .bool true := hk 38 (by kernel_rfl)
            have h44 : v 44 = .pointer (some ⟨bl, ol + q * 2, none⟩) := hk 44 (by kernel_rfl)
            simp only [List.take_succ_cons, List.take_zero, frameF, Act.put, List.setIfInBounds_toArray, List.set_cons_zero, List.set_cons_succ]
            exact stepF_val (by first | rfl | simp [Region.wanted, yielded, *]) (by go_simp <;> omega) ⟨rfl, Below.refl _ _, hR⟩
          · refine ⟨fun _ _ _ _ _ h => h, fun _ _ _ _ h _ => h, fun v n x hn hR hk => ?_⟩
            have h38 : v 38 = .bool true := hk 38 (by kernel_rfl)
            have h45 : v 45 = .pointer (some ⟨bl, ol + q * 2, none⟩) := hk 45 (by kernel_rfl)
            obtain ⟨g4, g5⟩ := HCP.out x hR
            simp only [List.take_succ_cons, List.take_zero, frameF, Act.put, List.setIfInBounds_toArray, List.set_cons_zero, List.set_cons_succ]
            exact stepF_val (by first | rfl | simp [Region.wanted, yielded, *]) (by go_simp <;> omega) ⟨rfl, Below.refl _ _, hR⟩
          · refine ⟨fun _ _ _ _ _ h => h, fun _ _ _ _ h _ => h, fun v n x hn hR hk => ?_⟩
            have h38 : v 38 = .bool true := hk 38 (by kernel_rfl)
            have h40 : v 40 = iv (px : Int) := hk 40 (by kernel_rfl)
            have h46 : v 46 = iv (rx : Int) := hk 46 (by kernel_rfl)
            simp only [List.take_succ_cons, List.take_zero, frameF, Act.put, List.setIfInBounds_toArray, List.set_cons_zero, List.set_cons_succ]
            exact stepF_val (by first | rfl | simp [Region.wanted, yielded, *]) (by go_simp <;> omega) ⟨rfl, Below.refl _ _, hR⟩
          · refine ⟨fun _ _ _ _ _ h => h, fun _ _ _ _ h _ => h, fun v n x hn hR hk => ?_⟩
            have h38 : v 38 = .bool true := hk 38 (by kernel_rfl)
            have h47 : v 47 = .bool false := hk 47 (by kernel_rfl)
            simp only [List.take_succ_cons, List.take_zero, frameF, Act.put, List.setIfInBounds_toArray, List.set_cons_zero, List.set_cons_succ]
            exact stepF_val (by first | rfl | simp [Region.wanted, yielded, *]) (by go_simp <;> omega) ⟨rfl, Below.refl _ _, hR⟩
          · refine ⟨fun _ _ _ _ _ h => h, fun _ _ _ _ h _ => h, fun v n x hn hR hk => ?_⟩
            have h48 : v 48 = .bool false := hk 48 (by kernel_rfl)
            simp only [List.take_succ_cons, List.take_zero, frameF, Act.put, List.setIfInBounds_toArray, List.set_cons_zero, List.set_cons_succ]
            exact stepF_val (by first | rfl | simp [Region.wanted, yielded, *]) (by go_simp <;> omega) ⟨rfl, Below.refl _ _, hR⟩
          · refine ⟨fun _ _ _ _ _ h => h, fun _ _ _ _ h _ => h, fun v n x hn hR hk => ?_⟩
            have h48 : v 48 = .bool false := hk 48 (by kernel_rfl)
            have h49 : v 49 = .pointer (some ⟨wr.heap.size, 1, none⟩) := hk 49 (by kernel_rfl)
            have g0 := (Blk.under HBX.out hR).cell 0
            have g1 := (Blk.under HBX.out hR).cell 1
            simp only [List.take_succ_cons, List.take_zero, frameF, Act.put, List.setIfInBounds_toArray, List.set_cons_zero, List.set_cons_succ]
            exact stepF_val (by first | rfl | simp [Region.wanted, yielded, *]) (by go_simp <;> omega) ⟨rfl, Below.refl _ _, hR⟩
          · refine ⟨fun _ _ _ _ _ h => h, fun _ _ _ _ h _ => h, fun v n x hn hR hk => ?_⟩
            have h48 : v 48 = .bool false := hk 48 (by kernel_rfl)
            simp only [List.take_succ_cons, List.take_zero, frameF, Act.put, List.setIfInBounds_toArray, List.set_cons_zero, List.set_cons_succ]
            exact stepF_val (by first | rfl | simp [Region.wanted, yielded, *]) (by go_simp <;> omega) ⟨rfl, Below.refl _ _, hR⟩
          · refine ⟨fun _ _ _ _ _ h => h, fun _ _ _ _ h _ => h, fun v n x hn hR hk => ?_⟩
            have h48 : v 48 = .bool false := hk 48 (by kernel_rfl)
            simp only [List.take_succ_cons, List.take_zero, frameF, Act.put, List.setIfInBounds_toArray, List.set_cons_zero, List.set_cons_succ]
            exact stepF_val (by first | rfl | simp [Region.wanted, yielded, *]) (by go_simp <;> omega) ⟨rfl, Below.refl _ _, hR⟩
          · refine ⟨fun _ _ _ _ _ h => h, fun _ _ _ _ h _ => h, fun v n x hn hR hk => ?_⟩
            have h48 : v 48 = .bool false := hk 48 (by kernel_rfl)
            have h52 : v 52 = iv (k : Int) := hk 52 (by kernel_rfl)
            simp only [List.take_succ_cons, List.take_zero, frameF, Act.put, List.setIfInBounds_toArray, List.set_cons_zero, List.set_cons_succ]
            exact stepF_val (by first | rfl | simp [Region.wanted, yielded, *]) (by go_simp <;> omega) ⟨rfl, Below.refl _ _, hR⟩
          · refine ⟨fun _ _ _ _ _ h => h, fun _ _ _ _ h _ => h, fun v n x hn hR hk => ?_⟩
            have h48 : v 48 = .bool false := hk 48 (by kernel_rfl)
            have h51 : v 51 = .slice (some ⟨bl, ol, none⟩) l.length cl := hk 51 (by kernel_rfl)
            have h53 : v 53 = iv (q : Int) := hk 53 (by kernel_rfl)
            simp only [List.take_succ_cons, List.take_zero, frameF, Act.put, List.setIfInBounds_toArray, List.set_cons_zero, List.set_cons_succ]
            exact stepF_val (by first | rfl | simp [Region.wanted, yielded, *]) (by go_simp <;> omega) ⟨rfl, Below.refl _ _, hR⟩
          · refine ⟨fun _ _ _ _ _ h => h, fun _ _ _ _ h _ => h, fun v n x hn hR hk => ?_⟩
            have h48 : v 48 = .bool false := hk 48 (by kernel_rfl)
            have h54 : v 54 = .pointer (some ⟨bl, ol + q * 2, none⟩) := hk 54 (by kernel_rfl)
            simp only [List.take_succ_cons, List.take_zero, frameF, Act.put, List.setIfInBounds_toArray, List.set_cons_zero, List.set_cons_succ]
            exact stepF_val (by first | rfl | simp [Region.wanted, yielded, *]) (by go_simp <;> omega) ⟨rfl, Below.refl _ _, hR⟩
          · refine ⟨fun _ _ _ _ _ h => h, fun _ _ _ _ h _ => h, fun v n x hn hR hk => ?_⟩
            have h48 : v 48 = .bool false := hk 48 (by kernel_rfl)
            have h55 : v 55 = .pointer (some ⟨bl, ol + q * 2 + 1, none⟩) := hk 55 (by kernel_rfl)
            obtain ⟨g4, g5⟩ := HCP.out x hR
            simp only [List.take_succ_cons, List.take_zero, frameF, Act.put, List.setIfInBounds_toArray, List.set_cons_zero, List.set_cons_succ]
            exact stepF_val (by first | rfl | simp [Region.wanted, yielded, *]) (by go_simp <;> omega) ⟨rfl, Below.refl _ _, hR⟩
          · refine ⟨fun _ _ _ _ _ h => h, fun _ _ _ _ h _ => h, fun v n x hn hR hk => ?_⟩
            have h48 : v 48 = .bool false := hk 48 (by kernel_rfl)
            have h50 : v 50 = iv (py : Int) := hk 50 (by kernel_rfl)
            have h56 : v 56 = iv (ry : Int) := hk 56 (by kernel_rfl)
            simp only [List.take_succ_cons, List.take_zero, frameF, Act.put, List.setIfInBounds_toArray, List.set_cons_zero, List.set_cons_succ]
            exact stepF_val (by first | rfl | simp [Region.wanted, yielded, *]) (by go_simp <;> omega) ⟨rfl, Below.refl _ _, hR⟩
          · refine ⟨fun _ _ _ _ _ h => h, fun _ _ _ _ h _ => h, fun v n x hn hR hk => ?_⟩
            have h38 : v 38 = .bool true := hk 38 (by kernel_rfl)
            have h48 : v 48 = .bool false := hk 48 (by kernel_rfl)
            have h57 : v 57 = .bool false := hk 57 (by kernel_rfl)
            simp only [List.take_succ_cons, List.take_zero, frameF, Act.put, List.setIfInBounds_toArray, List.set_cons_zero, List.set_cons_succ]
            exact stepF_val (by first | rfl | simp [Region.wanted, yielded, *]) (by go_simp <;> omega) ⟨rfl, Below.refl _ _, hR⟩
          · refine ⟨fun _ _ _ _ _ h => h, fun _ _ _ _ h _ => h, fun v n x hn hR hk => ?_⟩
            have h35 : v 35 = .bool false := hk 35 (by kernel_rfl)
            have h38 : v 38 = .bool true := hk 38 (by kernel_rfl)
            have h58 : v 58 = .bool false := hk 58 (by kernel_rfl)
            simp only [List.take_succ_cons, List.take_zero, frameF, Act.put, List.setIfInBounds_toArray, List.set_cons_zero, List.set_cons_succ]
            exact stepF_val (by first | rfl | simp [Region.wanted, yielded, *]) (by go_simp <;> omega) ⟨rfl, Below.refl _ _, hR⟩
          · refine ⟨fun _ _ _ _ _ h => h, fun _ _ _ _ h _ => h, fun v n x hn hR hk => ?_⟩
            have h35 : v 35 = .bool false := hk 35 (by kernel_rfl)
            have h59 : v 59 = .bool false := hk 59 (by kernel_rfl)
            simp only [List.take_succ_cons, List.take_zero, frameF, Act.put, List.setIfInBounds_toArray, List.set_cons_zero, List.set_cons_succ]
            exact stepF_val (by first | rfl | simp [Region.wanted, yielded, *]) (by go_simp <;> omega) ⟨rfl, Below.refl _ _, hR⟩
        · intro v n x hn hR hall
          have h60 : v 60 = .bool false := hall 60 (by decide)
          clear hall hn
          simp only [List.drop_succ_cons, List.drop_zero, List.drop_nil, List.take_succ_cons, List.take_zero, frameF, Act.put, List.setIfInBounds_toArray, List.set_cons_zero, List.set_cons_succ, Nat.zero_add, Nat.reduceAdd, h60]
          have hbz := hbr.trans ((hbM.mono hbr.size).trans (hR.mono (Nat.le_trans hbr.size hbM.size)))
          go_wp2_with fail
          go_roundw
          case rel => exact ⟨k + 1, by omega, by go_num, hbz⟩
          case measure => simp [intOf]; omega
    · have hki : ¬ (k : Int) < (l.length : Int) := by omega
      go_wp2_with fail
      go_ret
      exact ⟨rfl, hbr⟩
end Fl
end Go.Proofs.YtekkhnjepcebkaaGreatDoor
-- What FileShortest asks: pairs that are tried, changes that keep them, levels that rise. Plain laws.
namespace Go.Proofs.YtekkhnjepcebkaaGreatDoor
namespace File
theorem pairs_more {α : Type} [DecidableEq α] {a b : List α} {i j : Nat} (hi : i < a.length) (hj : j < b.length) (h : a[i] = b[j]) : ∀ (l : List (Nat × Nat)) (i0 j0 : Nat), Pairs a b i0 j0 l → (∀ p ∈ l, p.1 < i ∧ p.2 < j) → i0 ≤ i → j0 ≤ j → Pairs a b i0 j0 (l ++ [(i, j)])
  | [], _, _, _, _, h1, h2 => ⟨h1, h2, ⟨hi, hj, h⟩, trivial⟩
  | p :: r, _, _, ⟨h1, h2, h3, h4⟩, hl, _, _ => by
    have hp := hl p (by simp)
    exact ⟨h1, h2, h3, pairs_more hi hj h r _ _ h4 (fun q hq => hl q (List.mem_cons_of_mem _ hq)) (by omega) (by omega)⟩
/-- How two numbers, pairs, lists of pairs compare. -/
def cmpN (x y : Nat) : Int := if x < y then -1 else if y < x then 1 else 0
def cmpP (p q : Nat × Nat) : Int := if cmpN p.1 q.1 ≠ 0 then cmpN p.1 q.1 else cmpN p.2 q.2
def cmpL : List (Nat × Nat) → List (Nat × Nat) → Int
  | [], [] => 0
  | [], _ :: _ => -1
  | _ :: _, [] => 1
  | p :: r, q :: s => if cmpP p q ≠ 0 then cmpP p q else cmpL r s
theorem cmp_le : ∀ {l m : List (Nat × Nat)}, lexLe l m → m.length = l.length → ¬ cmpL m l < 0
  | [], [], _, _ => by simp [cmpL]
  | [], _ :: _, _, h => by simp at h
  | _ :: _, [], _, h => by simp at h
  | p :: r, q :: s, h, hl => by
    unfold lexLe at h
    unfold cmpL cmpP cmpN
    rcases h with h | ⟨h1, h | ⟨h2, h3⟩⟩
    · rw [if_neg (by omega : ¬ q.1 < p.1), if_pos h]; simp
    · rw [if_neg (by omega : ¬ q.1 < p.1), if_neg (by omega : ¬ p.1 < q.1), if_neg (by omega : ¬ q.2 < p.2), if_pos h]; simp
    · have := cmp_le h3 (by simpa using hl)
      rw [if_neg (by omega : ¬ q.1 < p.1), if_neg (by omega : ¬ p.1 < q.1), if_neg (by omega : ¬ q.2 < p.2), if_neg (by omega : ¬ p.2 < q.2)]
      simpa using this
theorem rowP_max {ok : Nat → Nat → Int → Bool} {i : Nat} : ∀ (l : List Int) (j : Nat) (m M : Int), rowP ok i j m l = some M → m ≤ M ∧ ∀ n ∈ l, n ≤ M
  | [], _, m, M, h => by
    injection h with h
    exact ⟨by omega, fun _ h => by cases h⟩
  | n :: r, j, m, M, h => by
    unfold rowP at h
    split at h
    · obtain ⟨h1, h2⟩ := rowP_max r (j + 1) _ _ h
      refine ⟨by omega, fun x hx => ?_⟩
      rcases List.mem_cons.1 hx with rfl | hx
      · omega
      · exact h2 x hx
    · cases h
theorem levelsP_max {ok : Nat → Nat → Int → Bool} : ∀ (l : List (List Int)) (i : Nat) (m M : Int), levelsP ok i m l = (M, 0) → m ≤ M ∧ ∀ row ∈ l, ∀ n ∈ row, n ≤ M
  | [], _, m, M, h => by
    injection h with h _
    exact ⟨by omega, fun _ h => by cases h⟩
  | row :: r, i, m, M, h => by
    unfold levelsP at h
    split at h
    · rename_i m' hm
      obtain ⟨a1, a2⟩ := rowP_max row 0 m m' hm
      obtain ⟨h1, h2⟩ := levelsP_max r (i + 1) _ _ h
      refine ⟨by omega, fun x hx n hn => ?_⟩
      rcases List.mem_cons.1 hx with rfl | hx
      · have := a2 n hn; omega
      · exact h2 x hx n hn
    · injection h with _ h
      cases h
theorem rise_pairs {a b : List ByteArray} {xs : List (List Int)} (hl : xs.length = a.length) (hr : ∀ row ∈ xs, row.length = b.length) (h0 : ∀ row ∈ xs, ∀ n ∈ row, 0 ≤ n) (hok : ∀ p row, xs[p]? = some row → ∀ k n, row[k]? = some n → laterOk a b xs p k n = true) {M : Int} (hM : ∀ row ∈ xs, ∀ n ∈ row, n ≤ M) :
    ∀ (l : List (Nat × Nat)) (i j : Nat) (v : Int), Pairs a b i j l → 0 ≤ v → (∀ p, l.head? = some p → v < (xs.getD p.1 []).getD p.2 0) → v ≤ M → v + l.length ≤ M
  | [], _, _, v, _, _, _, hv => by simpa using hv
  | p :: r, i, j, v, ⟨h1, h2, ⟨h3, h4, h5⟩, h6⟩, hv0, hh, hv => by
    have hp : p.1 < xs.length := by omega
    have hrow := hr _ (List.getElem_mem hp)
    have hpj : p.2 < (xs[p.1]).length := by omega
    have e1 : xs.getD p.1 [] = xs[p.1] := by simp [List.getD_eq_getElem?_getD, List.getElem?_eq_getElem hp]
    have e2 : (xs[p.1]).getD p.2 0 = (xs[p.1])[p.2] := by simp [List.getD_eq_getElem?_getD, List.getElem?_eq_getElem hpj]
    have hv1 := hh p rfl
    rw [e1, e2] at hv1
    have hn := hM _ (List.getElem_mem hp) _ (List.getElem_mem hpj)
    have hL := later_iff.1 (hok p.1 _ (List.getElem?_eq_getElem hp) p.2 _ (List.getElem?_eq_getElem hpj))
    have ih := rise_pairs hl hr h0 hok hM r (p.1 + 1) (p.2 + 1) (xs[p.1])[p.2] h6 (by omega) (fun q hq => by
      cases r with
      | nil => simp at hq
      | cons q' r' =>
        simp at hq
        subst hq
        obtain ⟨g1, g2, ⟨g3, g4, g5⟩, _⟩ := h6
        exact hL.2 q'.1 q'.2 (by omega) g3 (by omega) g4 (by omega) (by rw [List.getElem?_eq_getElem g3, List.getElem?_eq_getElem g4, g5])) hn
    simp only [List.length_cons]
    omega
end File
namespace Fl
theorem bound_tried {a b : List ByteArray} (h : errOf a b = 0) {xs : List (List Int)} (hl : xs.length = a.length) (hr : ∀ row ∈ xs, row.length = b.length) (hin : ∀ row ∈ xs, ∀ n ∈ row, 0 ≤ n ∧ n ≤ 24) :
    (∃ m, boundOf a b xs = (m, 0) ∧ (File.lcs a b : Int) ≤ m) ∨ boundOf a b xs = (0, 8) := by
  rw [← ref_bound h]
  unfold File.refBound
  rw [if_pos ⟨hl, List.all_eq_true.2 fun row hm => by simpa using hr row hm⟩, if_pos (List.all_eq_true.2 fun row hm => List.all_eq_true.2 fun n hn => by
    have := hin row hm n hn
    unfold File.inr
    rw [decide_eq_true this.1, decide_eq_true this.2]; rfl)]
  have h0 : ∀ row ∈ xs, ∀ n ∈ row, 0 ≤ n := fun row hm n hn => (hin row hm n hn).1
  by_cases hok : ∀ p row, xs[p]? = some row → ∀ k n, row[k]? = some n → File.laterOk a b xs p k n = true
  · have hz : ∃ m, File.levelsP (File.laterOk a b xs) 0 0 xs = (m, 0) := by
      have key : ∀ (l : List (List Int)) (i : Nat) (m : Int), (∀ p row, l[p]? = some row → ∀ k n, row[k]? = some n → File.laterOk a b xs (i + p) k n = true) → ∃ M, File.levelsP (File.laterOk a b xs) i m l = (M, 0) := by
        intro l
        induction l with
        | nil => intro i m _; exact ⟨m, rfl⟩
        | cons row r ih =>
          intro i m hk
          have h1 := hk 0 row rfl
          simp only [Nat.add_zero] at h1
          obtain ⟨_, m', hm⟩ := File.rowP_of (ok := File.laterOk a b xs) (ok' := File.laterOk a b xs) (i := i) row 0 m (fun k n hk => by rw [Nat.zero_add]; exact h1 k n hk) (fun k n hk => by rw [Nat.zero_add]; exact h1 k n hk)
          obtain ⟨M, hM⟩ := ih (i + 1) m' fun p row hp k n hk2 => by
            have := hk (p + 1) row (by simpa using hp) k n hk2
            rwa [show i + (p + 1) = i + 1 + p by omega] at this
          exact ⟨M, by unfold File.levelsP; rw [hm]; exact hM⟩
      exact key xs 0 0 fun p row hp k n hk => by rw [Nat.zero_add]; exact hok p row hp k n hk
    obtain ⟨m, hm⟩ := hz
    obtain ⟨h1, h2⟩ := File.levelsP_max xs 0 0 m hm
    refine .inl ⟨m, hm, ?_⟩
    have := File.rise_pairs hl hr h0 hok h2 (File.common a b) 0 0 0 (File.common_pairs a b) (Int.le_refl _) (fun p hp => by
      have hc := File.common_pairs a b
      cases hcm : File.common a b with
      | nil => rw [hcm] at hp; cases hp
      | cons q r =>
        rw [hcm] at hp hc
        simp at hp
        subst hp
        obtain ⟨g1, g2, ⟨g3, g4, g5⟩, _⟩ := hc
        have hq : q.1 < xs.length := by omega
        have hrow := hr _ (List.getElem_mem hq)
        have hqj : q.2 < (xs[q.1]).length := by omega
        have e1 : xs.getD q.1 [] = xs[q.1] := by simp [List.getD_eq_getElem?_getD, List.getElem?_eq_getElem hq]
        have e2 : (xs[q.1]).getD q.2 0 = (xs[q.1])[q.2] := by simp [List.getD_eq_getElem?_getD, List.getElem?_eq_getElem hqj]
        rw [e1, e2]
        have hL := (File.later_iff.1 (hok q.1 _ (List.getElem?_eq_getElem hq) q.2 _ (List.getElem?_eq_getElem hqj))).1
        have hge := h0 _ (List.getElem_mem hq) _ (List.getElem_mem hqj)
        have hne : (xs[q.1])[q.2] ≠ 0 := fun e => (hL.1 e) (by rw [List.getElem?_eq_getElem g3, List.getElem?_eq_getElem g4, g5])
        omega) h1
    rw [File.common_length] at this
    omega
  · refine .inr (File.levelsP_none xs 0 0 ?_)
    apply Classical.byContradiction
    intro hc
    refine hok fun p row hp k n hk => ?_
    cases hq : File.laterOk a b xs p k n with
    | true => rfl
    | false => exact absurd ⟨p, row, k, n, hp, hk, by rw [Nat.zero_add]; exact hq⟩ hc
end Fl
namespace File
/-- The change that keeps just some pairs. -/
def keep (a b : List ByteArray) (own : List (Nat × Nat)) : List (Edit ByteArray) := diffGo a b 0 0 (own ++ [(a.length, b.length)])
theorem keep_by {a b : List ByteArray} {own : List (Nat × Nat)} (hp : Pairs a b 0 0 own) : diffBy a b 0 0 (own ++ [(a.length, b.length)]) = keep a b own := by
  refine diffBy_eq _ 0 0 (fun _ _ _ _ => ⟨Nat.zero_le _, Nat.zero_le _⟩) fun k p q h1 h2 => ?_
  by_cases hk : k + 1 < own.length
  · rw [List.getElem?_append_left (by omega)] at h1
    rw [List.getElem?_append_left hk] at h2
    exact pairs_next hp h1 h2
  · have hk2 : k + 1 = own.length := by
      have := (List.getElem?_eq_some_iff.1 h2).1
      simp at this
      omega
    rw [List.getElem?_append_left (by omega)] at h1
    rw [List.getElem?_append_right (by omega), hk2, Nat.sub_self] at h2
    simp at h2
    subst h2
    obtain ⟨_, _, g3, g4, _⟩ := pairs_at hp h1
    exact ⟨g3, g4⟩
theorem keep_facts {a b : List ByteArray} (ga : Fl.Good a) (gb : Fl.Good b) {own : List (Nat × Nat)} (hp : Pairs a b 0 0 own) : checkChange (keep a b own) = 0 ∧ makeAns a (keep a b own) = (b, 0) ∧ cost (keep a b own) + 2 * own.length = a.length + b.length := by
  have h1 : checkChange (keep a b own) = 0 := ch_zero (ch_go ga gb hp)
  have hf : ∀ x ∈ keep a b own, fitAt a x = true := fit_go own 0 0 hp (Nat.zero_le _) (Nat.zero_le _)
  have hm := make_go own 0 0 hp (Nat.zero_le _) (Nat.zero_le _)
  have hc := cost_go own 0 0 hp (Nat.zero_le _) (Nat.zero_le _)
  refine ⟨h1, ?_, by show cost (diffGo a b 0 0 (own ++ [(a.length, b.length)])) + 2 * own.length = _; simpa using hc⟩
  unfold makeAns
  rw [if_pos (Fl.check_of_good ga), if_pos h1, if_pos (List.all_eq_true.2 hf), show make a (keep a b own) = b by show make a (diffGo a b 0 0 (own ++ [(a.length, b.length)])) = b; simpa using hm, if_neg (by have := gb.many; omega)]
theorem keep_len {a b : List ByteArray} (own : List (Nat × Nat)) : (keep a b own).length ≤ own.length + 1 := by
  have := diffGo_len (a := a) (b := b) (own ++ [(a.length, b.length)]) 0 0
  simpa [keep] using this
end File
namespace Fl
theorem ends_at {a b : List ByteArray} {L : List (Nat × Nat)} (hp : File.Pairs a b 0 0 L) {k : Nat} {p : Nat × Nat} (h : (L ++ [(a.length, b.length)])[k]? = some p) : p.1 ≤ a.length ∧ p.2 ≤ b.length := by
  by_cases hk : k < L.length
  · rw [List.getElem?_append_left hk] at h
    obtain ⟨_, _, g1, g2, _⟩ := File.pairs_at hp h
    omega
  · rw [List.getElem?_append_right (by omega)] at h
    have hk0 : k - L.length = 0 := by
      have := (List.getElem?_eq_some_iff.1 h).1
      simp at this
      omega
    rw [hk0] at h
    simp at h
    subst h
    exact ⟨Nat.le_refl _, Nat.le_refl _⟩
theorem ends_next {a b : List ByteArray} {L : List (Nat × Nat)} (hp : File.Pairs a b 0 0 L) {k : Nat} {p q : Nat × Nat} (h : (L ++ [(a.length, b.length)])[k]? = some p) (h' : (L ++ [(a.length, b.length)])[k + 1]? = some q) : p.1 < q.1 ∧ p.2 < q.2 := by
  by_cases hk : k + 1 < L.length
  · rw [List.getElem?_append_left (by omega)] at h
    rw [List.getElem?_append_left hk] at h'
    exact File.pairs_next hp h h'
  · have hk2 : k + 1 = L.length := by
      have := (List.getElem?_eq_some_iff.1 h').1
      simp at this
      omega
    rw [List.getElem?_append_left (by omega)] at h
    rw [List.getElem?_append_right (by omega), hk2, Nat.sub_self] at h'
    simp at h'
    subst h'
    obtain ⟨_, _, g3, g4, _⟩ := File.pairs_at hp h
    exact ⟨g3, g4⟩
end Fl
end Go.Proofs.YtekkhnjepcebkaaGreatDoor
