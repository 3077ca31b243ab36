/- Texts that are parsed: what has an error, what is printed again (plain laws). No condition. -/
import Derived.Test.YtkhmkpcihphkcaaDoorFlF
set_option linter.unusedVariables false
set_option linter.unusedSimpArgs false
namespace Go.Proofs.YtkhmkpcihphkcaaDoor
namespace File
/-- Two texts are alike from k up to K. -/
def Ag (K k : Nat) (l l' : List UInt8) : Prop := l.take (K - k) = l'.take (K - k)
theorem Ag.nil {K k : Nat} {l' : List UInt8} (h : Ag K k [] l') (hk : k < K) : l' = [] := by
  unfold Ag at h
  obtain ⟨m, hm⟩ : ∃ m, K - k = m + 1 := ⟨K - k - 1, by omega⟩
  rw [hm] at h
  cases l' with
  | nil => rfl
  | cons b r => cases h
theorem Ag.cons {K k : Nat} {b : UInt8} {r l' : List UInt8} (h : Ag K k (b :: r) l') (hk : k < K) : ∃ r', l' = b :: r' ∧ Ag K (k + 1) r r' := by
  unfold Ag at h ⊢
  obtain ⟨m, hm⟩ : ∃ m, K - k = m + 1 := ⟨K - k - 1, by omega⟩
  rw [hm] at h
  rw [show K - (k + 1) = m by omega]
  cases l' with
  | nil => cases h
  | cons c r' =>
    rw [List.take_succ_cons, List.take_succ_cons] at h
    injection h with h1 h2
    exact ⟨r', by rw [h1], h2⟩
theorem Ag.next {K k : Nat} {l l' : List UInt8} (h : Ag K k l l') (hk : k < K) : nextB l' = nextB l := by
  cases l with
  | nil => rw [h.nil hk]
  | cons b r => obtain ⟨r', rfl, _⟩ := h.cons hk; rfl
theorem on_ge (p : UInt8 → Bool) (l : List UInt8) (k : Nat) : k ≤ on p l k := by unfold on; split <;> omega
theorem Ag.take {K k : Nat} {l l' : List UInt8} {p : UInt8 → Bool} (h : Ag K k l l') (hk : on p l k < K) : takes p l' = takes p l ∧ on p l' k = on p l k ∧ Ag K (on p l k) (rest p l) (rest p l') := by
  have h0 := on_ge p l k
  cases l with
  | nil => rw [h.nil (by omega)]; exact ⟨rfl, rfl, rfl⟩
  | cons b r =>
    obtain ⟨r', rfl, h'⟩ := h.cons (by omega)
    by_cases hp : p b = true
    · have e1 : ∀ r, takes p (b :: r) = true := fun _ => hp
      have e2 : ∀ r, on p (b :: r) k = k + 1 := fun _ => if_pos hp
      have e3 : ∀ r, rest p (b :: r) = r := fun _ => if_pos hp
      rw [e1, e1, e2, e2, e3, e3]
      exact ⟨rfl, rfl, h'⟩
    · have e1 : ∀ r, takes p (b :: r) = false := fun _ => by simpa [takes] using hp
      have e2 : ∀ r, on p (b :: r) k = k := fun _ => if_neg hp
      have e3 : ∀ r, rest p (b :: r) = b :: r := fun _ => if_neg hp
      rw [e1, e1, e2, e2, e3, e3]
      exact ⟨rfl, rfl, h⟩
theorem readNum_ge (l : List UInt8) (k : Nat) : k ≤ (readNum l k).2.2.2 := by
  unfold readNum
  split
  · exact Nat.le_refl _
  · rename_i b r
    split
    · dsimp only
      split
      · have h1 := on_ge isDig r (k + 1)
        have h2 := on_ge (· == 58) (rest isDig r) (on isDig r (k + 1))
        show k ≤ on (· == 58) (rest isDig r) (on isDig r (k + 1))
        omega
      · have h2 := on_ge (· == 58) r (k + 1)
        show k ≤ on (· == 58) r (k + 1)
        omega
    · exact Nat.le_refl _
theorem Ag.num {K k : Nat} {l l' : List UInt8} (h : Ag K k l l') (hk : (readNum l k).2.2.2 < K) :
    (readNum l' k).1 = (readNum l k).1 ∧ (readNum l' k).2.1 = (readNum l k).2.1 ∧ (readNum l' k).2.2.2 = (readNum l k).2.2.2 ∧ Ag K (readNum l k).2.2.2 (readNum l k).2.2.1 (readNum l' k).2.2.1 := by
  have h0 := readNum_ge l k
  cases l with
  | nil => rw [h.nil (by omega)]; exact ⟨rfl, rfl, rfl, rfl⟩
  | cons b r =>
    obtain ⟨r', rfl, h'⟩ := h.cons (by omega)
    unfold readNum at hk h0 ⊢
    by_cases hb : isDig b = true
    · simp only [hb, if_true] at hk h0 ⊢
      by_cases hc : 0 < b.toNat - 48 ∧ isDig (nextB r) = true ∧ 10 * (b.toNat - 48) + ((nextB r).toNat - 48) ≤ 40
      · rw [if_pos hc] at hk h0 ⊢
        dsimp only at hk h0 ⊢
        have h1 := on_ge isDig r (k + 1)
        have h2 := on_ge (· == 58) (rest isDig r) (on isDig r (k + 1))
        rw [h'.next (by omega), if_pos hc]
        obtain ⟨a1, a2, a3⟩ := h'.take (p := isDig) (by omega)
        obtain ⟨b1, b2, b3⟩ := a3.take (p := (· == 58)) hk
        dsimp only
        rw [a2]
        exact ⟨rfl, b1, b2, b3⟩
      · rw [if_neg hc] at hk h0 ⊢
        dsimp only at hk h0 ⊢
        have h2 := on_ge (· == 58) r (k + 1)
        rw [h'.next (by omega), if_neg hc]
        obtain ⟨b1, b2, b3⟩ := h'.take (p := (· == 58)) hk
        exact ⟨rfl, b1, b2, b3⟩
    · simp only [if_neg hb]
      exact ⟨trivial, trivial, trivial, h⟩
theorem takeN_ge : ∀ (n : Nat) (l : List UInt8) (k : Nat), k ≤ (takeN n l k).2.2
  | 0, _, _ => Nat.le_refl _
  | n + 1, l, k => by
    unfold takeN
    split
    · exact Nat.le_trans (on_ge _ _ _) (takeN_ge n _ _)
    · exact Nat.le_refl _
theorem Ag.takeN {K : Nat} : ∀ (n : Nat) {l l' : List UInt8} {k : Nat}, Ag K k l l' → (File.takeN n l k).2.2 < K → (File.takeN n l' k).1 = (File.takeN n l k).1 ∧ (File.takeN n l' k).2.2 = (File.takeN n l k).2.2 ∧ Ag K (File.takeN n l k).2.2 (File.takeN n l k).2.1 (File.takeN n l' k).2.1
  | 0, _, _, _, h, _ => ⟨rfl, rfl, h⟩
  | n + 1, l, l', k, h, hk => by
    have h0 := takeN_ge (n + 1) l k
    unfold File.takeN at hk h0 ⊢
    by_cases ht : takes okB l = true
    · rw [if_pos ht] at hk h0 ⊢
      obtain ⟨a1, a2, a3⟩ := h.take (p := okB) (Nat.lt_of_le_of_lt (takeN_ge n _ _) hk)
      rw [a1, if_pos ht, a2]
      exact Ag.takeN n a3 hk
    · rw [if_neg ht] at hk h0 ⊢
      have e : on okB l k = k := by unfold on; rw [if_neg ht]
      obtain ⟨a1, a2, a3⟩ := h.take (p := okB) (by rw [e]; exact hk)
      rw [a1, if_neg ht]
      exact ⟨rfl, rfl, h⟩
theorem runN_ge (s : Bool) (n : Nat) (l : List UInt8) (k : Nat) : k ≤ (runN s n l k).2.2 := by
  unfold runN
  split
  · exact takeN_ge _ _ _
  · exact Nat.le_refl _
theorem readLine_ge (l : List UInt8) (k : Nat) : k ≤ (readLine l k).2.2 := by
  have h1 := readNum_ge l k
  have h2 := runN_ge (readNum l k).2.1 (readNum l k).1 (readNum l k).2.2.1 (readNum l k).2.2.2
  unfold readLine
  dsimp only
  split
  · split
    · exact Nat.le_trans (Nat.le_trans h1 h2) (on_ge _ _ _)
    · exact Nat.le_trans h1 h2
  · exact Nat.le_trans h1 h2
theorem Ag.takeEq {K k n : Nat} {l l' : List UInt8} (h : Ag K k l l') (hn : k + n ≤ K) : l'.take n = l.take n := by
  have := congrArg (List.take n) h
  rw [List.take_take, List.take_take, Nat.min_eq_left (by omega)] at this
  exact this.symm
theorem takeN_pos : ∀ (n : Nat) (l : List UInt8) (k : Nat), (takeN n l k).1 = true → (takeN n l k).2.2 = k + n
  | 0, _, _, _ => rfl
  | n + 1, l, k, h => by
    unfold takeN at h ⊢
    by_cases ht : takes okB l = true
    · rw [if_pos ht] at h ⊢
      rw [takeN_pos n _ _ h]
      unfold on
      rw [if_pos ht]
      omega
    · rw [if_neg ht] at h; cases h
theorem Ag.line {K k : Nat} {l l' : List UInt8} (h : Ag K k l l') (hk : (File.readLine l k).2.2 < K) : (readLine l' k).1 = (readLine l k).1 ∧ (readLine l' k).2.2 = (readLine l k).2.2 ∧ Ag K (readLine l k).2.2 (readLine l k).2.1 (readLine l' k).2.1 := by
  have g1 := readNum_ge l k
  have g2 := runN_ge (readNum l k).2.1 (readNum l k).1 (readNum l k).2.2.1 (readNum l k).2.2.2
  have g3 : (runN (readNum l k).2.1 (readNum l k).1 (readNum l k).2.2.1 (readNum l k).2.2.2).2.2 ≤ (readLine l k).2.2 := by
    unfold readLine
    dsimp only
    split
    · split
      · exact on_ge _ _ _
      · exact Nat.le_refl _
    · exact Nat.le_refl _
  obtain ⟨a1, a2, a3, a4⟩ := h.num (by omega)
  have hR : (runN (readNum l' k).2.1 (readNum l' k).1 (readNum l' k).2.2.1 (readNum l' k).2.2.2).1 = (runN (readNum l k).2.1 (readNum l k).1 (readNum l k).2.2.1 (readNum l k).2.2.2).1
      ∧ (runN (readNum l' k).2.1 (readNum l' k).1 (readNum l' k).2.2.1 (readNum l' k).2.2.2).2.2 = (runN (readNum l k).2.1 (readNum l k).1 (readNum l k).2.2.1 (readNum l k).2.2.2).2.2
      ∧ Ag K (runN (readNum l k).2.1 (readNum l k).1 (readNum l k).2.2.1 (readNum l k).2.2.2).2.2 (runN (readNum l k).2.1 (readNum l k).1 (readNum l k).2.2.1 (readNum l k).2.2.2).2.1 (runN (readNum l' k).2.1 (readNum l' k).1 (readNum l' k).2.2.1 (readNum l' k).2.2.2).2.1 := by
    rw [a1, a2, a3]
    unfold runN at g2 g3 ⊢
    by_cases hs : (readNum l k).2.1 = true
    · rw [if_pos hs] at g2 g3 ⊢
      rw [if_pos hs]
      exact Ag.takeN _ a4 (by omega)
    · rw [if_neg hs] at g2 g3 ⊢
      rw [if_neg hs]
      exact ⟨rfl, rfl, a4⟩
  have hP : (runN (readNum l k).2.1 (readNum l k).1 (readNum l k).2.2.1 (readNum l k).2.2.2).1 = true → (runN (readNum l k).2.1 (readNum l k).1 (readNum l k).2.2.1 (readNum l k).2.2.2).2.2 = (readNum l k).2.2.2 + (readNum l k).1 := by
    unfold runN
    split
    · exact takeN_pos _ _ _
    · intro h; cases h
  have ht : (runN (readNum l k).2.1 (readNum l k).1 (readNum l k).2.2.1 (readNum l k).2.2.2).1 = true → (readNum l' k).2.2.1.take (readNum l' k).1 = (readNum l k).2.2.1.take (readNum l k).1 := fun e => by
    rw [a1]
    exact a4.takeEq (by have := hP e; omega)
  unfold readLine at hk ⊢
  dsimp only at hk ⊢
  clear g2 g3 hP h
  generalize runN (readNum l k).2.1 (readNum l k).1 (readNum l k).2.2.1 (readNum l k).2.2.2 = t at *
  generalize runN (readNum l' k).2.1 (readNum l' k).1 (readNum l' k).2.2.1 (readNum l' k).2.2.2 = t' at *
  obtain ⟨b1, b2, b3⟩ := hR
  by_cases h1 : t.1 = true
  · rw [if_pos h1] at hk ⊢
    rw [b1, if_pos h1]
    by_cases h2 : takes (· == 10) t.2.1 = true
    · rw [if_pos h2] at hk ⊢
      obtain ⟨c1, c2, c3⟩ := b3.take (p := (· == 10)) hk
      rw [c1, if_pos h2, ht h1, b2, c2]
      exact ⟨rfl, rfl, c3⟩
    · rw [if_neg h2] at hk ⊢
      have e : on (· == 10) t.2.1 t.2.2 = t.2.2 := by unfold on; rw [if_neg h2]
      obtain ⟨c1, c2, c3⟩ := b3.take (p := (· == 10)) (by rw [e]; exact hk)
      rw [c1, if_neg h2]
      exact ⟨rfl, b2, b3⟩
  · rw [if_neg h1] at hk ⊢
    rw [b1, if_neg h1]
    exact ⟨rfl, b2, b3⟩
/-- Where reading stands. -/
def posOf : (Int × Nat) ⊕ (List ByteArray × List UInt8 × Nat) → Nat
  | .inl x => x.2
  | .inr x => x.2.2
theorem lines_ge : ∀ (n : Nat) (out : List ByteArray) (l : List UInt8) (k : Nat), k ≤ posOf (lines n out l k)
  | 0, _, _, _ => Nat.le_refl _
  | n + 1, out, l, k => by
    unfold lines
    split
    · exact Nat.le_refl _
    · split
      · exact Nat.le_refl _
      · split
        · exact Nat.le_trans (readLine_ge l k) (lines_ge n _ _ _)
        · exact readLine_ge l k
theorem Ag.lines {K : Nat} : ∀ (n : Nat) (out : List ByteArray) {l l' : List UInt8} {k : Nat}, Ag K k l l' → posOf (File.lines n out l k) < K →
    (∀ x, File.lines n out l k = .inl x → File.lines n out l' k = .inl x) ∧ (∀ o r p, File.lines n out l k = .inr (o, r, p) → ∃ r', File.lines n out l' k = .inr (o, r', p) ∧ Ag K p r r')
  | 0, _, _, _, _, h, _ => ⟨fun _ h => h, fun _ _ _ h => by cases h⟩
  | n + 1, out, l, l', k, h, hk => by
    have h0 := lines_ge (n + 1) out l k
    have hn := h.next (by omega)
    unfold File.lines at hk h0 ⊢
    rw [hn]
    by_cases h1 : nextB l = 61
    · simp only [if_pos h1]
      exact ⟨fun _ h => (by cases h), fun o r p e => by injection e with e; injection e with e1 e2; injection e2 with e2 e3; subst e1; subst e2; subst e3; exact ⟨l', rfl, h⟩⟩
    · simp only [if_neg h1] at hk ⊢
      by_cases h2 : out.length = 24
      · simp only [if_pos h2]
        exact ⟨fun _ h => h, fun _ _ _ h => by cases h⟩
      · simp only [if_neg h2] at hk ⊢
        have hlt : (File.readLine l k).2.2 < K := by
          split at hk
          · exact Nat.lt_of_le_of_lt (lines_ge n _ _ _) hk
          · exact hk
        obtain ⟨a1, a2, a3⟩ := h.line hlt
        rw [a1, a2]
        cases hx : (File.readLine l k).1 with
        | none => exact ⟨fun _ h => h, fun _ _ _ h => by cases h⟩
        | some x =>
          simp only [hx] at hk
          exact Ag.lines n _ a3 hk
theorem matchAll_ge : ∀ (ws l : List UInt8) (k : Nat), k ≤ (matchAll ws l k).2.2
  | [], _, _ => Nat.le_refl _
  | a :: ws, l, k => by
    unfold matchAll
    split
    · exact Nat.le_trans (on_ge _ _ _) (matchAll_ge ws _ _)
    · exact Nat.le_refl _
theorem Ag.matchAll {K : Nat} : ∀ (ws : List UInt8) {l l' : List UInt8} {k : Nat}, Ag K k l l' → (File.matchAll ws l k).2.2 < K → (File.matchAll ws l' k).1 = (File.matchAll ws l k).1 ∧ (File.matchAll ws l' k).2.2 = (File.matchAll ws l k).2.2 ∧ Ag K (File.matchAll ws l k).2.2 (File.matchAll ws l k).2.1 (File.matchAll ws l' k).2.1
  | [], _, _, _, h, _ => ⟨rfl, rfl, h⟩
  | a :: ws, l, l', k, h, hk => by
    unfold File.matchAll at hk ⊢
    by_cases ht : takes (· == a) l = true
    · rw [if_pos ht] at hk ⊢
      obtain ⟨a1, a2, a3⟩ := h.take (p := (· == a)) (Nat.lt_of_le_of_lt (matchAll_ge ws _ _) hk)
      rw [a1, if_pos ht, a2]
      exact Ag.matchAll ws a3 hk
    · rw [if_neg ht] at hk ⊢
      have e : on (· == a) l k = k := by unfold on; rw [if_neg ht]
      obtain ⟨a1, a2, a3⟩ := h.take (p := (· == a)) (by rw [e]; exact hk)
      rw [a1, if_neg ht]
      exact ⟨rfl, rfl, h⟩
/-- An error stands behind what a text has in common with one that is right. -/
theorem parse_prefix {s t : List UInt8} {g : List ByteArray} {i : Nat} (hs : parse s = (g, 0, 0)) (hi : s.take i = t.take i) (ht : (parse t).2.2 ≠ 0) : i ≤ (parse t).2.1 := by
  refine Nat.le_of_not_lt fun hlt => ?_
  have hA : Ag i 0 t s := by unfold Ag; rw [Nat.sub_zero]; exact hi.symm
  unfold parse at hs ht hlt
  cases hL : lines 25 [] t 0 with
  | inl x =>
    rw [hL] at ht hlt
    obtain ⟨a1, _⟩ := hA.lines 25 [] (by rw [hL]; exact hlt)
    rw [a1 x hL] at hs
    have := congrArg (fun p => p.2.2) hs
    exact ht this
  | inr x =>
    obtain ⟨o, r, p⟩ := x
    rw [hL] at ht hlt
    unfold ending at ht hlt
    dsimp only at ht hlt
    by_cases hc : (matchAll (endOf o) (rest (· == 61) r) (on (· == 61) r p)).1 = true ∧ (matchAll (endOf o) (rest (· == 61) r) (on (· == 61) r p)).2.1 = []
    · rw [if_pos hc] at ht; exact ht rfl
    · rw [if_neg hc] at ht hlt
      dsimp only at hlt
      have g1 := on_ge (· == 61) r p
      have g2 := matchAll_ge (endOf o) (rest (· == 61) r) (on (· == 61) r p)
      obtain ⟨_, a2⟩ := hA.lines 25 [] (by rw [hL]; show p < i; omega)
      obtain ⟨r', hL', hB⟩ := a2 o r p hL
      obtain ⟨b1, b2, b3⟩ := hB.take (p := (· == 61)) (by omega)
      obtain ⟨c1, c2, c3⟩ := b3.matchAll (endOf o) hlt
      rw [hL'] at hs
      unfold ending at hs
      dsimp only at hs
      rw [b2] at hs
      by_cases hd : (matchAll (endOf o) (rest (· == 61) r') (on (· == 61) r p)).1 = true ∧ (matchAll (endOf o) (rest (· == 61) r') (on (· == 61) r p)).2.1 = []
      · refine hc ⟨by rw [← c1]; exact hd.1, ?_⟩
        cases hq : (matchAll (endOf o) (rest (· == 61) r) (on (· == 61) r p)).2.1 with
        | nil => rfl
        | cons b q =>
          rw [hq] at c3
          obtain ⟨_, e, _⟩ := c3.cons hlt
          rw [hd.2] at e
          cases e
      · rw [if_neg hd] at hs
        have := congrArg (fun p => p.2.2) hs
        cases this
/-- What a text has in common with a byte. -/
theorem takes_eq {a : UInt8} {l : List UInt8} (h : takes (· == a) l = true) : l = a :: rest (· == a) l := by
  cases l with
  | nil => cases h
  | cons b r =>
    have hb : b = a := by simpa [takes] using h
    subst hb
    rw [show rest (· == b) (b :: r) = r from if_pos (by simp)]
theorem matchAll_eq : ∀ (ws l : List UInt8) (k : Nat), (matchAll ws l k).1 = true → l = ws ++ (matchAll ws l k).2.1
  | [], _, _, _ => rfl
  | a :: ws, l, k, h => by
    unfold matchAll at h ⊢
    by_cases ht : takes (· == a) l = true
    · rw [if_pos ht] at h ⊢
      have := matchAll_eq ws _ _ h
      rw [List.cons_append, ← this]
      exact takes_eq ht
    · rw [if_neg ht] at h; cases h
theorem dig_of {b : UInt8} (h : isDig b = true) : 48 ≤ b.toNat ∧ b.toNat ≤ 57 := by simpa [isDig] using h
theorem readNum_eq {l : List UInt8} {k : Nat} (h : (readNum l k).2.1 = true) : l = Lib.decDigits (readNum l k).1 ++ 58 :: (readNum l k).2.2.1 := by
  cases l with
  | nil => cases h
  | cons b r =>
    unfold readNum at h ⊢
    by_cases hb : isDig b = true
    · simp only [hb, if_true] at h ⊢
      have h48 := dig_of hb
      by_cases hc : 0 < b.toNat - 48 ∧ isDig (nextB r) = true ∧ 10 * (b.toNat - 48) + ((nextB r).toNat - 48) ≤ 40
      · rw [if_pos hc] at h ⊢
        dsimp only at h ⊢
        cases r with
        | nil => exact absurd hc.2.1 (by decide)
        | cons c q =>
          have hcd : isDig c = true := hc.2.1
          have h49 := dig_of hcd
          rw [show rest isDig (c :: q) = q from if_pos hcd] at h ⊢
          rw [show nextB (c :: q) = c from rfl]
          rw [Lib.decDigits_two (by omega) (by omega)]
          have e1 : UInt8.ofNat (48 + (10 * (b.toNat - 48) + (c.toNat - 48)) / 10) = b := by
            rw [show 48 + (10 * (b.toNat - 48) + (c.toNat - 48)) / 10 = b.toNat by omega]
            exact UInt8.ofNat_toNat
          have e2 : UInt8.ofNat (48 + (10 * (b.toNat - 48) + (c.toNat - 48)) % 10) = c := by
            rw [show 48 + (10 * (b.toNat - 48) + (c.toNat - 48)) % 10 = c.toNat by omega]
            exact UInt8.ofNat_toNat
          rw [e1, e2, ← takes_eq h]
          rfl
      · rw [if_neg hc] at h ⊢
        dsimp only at h ⊢
        rw [Lib.decDigits_one (by omega), show 48 + (b.toNat - 48) = b.toNat by omega, UInt8.ofNat_toNat, ← takes_eq h]
        rfl
    · simp only [if_neg hb] at h; cases h
theorem takeN_true' : ∀ (n : Nat) (l : List UInt8) (k : Nat), (takeN n l k).1 = true → l = l.take n ++ (takeN n l k).2.1 ∧ (l.take n).length = n ∧ ∀ b ∈ l.take n, okB b = true
  | 0, _, _, _ => ⟨rfl, rfl, fun _ h => by cases h⟩
  | n + 1, l, k, h => by
    unfold takeN at h ⊢
    by_cases ht : takes okB l = true
    · rw [if_pos ht] at h ⊢
      cases l with
      | nil => cases ht
      | cons b r =>
        have hb : okB b = true := ht
        rw [show rest okB (b :: r) = r from if_pos hb] at h ⊢
        obtain ⟨h1, h2, h3⟩ := takeN_true' n _ _ h
        rw [List.take_succ_cons]
        exact ⟨by rw [List.cons_append, ← h1], by rw [List.length_cons, h2], fun c hc => by
          rcases List.mem_cons.1 hc with rfl | hc
          · exact hb
          · exact h3 c hc⟩
    · rw [if_neg ht] at h; cases h
theorem readLine_eq {l : List UInt8} {k : Nat} {x : List UInt8} (h : (readLine l k).1 = some x) : l = Lib.decDigits x.length ++ (58 :: (x ++ (10 :: (readLine l k).2.1))) := by
  have e := @readNum_eq l k
  unfold readLine at h ⊢
  dsimp only at h ⊢
  generalize readNum l k = q at *
  obtain ⟨n, s, l1, k1⟩ := q
  dsimp only at e h ⊢
  cases s
  · simp [runN] at h
  · have e := e rfl
    simp only [runN, if_true] at h ⊢
    by_cases h1 : (takeN n l1 k1).1 = true
    · rw [if_pos h1] at h ⊢
      obtain ⟨a1, a2, _⟩ := takeN_true' n l1 k1 h1
      by_cases h2 : takes (· == 10) (takeN n l1 k1).2.1 = true
      · rw [if_pos h2] at h ⊢
        injection h with h
        subst h
        dsimp only
        rw [a2, ← takes_eq h2, ← a1]
        exact e
      · rw [if_neg h2] at h; cases h
    · rw [if_neg h1] at h; cases h
theorem bts_ba (x : List UInt8) : bts (ba x) = x := by simp [ba]
theorem lines_eq : ∀ (n : Nat) (out : List ByteArray) (l : List UInt8) (k : Nat) (o : List ByteArray) (r : List UInt8) (p : Nat), lines n out l k = .inr (o, r, p) → ∃ fs, o = out ++ fs ∧ l = printed fs ++ r ∧ nextB r = 61
  | 0, _, _, _, _, _, _, h => by cases h
  | n + 1, out, l, k, o, r, p, h => by
    unfold lines at h
    by_cases h1 : nextB l = 61
    · rw [if_pos h1] at h
      injection h with e
      injection e with e1 e2
      injection e2 with e2 e3
      subst e1; subst e2
      exact ⟨[], by simp, rfl, h1⟩
    · rw [if_neg h1] at h
      by_cases h2 : out.length = 24
      · rw [if_pos h2] at h; cases h
      · rw [if_neg h2] at h
        cases hx : (readLine l k).1 with
        | none => rw [hx] at h; cases h
        | some x =>
          simp only [hx] at h
          obtain ⟨fs, e1, e2, e3⟩ := lines_eq n _ _ _ _ _ _ h
          refine ⟨ba x :: fs, by rw [e1, List.append_assoc]; rfl, ?_, e3⟩
          have e := readLine_eq hx
          rw [e2] at e
          rw [e]
          have hs : (ba x).size = x.length := by simp [ba, ByteArray.size]
          simp [printed, hs, bts_ba]
theorem parse_text {t : List UInt8} {g : List ByteArray} {n : Nat} (h : parse t = (g, n, 0)) : n = 0 ∧ text g = t := by
  unfold parse at h
  cases hL : lines 25 [] t 0 with
  | inl x =>
    exfalso
    rw [hL] at h
    have he : x.1 = 0 := congrArg (fun p => p.2.2) h
    have : ∀ (n : Nat) (out : List ByteArray) (l : List UInt8) (k : Nat), ∀ x, lines n out l k = .inl x → x.1 ≠ 0 := by
      intro n
      induction n with
      | zero => intro out l k x h; injection h with h; subst h; exact (by decide : (11 : Int) ≠ 0)
      | succ n ih =>
        intro out l k x h
        unfold lines at h
        split at h
        · cases h
        · split at h
          · injection h with h; subst h; dsimp only; split <;> decide
          · split at h
            · exact ih _ _ _ _ h
            · injection h with h; subst h; exact (by decide : (11 : Int) ≠ 0)
    exact this _ _ _ _ _ hL he
  | inr x =>
    obtain ⟨o, r, p⟩ := x
    rw [hL] at h
    unfold ending at h
    dsimp only at h
    by_cases hc : (matchAll (endOf o) (rest (· == 61) r) (on (· == 61) r p)).1 = true ∧ (matchAll (endOf o) (rest (· == 61) r) (on (· == 61) r p)).2.1 = []
    · rw [if_pos hc] at h
      injection h with h1 h2
      injection h2 with h2 h3
      subst h1
      refine ⟨h2.symm, ?_⟩
      obtain ⟨fs, e1, e2, e3⟩ := lines_eq _ _ _ _ _ _ _ hL
      rw [List.nil_append] at e1
      subst e1
      have h61 : takes (· == 61) r = true := by
        cases r with
        | nil => exact absurd e3 (by decide)
        | cons b q => have : b = 61 := e3; subst this; rfl
      have m := matchAll_eq _ _ _ hc.1
      rw [hc.2, List.append_nil] at m
      unfold text
      rw [← m, ← takes_eq h61, ← e2]
    · rw [if_neg hc] at h
      have := congrArg (fun p => p.2.2) h
      cases this
theorem takes_cons (a : UInt8) (l : List UInt8) : takes (· == a) (a :: l) = true := by simp [takes]
theorem rest_cons (a : UInt8) (l : List UInt8) : rest (· == a) (a :: l) = l := if_pos (by simp)
theorem matchAll_self : ∀ (ws r : List UInt8) (k : Nat), matchAll ws (ws ++ r) k = (true, r, k + ws.length)
  | [], _, _ => rfl
  | a :: ws, r, k => by
    unfold matchAll
    rw [List.cons_append, if_pos (takes_cons _ _), rest_cons, matchAll_self ws]
    unfold on
    rw [if_pos (takes_cons _ _), List.length_cons]
    exact congrArg (fun n => (true, r, n)) (by omega)
theorem readNum_self {n : Nat} (h : n ≤ 40) (r : List UInt8) (k : Nat) : ∃ k', readNum (Lib.decDigits n ++ 58 :: r) k = (n, true, r, k') := by
  by_cases h1 : n < 10
  · rw [Lib.decDigits_one h1]
    have ht : (UInt8.ofNat (48 + n)).toNat = 48 + n := by
      rw [UInt8.toNat_ofNat']; omega
    have hd : isDig (UInt8.ofNat (48 + n)) = true := by simp [isDig, ht]; omega
    refine ⟨k + 1 + 1, ?_⟩
    unfold readNum
    simp only [List.cons_append, List.nil_append, hd, if_true]
    rw [if_neg (by rintro ⟨_, h, _⟩; exact absurd h (by show ¬ isDig 58 = true; decide)), takes_cons, rest_cons, ht]
    unfold on
    rw [if_pos (takes_cons _ _)]
    exact congrArg (fun m => (m, true, r, k + 1 + 1)) (by omega)
  · rw [Lib.decDigits_two h1 (by omega)]
    have ht : (UInt8.ofNat (48 + n / 10)).toNat = 48 + n / 10 := by
      rw [UInt8.toNat_ofNat']; omega
    have ht2 : (UInt8.ofNat (48 + n % 10)).toNat = 48 + n % 10 := by
      rw [UInt8.toNat_ofNat']; omega
    have hd : isDig (UInt8.ofNat (48 + n / 10)) = true := by simp [isDig, ht]; omega
    have hd2 : isDig (UInt8.ofNat (48 + n % 10)) = true := by simp [isDig, ht2]; omega
    refine ⟨k + 1 + 1 + 1, ?_⟩
    unfold readNum
    simp only [List.cons_append, List.nil_append, hd, if_true]
    rw [if_pos ⟨by omega, hd2, by show 10 * _ + ((UInt8.ofNat (48 + n % 10)).toNat - 48) ≤ 40; omega⟩]
    rw [show rest isDig (UInt8.ofNat (48 + n % 10) :: 58 :: r) = 58 :: r from if_pos hd2, takes_cons, rest_cons]
    rw [show nextB (UInt8.ofNat (48 + n % 10) :: 58 :: r) = UInt8.ofNat (48 + n % 10) from rfl, ht, ht2]
    rw [show on isDig (UInt8.ofNat (48 + n % 10) :: 58 :: r) (k + 1) = k + 1 + 1 from if_pos hd2]
    unfold on
    rw [if_pos (takes_cons _ _)]
    exact congrArg (fun m => (m, true, r, k + 1 + 1 + 1)) (by omega)
theorem takeN_self : ∀ (x r : List UInt8) (k : Nat), (∀ b ∈ x, okB b = true) → takeN x.length (x ++ r) k = (true, r, k + x.length)
  | [], _, _, _ => rfl
  | b :: x, r, k, h => by
    have hb : okB b = true := h b (by simp)
    rw [List.length_cons]
    unfold takeN
    rw [List.cons_append, if_pos (show takes okB (b :: (x ++ r)) = true from hb), show rest okB (b :: (x ++ r)) = x ++ r from if_pos hb, takeN_self x r _ (fun c hc => h c (List.mem_cons_of_mem _ hc))]
    rw [show on okB (b :: (x ++ r)) k = k + 1 from if_pos hb]
    exact congrArg (fun n => (true, r, n)) (by omega)
theorem readLine_self {x : List UInt8} (h : x.length ≤ 40) (hx : ∀ b ∈ x, okB b = true) (r : List UInt8) (k : Nat) : ∃ k', readLine (Lib.decDigits x.length ++ 58 :: (x ++ 10 :: r)) k = (some x, r, k') := by
  obtain ⟨k', h1⟩ := readNum_self h (x ++ 10 :: r) k
  unfold readLine
  rw [h1]
  simp only [runN, if_true]
  rw [takeN_self x _ _ hx]
  simp only [if_true, takes_cons, rest_cons]
  exact ⟨_, by rw [List.take_left]⟩
theorem dec_head {n : Nat} (h : n ≤ 40) (r : List UInt8) : nextB (Lib.decDigits n ++ r) ≠ 61 := by
  have : ∀ n : Fin 41, (Lib.decDigits n.val).head? ≠ none ∧ (Lib.decDigits n.val).head? ≠ some 61 := by
    intro n
    by_cases h1 : n.val < 10
    · rw [Lib.decDigits_one h1]
      refine ⟨by simp, fun e => ?_⟩
      have e : UInt8.ofNat (48 + n.val) = 61 := by simpa using e
      have := congrArg UInt8.toNat e
      rw [UInt8.toNat_ofNat'] at this
      have h61 : (61 : UInt8).toNat = 61 := rfl
      omega
    · rw [Lib.decDigits_two h1 (by omega)]
      refine ⟨by simp, fun e => ?_⟩
      have e : UInt8.ofNat (48 + n.val / 10) = 61 := by simpa using e
      have := congrArg UInt8.toNat e
      rw [UInt8.toNat_ofNat'] at this
      have h61 : (61 : UInt8).toNat = 61 := rfl
      omega
  obtain ⟨a, b⟩ := this ⟨n, by omega⟩
  dsimp only at a b
  cases hd : Lib.decDigits n with
  | nil => rw [hd] at a; exact absurd rfl a
  | cons c q =>
    rw [hd] at b
    intro e
    exact b (congrArg some e)
theorem lines_self : ∀ (fs : List ByteArray) (n : Nat) (out : List ByteArray) (r : List UInt8) (k : Nat), fs.length < n → out.length + fs.length ≤ 24 → (∀ s ∈ fs, s.size ≤ 40 ∧ okLine s = true) → ∃ k', lines n out (printed fs ++ 61 :: r) k = .inr (out ++ fs, 61 :: r, k')
  | [], n + 1, out, r, k, _, _, _ => ⟨k, by unfold lines; rw [if_pos (show nextB (printed [] ++ 61 :: r) = 61 from rfl), List.append_nil]; rfl⟩
  | s :: fs, n + 1, out, r, k, hn, hl, hs => by
    simp only [List.length_cons] at hn hl
    obtain ⟨w1, w2⟩ := hs s (by simp)
    have hsz : s.size = (bts s).length := by simp
    have hx : ∀ b ∈ bts s, okB b = true := fun b hb => List.all_eq_true.1 w2 b hb
    obtain ⟨k1, h1⟩ := readLine_self (by omega) hx (printed fs ++ 61 :: r) k
    have e : printed (s :: fs) ++ 61 :: r = Lib.decDigits (bts s).length ++ 58 :: (bts s ++ 10 :: (printed fs ++ 61 :: r)) := by simp [printed]
    obtain ⟨k', h2⟩ := lines_self fs n (out ++ [ba (bts s)]) r k1 (by omega) (by simp; omega) (fun t ht => hs t (List.mem_cons_of_mem _ ht))
    refine ⟨k', ?_⟩
    rw [e]
    unfold lines
    rw [if_neg (dec_head (by omega) _), if_neg (by omega), h1]
    dsimp only
    rw [h2]
    have hb : ba (bts s) = s := by apply ByteArray.ext; simp [ba]
    rw [hb, List.append_assoc]
    rfl
  | _, 0, _, _, _, h, _, _ => by omega
/-- What is printed is parsed to the same file. -/
theorem parse_self {f : List ByteArray} (h : f.length ≤ 24) (hs : ∀ s ∈ f, s.size ≤ 40 ∧ okLine s = true) : parse (text f) = (f, 0, 0) := by
  obtain ⟨k', h1⟩ := lines_self f 25 [] (endOf f) 0 (by omega) (by simpa using h) hs
  unfold parse text
  rw [h1]
  unfold ending
  dsimp only
  have m := matchAll_self (endOf f) [] (on (· == 61) (61 :: endOf f) k')
  rw [List.append_nil] at m
  rw [List.nil_append, rest_cons, m]
  simp
/-- An error of a text: there are no lines, and it is one of three, at a byte or at the end. -/
theorem rest_len (p : UInt8 → Bool) (l : List UInt8) (k : Nat) : on p l k + (rest p l).length = k + l.length := by
  cases l with
  | nil => rfl
  | cons b r =>
    unfold on rest takes
    by_cases h : p b = true
    · simp only [h, if_true, List.length_cons]; omega
    · simp only [h, if_false, Bool.false_eq_true]
theorem takeN_len : ∀ (n : Nat) (l : List UInt8) (k : Nat), (takeN n l k).2.2 + (takeN n l k).2.1.length = k + l.length
  | 0, _, _ => rfl
  | n + 1, l, k => by
    unfold takeN
    split
    · rw [takeN_len n, rest_len]
    · rfl
theorem readNum_len' (l : List UInt8) (k : Nat) : (readNum l k).2.2.2 + (readNum l k).2.2.1.length = k + l.length := by
  cases l with
  | nil => rfl
  | cons b r =>
    unfold readNum
    dsimp only
    split
    · split
      · dsimp only
        rw [rest_len, rest_len, List.length_cons]; omega
      · dsimp only
        rw [rest_len, List.length_cons]; omega
    · rfl
theorem readLine_len' (l : List UInt8) (k : Nat) : (readLine l k).2.2 + (readLine l k).2.1.length = k + l.length := by
  have h1 := readNum_len' l k
  unfold readLine
  dsimp only
  generalize readNum l k = q at *
  obtain ⟨n, s, l1, k1⟩ := q
  dsimp only at h1 ⊢
  have h2 : (runN s n l1 k1).2.2 + (runN s n l1 k1).2.1.length = k1 + l1.length := by
    unfold runN
    split
    · exact takeN_len _ _ _
    · rfl
  generalize runN s n l1 k1 = t at *
  split
  · split
    · dsimp only; rw [rest_len]; omega
    · dsimp only; omega
  · dsimp only; omega
theorem lines_len : ∀ (n : Nat) (out : List ByteArray) (l : List UInt8) (k : Nat), (∀ x, lines n out l k = .inl x → (x.1 = 2 ∨ x.1 = 11) ∧ x.2 ≤ k + l.length) ∧ (∀ o r p, lines n out l k = .inr (o, r, p) → p + r.length = k + l.length)
  | 0, _, _, _ => ⟨fun _ h => by injection h with h; subst h; exact ⟨.inr rfl, Nat.le_add_right _ _⟩, fun _ _ _ h => by cases h⟩
  | n + 1, out, l, k => by
    unfold lines
    split
    · exact ⟨fun _ h => (by cases h), fun o r p e => by injection e with e; injection e with e1 e2; injection e2 with e2 e3; subst e2; subst e3; rfl⟩
    · split
      · refine ⟨fun _ h => ?_, fun _ _ _ h => by cases h⟩
        injection h with h
        subst h
        refine ⟨?_, Nat.le_add_right _ _⟩
        dsimp only
        split
        · exact .inl rfl
        · exact .inr rfl
      · have hl := readLine_len' l k
        split
        · obtain ⟨h1, h2⟩ := lines_len n (out ++ [ba _]) (readLine l k).2.1 (readLine l k).2.2
          exact ⟨fun x h => ⟨(h1 x h).1, by have := (h1 x h).2; omega⟩, fun o r p h => by rw [h2 o r p h, hl]⟩
        · refine ⟨fun _ h => ?_, fun _ _ _ h => by cases h⟩
          injection h with h
          subst h
          exact ⟨.inr rfl, by dsimp only; omega⟩
theorem matchAll_len : ∀ (ws l : List UInt8) (k : Nat), (matchAll ws l k).2.2 + (matchAll ws l k).2.1.length = k + l.length
  | [], _, _ => rfl
  | a :: ws, l, k => by
    unfold matchAll
    split
    · rw [matchAll_len ws, rest_len]
    · rfl
theorem parse_err (t : List UInt8) (h : (parse t).2.2 ≠ 0) : (parse t).1 = [] ∧ (parse t).2.1 ≤ t.length ∧ ((parse t).2.2 = 2 ∨ (parse t).2.2 = 8 ∨ (parse t).2.2 = 11) := by
  obtain ⟨a1, a2⟩ := lines_len 25 [] t 0
  unfold parse at h ⊢
  cases hL : lines 25 [] t 0 with
  | inl x =>
    obtain ⟨b1, b2⟩ := a1 x hL
    refine ⟨rfl, ?_, ?_⟩
    · show x.2 ≤ t.length; omega
    · rcases b1 with b1 | b1
      · exact .inl b1
      · exact .inr (.inr b1)
  | inr x =>
    obtain ⟨o, r, p⟩ := x
    have b := a2 o r p hL
    rw [hL] at h
    unfold ending at h ⊢
    dsimp only at h ⊢
    have m := matchAll_len (endOf o) (rest (· == 61) r) (on (· == 61) r p)
    have q := rest_len (· == 61) r p
    split
    · rename_i hc; rw [if_pos hc] at h; exact absurd rfl h
    · refine ⟨rfl, ?_, .inr (.inl rfl)⟩
      dsimp only
      omega
end File
namespace File
theorem lines_good : ∀ (n : Nat) (out : List ByteArray) (l : List UInt8) (k : Nat) (o : List ByteArray) (r : List UInt8) (p : Nat), Fl.Good out → lines n out l k = .inr (o, r, p) → Fl.Good o
  | 0, _, _, _, _, _, _, _, h => by cases h
  | n + 1, out, l, k, o, r, p, hg, h => by
    unfold lines at h
    by_cases h1 : nextB l = 61
    · rw [if_pos h1] at h
      injection h with e
      injection e with e1 e2
      exact e1 ▸ hg
    · rw [if_neg h1] at h
      by_cases h2 : out.length = 24
      · rw [if_pos h2] at h; cases h
      · rw [if_neg h2] at h
        cases hx : (readLine l k).1 with
        | none => rw [hx] at h; cases h
        | some x =>
          simp only [hx] at h
          have hxg := Fl.readLine_good hx
          have := hg.many
          exact lines_good n _ _ _ _ _ _ (hg.snoc (by omega) hxg.1 hxg.2) h
theorem parse_good {t : List UInt8} {g : List ByteArray} {n : Nat} (h : parse t = (g, n, 0)) : check g = 0 := by
  by_cases he : (parse t).2.2 = 0
  · unfold parse at h he
    cases hL : lines 25 [] t 0 with
    | inl x =>
      rw [hL] at h he
      have := ((lines_len 25 [] t 0).1 x hL).1
      have he : x.1 = 0 := he
      omega
    | inr x =>
      obtain ⟨o, r, p⟩ := x
      rw [hL] at h he
      unfold ending at h he
      dsimp only at h he
      by_cases hc : (matchAll (endOf o) (rest (· == 61) r) (on (· == 61) r p)).1 = true ∧ (matchAll (endOf o) (rest (· == 61) r) (on (· == 61) r p)).2.1 = []
      · rw [if_pos hc] at h
        injection h with h1 h2
        rw [← h1]
        exact Fl.check_of_good (lines_good _ _ _ _ _ _ _ Fl.Good.nil hL)
      · rw [if_neg hc] at he
        exact absurd he (by decide : (8 : Int) ≠ 0)
  · rw [h] at he; exact absurd rfl he
/-- What FileTorn says of one text that begins as the text of a file does. -/
theorem torn {f : List ByteArray} (hf : check f = 0) {t : List UInt8} {i : Nat} (hi : i ≤ (text f).length) (ht : (text f).take i = t.take i) (hl : i ≤ t.length) :
    ((parse t).2.2 ≠ 0 → (parse t).1 = [] ∧ (parse t).2.1 ≤ t.length ∧ ((parse t).2.2 = 2 ∨ (parse t).2.2 = 8 ∨ (parse t).2.2 = 11) ∧ i ≤ (parse t).2.1) ∧
    ((parse t).2.2 = 0 → (parse t).2.1 = 0 ∧ check (parse t).1 = 0 ∧ text (parse t).1 = t ∧ (t = text f ↔ f = (parse t).1)) := by
  have hg := Fl.good_of_check hf
  have hs := parse_self hg.many fun s hs => ⟨hg.wide s hs, hg.ok s hs⟩
  refine ⟨fun he => ?_, fun he => ?_⟩
  · obtain ⟨h1, h2, h3⟩ := parse_err t he
    exact ⟨h1, h2, h3, parse_prefix hs ht he⟩
  · have e : parse t = ((parse t).1, (parse t).2.1, 0) := by rw [← he]
    obtain ⟨h1, h2⟩ := parse_text e
    refine ⟨h1, parse_good e, h2, fun h => ?_, fun h => ?_⟩
    · rw [h, hs]
    · rw [← h2, ← h]
end File
end Go.Proofs.YtkhmkpcihphkcaaDoor
