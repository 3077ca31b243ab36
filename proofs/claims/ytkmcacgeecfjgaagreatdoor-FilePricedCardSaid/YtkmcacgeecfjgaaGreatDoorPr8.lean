/- What the proof of the claim's theorem uses, part 8. The conditions stand in each statement. -/
import Derived.WalkKit
import Derived.WalkSpells
import Derived.WalkLawsBesides
import Derived.WalkSmall
import Derived.Lib.Hide
import Derived.Laws.OwnMore
import Derived.Laws.CopyOwn
import Derived.Deep.Draws
import Derived.Laws.AppendOwnNone
import Derived.Test.YtkmcacgeecfjgaaGreatDoorProg
import Derived.Outline
import Derived.BigQuiet
import Derived.Deep.QuietTactic
import Derived.Lib.OthersKept
import Derived.Laws.EntriesVeiled
import Derived.Shelf.Strings.Builder1
import Derived.Shelf.LaysM
import Derived.Shelf.Strconv.Itoa3
import Derived.Orders
import Derived.RegionTactic
import Derived.BigRegion
import Derived.Deep.DeepCutAuto
import Derived.Maps.OwnRows
import Derived.Maps.GroupsBeside
import Derived.Deep.RegionHeld3
import Derived.Lib.SliceRun
import Derived.RangeFuncNested
import Derived.RangeFuncBound
import Derived.RangeFuncCalls
import Derived.RangeFuncLeaves
import Derived.Shelf.Abstract
import Derived.Shelf.RegionOpen
import Derived.OwnWalkIn
import Derived.TacticsInMore
import Derived.LoopNIn
import Derived.LoopIn
import Derived.Sort.QuietIn
import Derived.Deep.Quiet
import Derived.Maps.AppendAt
import Derived.Test.YtkmcacgeecfjgaaGreatDoorCards
import Derived.Test.YtkmcacgeecfjgaaGreatDoorTie
import Derived.ProofKit
import Derived.Deep.DeepHandedRow
import Derived.Lib.LaidTab
import Derived.Stop.LaidErr
import Derived.ChangeSame
import Derived.RowKit3
import Derived.ReadAgain
import Derived.OpenShut
import Derived.ChangeSlices
import Derived.Shelf.Bits.Mul64
import Derived.ArgAppend
import Derived.WalkMore
import Derived.Laws.BytesArg
import Derived.Laws.IdiomStrings
import Derived.Shelf.Spec.SlicesInsert
import Derived.Shelf.Spec.SlicesInsertGrow
import Derived.Deep.RegionLaw
import Derived.Maps.Own
import Derived.Maps.OwnOps
import Derived.Maps.OwnSet
import Derived.ChangeKeysEq
import Derived.Test.YtkmcacgeecfjgaaGreatDoorPr7
set_option linter.unusedVariables false
set_option linter.unusedSimpArgs false
section
namespace Go.Proofs.YtkmcacgeecfjgaaGreatDoor
namespace File
set_option linter.unusedSectionVars false
section
variable {α : Type} [DecidableEq α]
def Block.swap (b : Block α) : Block α := ⟨b.lo, b.hi, b.e1, b.e0⟩
end
end File
end Go.Proofs.YtkmcacgeecfjgaaGreatDoor
namespace Go.Proofs.YtkmcacgeecfjgaaGreatDoor
namespace File
/-- How many lines more a change makes. -/
def more : List (Edit ByteArray) → Int
  | [] => 0
  | x :: r => (x.new.length : Int) - (x.old.length : Int) + more r
end File
end Go.Proofs.YtkmcacgeecfjgaaGreatDoor
namespace Go.Proofs.YtkmcacgeecfjgaaGreatDoor
namespace File
/-- Two texts are alike from k up to K. -/
def Ag (K k : Nat) (l l' : List UInt8) : Prop := l.take (K - k) = l'.take (K - k)
theorem Ag.nil {K k : Nat} {l' : List UInt8} (h : Ag K k [] l') (hk : k < K) : l' = [] := by
  unfold Ag at h
  obtain ⟨m, hm⟩ : ∃ m, K - k = m + 1 := ⟨K - k - 1, by omega⟩
  rw [hm] at h
  cases l' with
  | nil => rfl
  | cons b r => cases h
theorem Ag.cons {K k : Nat} {b : UInt8} {r l' : List UInt8} (h : Ag K k (b :: r) l') (hk : k < K) : ∃ r', l' = b :: r' ∧ Ag K (k + 1) r r' := by
  unfold Ag at h ⊢
  obtain ⟨m, hm⟩ : ∃ m, K - k = m + 1 := ⟨K - k - 1, by omega⟩
  rw [hm] at h
  rw [show K - (k + 1) = m by omega]
  cases l' with
  | nil => cases h
  | cons c r' =>
    rw [List.take_succ_cons, List.take_succ_cons] at h
    injection h with h1 h2
    exact ⟨r', by rw [h1], h2⟩
theorem Ag.next {K k : Nat} {l l' : List UInt8} (h : Ag K k l l') (hk : k < K) : nextB l' = nextB l := by
  cases l with
  | nil => rw [h.nil hk]
  | cons b r => obtain ⟨r', rfl, _⟩ := h.cons hk; rfl
theorem on_ge (p : UInt8 → Bool) (l : List UInt8) (k : Nat) : k ≤ on p l k := by unfold on; split <;> omega
theorem Ag.take {K k : Nat} {l l' : List UInt8} {p : UInt8 → Bool} (h : Ag K k l l') (hk : on p l k < K) : takes p l' = takes p l ∧ on p l' k = on p l k ∧ Ag K (on p l k) (rest p l) (rest p l') := by
  have h0 := on_ge p l k
  cases l with
  | nil => rw [h.nil (by omega)]; exact ⟨rfl, rfl, rfl⟩
  | cons b r =>
    obtain ⟨r', rfl, h'⟩ := h.cons (by omega)
    by_cases hp : p b = true
    · have e1 : ∀ r, takes p (b :: r) = true := fun _ => hp
      have e2 : ∀ r, on p (b :: r) k = k + 1 := fun _ => if_pos hp
      have e3 : ∀ r, rest p (b :: r) = r := fun _ => if_pos hp
      rw [e1, e1, e2, e2, e3, e3]
      exact ⟨rfl, rfl, h'⟩
    · have e1 : ∀ r, takes p (b :: r) = false := fun _ => by simpa [takes] using hp
      have e2 : ∀ r, on p (b :: r) k = k := fun _ => if_neg hp
      have e3 : ∀ r, rest p (b :: r) = b :: r := fun _ => if_neg hp
      rw [e1, e1, e2, e2, e3, e3]
      exact ⟨rfl, rfl, h⟩
theorem readNum_ge (l : List UInt8) (k : Nat) : k ≤ (readNum l k).2.2.2 := by
  unfold readNum
  split
  · exact Nat.le_refl _
  · rename_i b r
    split
    · dsimp only
      split
      · have h1 := on_ge isDig r (k + 1)
        have h2 := on_ge (· == 58) (rest isDig r) (on isDig r (k + 1))
        show k ≤ on (· == 58) (rest isDig r) (on isDig r (k + 1))
        omega
      · have h2 := on_ge (· == 58) r (k + 1)
        show k ≤ on (· == 58) r (k + 1)
        omega
    · exact Nat.le_refl _
theorem Ag.num {K k : Nat} {l l' : List UInt8} (h : Ag K k l l') (hk : (readNum l k).2.2.2 < K) :
    (readNum l' k).1 = (readNum l k).1 ∧ (readNum l' k).2.1 = (readNum l k).2.1 ∧ (readNum l' k).2.2.2 = (readNum l k).2.2.2 ∧ Ag K (readNum l k).2.2.2 (readNum l k).2.2.1 (readNum l' k).2.2.1 := by
  have h0 := readNum_ge l k
  cases l with
  | nil => rw [h.nil (by omega)]; exact ⟨rfl, rfl, rfl, rfl⟩
  | cons b r =>
    obtain ⟨r', rfl, h'⟩ := h.cons (by omega)
    unfold readNum at hk h0 ⊢
    by_cases hb : isDig b = true
    · simp only [hb, if_true] at hk h0 ⊢
      by_cases hc : 0 < b.toNat - 48 ∧ isDig (nextB r) = true ∧ 10 * (b.toNat - 48) + ((nextB r).toNat - 48) ≤ 40
      · rw [if_pos hc] at hk h0 ⊢
        dsimp only at hk h0 ⊢
        have h1 := on_ge isDig r (k + 1)
        have h2 := on_ge (· == 58) (rest isDig r) (on isDig r (k + 1))
        rw [h'.next (by omega), if_pos hc]
        obtain ⟨a1, a2, a3⟩ := h'.take (p := isDig) (by omega)
        obtain ⟨b1, b2, b3⟩ := a3.take (p := (· == 58)) hk
        dsimp only
        rw [a2]
        exact ⟨rfl, b1, b2, b3⟩
      · rw [if_neg hc] at hk h0 ⊢
        dsimp only at hk h0 ⊢
        have h2 := on_ge (· == 58) r (k + 1)
        rw [h'.next (by omega), if_neg hc]
        obtain ⟨b1, b2, b3⟩ := h'.take (p := (· == 58)) hk
        exact ⟨rfl, b1, b2, b3⟩
    · simp only [if_neg hb]
      exact ⟨trivial, trivial, trivial, h⟩
theorem takeN_ge : ∀ (n : Nat) (l : List UInt8) (k : Nat), k ≤ (takeN n l k).2.2
  | 0, _, _ => Nat.le_refl _
  | n + 1, l, k => by
    unfold takeN
    split
    · exact Nat.le_trans (on_ge _ _ _) (takeN_ge n _ _)
    · exact Nat.le_refl _
theorem Ag.takeN {K : Nat} : ∀ (n : Nat) {l l' : List UInt8} {k : Nat}, Ag K k l l' → (File.takeN n l k).2.2 < K → (File.takeN n l' k).1 = (File.takeN n l k).1 ∧ (File.takeN n l' k).2.2 = (File.takeN n l k).2.2 ∧ Ag K (File.takeN n l k).2.2 (File.takeN n l k).2.1 (File.takeN n l' k).2.1
  | 0, _, _, _, h, _ => ⟨rfl, rfl, h⟩
  | n + 1, l, l', k, h, hk => by
    have h0 := takeN_ge (n + 1) l k
    unfold File.takeN at hk h0 ⊢
    by_cases ht : takes okB l = true
    · rw [if_pos ht] at hk h0 ⊢
      obtain ⟨a1, a2, a3⟩ := h.take (p := okB) (Nat.lt_of_le_of_lt (takeN_ge n _ _) hk)
      rw [a1, if_pos ht, a2]
      exact Ag.takeN n a3 hk
    · rw [if_neg ht] at hk h0 ⊢
      have e : on okB l k = k := by unfold on; rw [if_neg ht]
      obtain ⟨a1, a2, a3⟩ := h.take (p := okB) (by rw [e]; exact hk)
      rw [a1, if_neg ht]
      exact ⟨rfl, rfl, h⟩
theorem runN_ge (s : Bool) (n : Nat) (l : List UInt8) (k : Nat) : k ≤ (runN s n l k).2.2 := by
  unfold runN
  split
  · exact takeN_ge _ _ _
  · exact Nat.le_refl _
theorem readLine_ge (l : List UInt8) (k : Nat) : k ≤ (readLine l k).2.2 := by
  have h1 := readNum_ge l k
  have h2 := runN_ge (readNum l k).2.1 (readNum l k).1 (readNum l k).2.2.1 (readNum l k).2.2.2
  unfold readLine
  dsimp only
  split
  · split
    · exact Nat.le_trans (Nat.le_trans h1 h2) (on_ge _ _ _)
    · exact Nat.le_trans h1 h2
  · exact Nat.le_trans h1 h2
theorem Ag.takeEq {K k n : Nat} {l l' : List UInt8} (h : Ag K k l l') (hn : k + n ≤ K) : l'.take n = l.take n := by
  have := congrArg (List.take n) h
  rw [List.take_take, List.take_take, Nat.min_eq_left (by omega)] at this
  exact this.symm
theorem takeN_pos : ∀ (n : Nat) (l : List UInt8) (k : Nat), (takeN n l k).1 = true → (takeN n l k).2.2 = k + n
  | 0, _, _, _ => rfl
  | n + 1, l, k, h => by
    unfold takeN at h ⊢
    by_cases ht : takes okB l = true
    · rw [if_pos ht] at h ⊢
      rw [takeN_pos n _ _ h]
      unfold on
      rw [if_pos ht]
      omega
    · rw [if_neg ht] at h; cases h
theorem Ag.line {K k : Nat} {l l' : List UInt8} (h : Ag K k l l') (hk : (File.readLine l k).2.2 < K) : (readLine l' k).1 = (readLine l k).1 ∧ (readLine l' k).2.2 = (readLine l k).2.2 ∧ Ag K (readLine l k).2.2 (readLine l k).2.1 (readLine l' k).2.1 := by
  have g1 := readNum_ge l k
  have g2 := runN_ge (readNum l k).2.1 (readNum l k).1 (readNum l k).2.2.1 (readNum l k).2.2.2
  have g3 : (runN (readNum l k).2.1 (readNum l k).1 (readNum l k).2.2.1 (readNum l k).2.2.2).2.2 ≤ (readLine l k).2.2 := by
    unfold readLine
    dsimp only
    split
    · split
      · exact on_ge _ _ _
      · exact Nat.le_refl _
    · exact Nat.le_refl _
  obtain ⟨a1, a2, a3, a4⟩ := h.num (by omega)
  have hR : (runN (readNum l' k).2.1 (readNum l' k).1 (readNum l' k).2.2.1 (readNum l' k).2.2.2).1 = (runN (readNum l k).2.1 (readNum l k).1 (readNum l k).2.2.1 (readNum l k).2.2.2).1
      ∧ (runN (readNum l' k).2.1 (readNum l' k).1 (readNum l' k).2.2.1 (readNum l' k).2.2.2).2.2 = (runN (readNum l k).2.1 (readNum l k).1 (readNum l k).2.2.1 (readNum l k).2.2.2).2.2
      ∧ Ag K (runN (readNum l k).2.1 (readNum l k).1 (readNum l k).2.2.1 (readNum l k).2.2.2).2.2 (runN (readNum l k).2.1 (readNum l k).1 (readNum l k).2.2.1 (readNum l k).2.2.2).2.1 (runN (readNum l' k).2.1 (readNum l' k).1 (readNum l' k).2.2.1 (readNum l' k).2.2.2).2.1 := by
    rw [a1, a2, a3]
    unfold runN at g2 g3 ⊢
    by_cases hs : (readNum l k).2.1 = true
    · rw [if_pos hs] at g2 g3 ⊢
      rw [if_pos hs]
      exact Ag.takeN _ a4 (by omega)
    · rw [if_neg hs] at g2 g3 ⊢
      rw [if_neg hs]
      exact ⟨rfl, rfl, a4⟩
  have hP : (runN (readNum l k).2.1 (readNum l k).1 (readNum l k).2.2.1 (readNum l k).2.2.2).1 = true → (runN (readNum l k).2.1 (readNum l k).1 (readNum l k).2.2.1 (readNum l k).2.2.2).2.2 = (readNum l k).2.2.2 + (readNum l k).1 := by
    unfold runN
    split
    · exact takeN_pos _ _ _
    · intro h; cases h
  have ht : (runN (readNum l k).2.1 (readNum l k).1 (readNum l k).2.2.1 (readNum l k).2.2.2).1 = true → (readNum l' k).2.2.1.take (readNum l' k).1 = (readNum l k).2.2.1.take (readNum l k).1 := fun e => by
    rw [a1]
    exact a4.takeEq (by have := hP e; omega)
  unfold readLine at hk ⊢
  dsimp only at hk ⊢
  clear g2 g3 hP h
  generalize runN (readNum l k).2.1 (readNum l k).1 (readNum l k).2.2.1 (readNum l k).2.2.2 = t at *
  generalize runN (readNum l' k).2.1 (readNum l' k).1 (readNum l' k).2.2.1 (readNum l' k).2.2.2 = t' at *
  obtain ⟨b1, b2, b3⟩ := hR
  by_cases h1 : t.1 = true
  · rw [if_pos h1] at hk ⊢
    rw [b1, if_pos h1]
    by_cases h2 : takes (· == 10) t.2.1 = true
    · rw [if_pos h2] at hk ⊢
      obtain ⟨c1, c2, c3⟩ := b3.take (p := (· == 10)) hk
      rw [c1, if_pos h2, ht h1, b2, c2]
      exact ⟨rfl, rfl, c3⟩
    · rw [if_neg h2] at hk ⊢
      have e : on (· == 10) t.2.1 t.2.2 = t.2.2 := by unfold on; rw [if_neg h2]
      obtain ⟨c1, c2, c3⟩ := b3.take (p := (· == 10)) (by rw [e]; exact hk)
      rw [c1, if_neg h2]
      exact ⟨rfl, b2, b3⟩
  · rw [if_neg h1] at hk ⊢
    rw [b1, if_neg h1]
    exact ⟨rfl, b2, b3⟩
/-- Where reading stands. -/
def posOf : (Int × Nat) ⊕ (List ByteArray × List UInt8 × Nat) → Nat
  | .inl x => x.2
  | .inr x => x.2.2
theorem lines_ge : ∀ (n : Nat) (out : List ByteArray) (l : List UInt8) (k : Nat), k ≤ posOf (lines n out l k)
  | 0, _, _, _ => Nat.le_refl _
  | n + 1, out, l, k => by
    unfold lines
    split
    · exact Nat.le_refl _
    · split
      · exact Nat.le_refl _
      · split
        · exact Nat.le_trans (readLine_ge l k) (lines_ge n _ _ _)
        · exact readLine_ge l k
theorem Ag.lines {K : Nat} : ∀ (n : Nat) (out : List ByteArray) {l l' : List UInt8} {k : Nat}, Ag K k l l' → posOf (File.lines n out l k) < K →
    (∀ x, File.lines n out l k = .inl x → File.lines n out l' k = .inl x) ∧ (∀ o r p, File.lines n out l k = .inr (o, r, p) → ∃ r', File.lines n out l' k = .inr (o, r', p) ∧ Ag K p r r')
  | 0, _, _, _, _, h, _ => ⟨fun _ h => h, fun _ _ _ h => by cases h⟩
  | n + 1, out, l, l', k, h, hk => by
    have h0 := lines_ge (n + 1) out l k
    have hn := h.next (by omega)
    unfold File.lines at hk h0 ⊢
    rw [hn]
    by_cases h1 : nextB l = 61
    · simp only [if_pos h1]
      exact ⟨fun _ h => (by cases h), fun o r p e => by injection e with e; injection e with e1 e2; injection e2 with e2 e3; subst e1; subst e2; subst e3; exact ⟨l', rfl, h⟩⟩
    · simp only [if_neg h1] at hk ⊢
      by_cases h2 : out.length = 24
      · simp only [if_pos h2]
        exact ⟨fun _ h => h, fun _ _ _ h => by cases h⟩
      · simp only [if_neg h2] at hk ⊢
        have hlt : (File.readLine l k).2.2 < K := by
          split at hk
          · exact Nat.lt_of_le_of_lt (lines_ge n _ _ _) hk
          · exact hk
        obtain ⟨a1, a2, a3⟩ := h.line hlt
        rw [a1, a2]
        cases hx : (File.readLine l k).1 with
        | none => exact ⟨fun _ h => h, fun _ _ _ h => by cases h⟩
        | some x =>
          simp only [hx] at hk
          exact Ag.lines n _ a3 hk
theorem matchAll_ge : ∀ (ws l : List UInt8) (k : Nat), k ≤ (matchAll ws l k).2.2
  | [], _, _ => Nat.le_refl _
  | a :: ws, l, k => by
    unfold matchAll
    split
    · exact Nat.le_trans (on_ge _ _ _) (matchAll_ge ws _ _)
    · exact Nat.le_refl _
theorem Ag.matchAll {K : Nat} : ∀ (ws : List UInt8) {l l' : List UInt8} {k : Nat}, Ag K k l l' → (File.matchAll ws l k).2.2 < K → (File.matchAll ws l' k).1 = (File.matchAll ws l k).1 ∧ (File.matchAll ws l' k).2.2 = (File.matchAll ws l k).2.2 ∧ Ag K (File.matchAll ws l k).2.2 (File.matchAll ws l k).2.1 (File.matchAll ws l' k).2.1
  | [], _, _, _, h, _ => ⟨rfl, rfl, h⟩
  | a :: ws, l, l', k, h, hk => by
    unfold File.matchAll at hk ⊢
    by_cases ht : takes (· == a) l = true
    · rw [if_pos ht] at hk ⊢
      obtain ⟨a1, a2, a3⟩ := h.take (p := (· == a)) (Nat.lt_of_le_of_lt (matchAll_ge ws _ _) hk)
      rw [a1, if_pos ht, a2]
      exact Ag.matchAll ws a3 hk
    · rw [if_neg ht] at hk ⊢
      have e : on (· == a) l k = k := by unfold on; rw [if_neg ht]
      obtain ⟨a1, a2, a3⟩ := h.take (p := (· == a)) (by rw [e]; exact hk)
      rw [a1, if_neg ht]
      exact ⟨rfl, rfl, h⟩
/-- An error stands behind what a text has in common with one that is right. -/
theorem parse_prefix {s t : List UInt8} {g : List ByteArray} {i : Nat} (hs : parse s = (g, 0, 0)) (hi : s.take i = t.take i) (ht : (parse t).2.2 ≠ 0) : i ≤ (parse t).2.1 := by
  refine Nat.le_of_not_lt fun hlt => ?_
  have hA : Ag i 0 t s := by unfold Ag; rw [Nat.sub_zero]; exact hi.symm
  unfold parse at hs ht hlt
  cases hL : lines 25 [] t 0 with
  | inl x =>
    rw [hL] at ht hlt
    obtain ⟨a1, _⟩ := hA.lines 25 [] (by rw [hL]; exact hlt)
    rw [a1 x hL] at hs
    have := congrArg (fun p => p.2.2) hs
    exact ht this
  | inr x =>
    obtain ⟨o, r, p⟩ := x
    rw [hL] at ht hlt
    unfold ending at ht hlt
    dsimp only at ht hlt
    by_cases hc : (matchAll (endOf o) (rest (· == 61) r) (on (· == 61) r p)).1 = true ∧ (matchAll (endOf o) (rest (· == 61) r) (on (· == 61) r p)).2.1 = []
    · rw [if_pos hc] at ht; exact ht rfl
    · rw [if_neg hc] at ht hlt
      dsimp only at hlt
      have g1 := on_ge (· == 61) r p
      have g2 := matchAll_ge (endOf o) (rest (· == 61) r) (on (· == 61) r p)
      obtain ⟨_, a2⟩ := hA.lines 25 [] (by rw [hL]; show p < i; omega)
      obtain ⟨r', hL', hB⟩ := a2 o r p hL
      obtain ⟨b1, b2, b3⟩ := hB.take (p := (· == 61)) (by omega)
      obtain ⟨c1, c2, c3⟩ := b3.matchAll (endOf o) hlt
      rw [hL'] at hs
      unfold ending at hs
      dsimp only at hs
      rw [b2] at hs
      by_cases hd : (matchAll (endOf o) (rest (· == 61) r') (on (· == 61) r p)).1 = true ∧ (matchAll (endOf o) (rest (· == 61) r') (on (· == 61) r p)).2.1 = []
      · refine hc ⟨by rw [← c1]; exact hd.1, ?_⟩
        cases hq : (matchAll (endOf o) (rest (· == 61) r) (on (· == 61) r p)).2.1 with
        | nil => rfl
        | cons b q =>
          rw [hq] at c3
          obtain ⟨_, e, _⟩ := c3.cons hlt
          rw [hd.2] at e
          cases e
      · rw [if_neg hd] at hs
        have := congrArg (fun p => p.2.2) hs
        cases this
/-- What a text has in common with a byte. -/
theorem takes_eq {a : UInt8} {l : List UInt8} (h : takes (· == a) l = true) : l = a :: rest (· == a) l := by
  cases l with
  | nil => cases h
  | cons b r =>
    have hb : b = a := by simpa [takes] using h
    subst hb
    rw [show rest (· == b) (b :: r) = r from if_pos (by simp)]
theorem matchAll_eq : ∀ (ws l : List UInt8) (k : Nat), (matchAll ws l k).1 = true → l = ws ++ (matchAll ws l k).2.1
  | [], _, _, _ => rfl
  | a :: ws, l, k, h => by
    unfold matchAll at h ⊢
    by_cases ht : takes (· == a) l = true
    · rw [if_pos ht] at h ⊢
      have := matchAll_eq ws _ _ h
      rw [List.cons_append, ← this]
      exact takes_eq ht
    · rw [if_neg ht] at h; cases h
theorem dig_of {b : UInt8} (h : isDig b = true) : 48 ≤ b.toNat ∧ b.toNat ≤ 57 := by simpa [isDig] using h
theorem readNum_eq {l : List UInt8} {k : Nat} (h : (readNum l k).2.1 = true) : l = Lib.decDigits (readNum l k).1 ++ 58 :: (readNum l k).2.2.1 := by
  cases l with
  | nil => cases h
  | cons b r =>
    unfold readNum at h ⊢
    by_cases hb : isDig b = true
    · simp only [hb, if_true] at h ⊢
      have h48 := dig_of hb
      by_cases hc : 0 < b.toNat - 48 ∧ isDig (nextB r) = true ∧ 10 * (b.toNat - 48) + ((nextB r).toNat - 48) ≤ 40
      · rw [if_pos hc] at h ⊢
        dsimp only at h ⊢
        cases r with
        | nil => exact absurd hc.2.1 (by decide)
        | cons c q =>
          have hcd : isDig c = true := hc.2.1
          have h49 := dig_of hcd
          rw [show rest isDig (c :: q) = q from if_pos hcd] at h ⊢
          rw [show nextB (c :: q) = c from rfl]
          rw [Lib.decDigits_two (by omega) (by omega)]
          have e1 : UInt8.ofNat (48 + (10 * (b.toNat - 48) + (c.toNat - 48)) / 10) = b := by
            rw [show 48 + (10 * (b.toNat - 48) + (c.toNat - 48)) / 10 = b.toNat by omega]
            exact UInt8.ofNat_toNat
          have e2 : UInt8.ofNat (48 + (10 * (b.toNat - 48) + (c.toNat - 48)) % 10) = c := by
            rw [show 48 + (10 * (b.toNat - 48) + (c.toNat - 48)) % 10 = c.toNat by omega]
            exact UInt8.ofNat_toNat
          rw [e1, e2, ← takes_eq h]
          rfl
      · rw [if_neg hc] at h ⊢
        dsimp only at h ⊢
        rw [Lib.decDigits_one (by omega), show 48 + (b.toNat - 48) = b.toNat by omega, UInt8.ofNat_toNat, ← takes_eq h]
        rfl
    · simp only [if_neg hb] at h; cases h
theorem takeN_true' : ∀ (n : Nat) (l : List UInt8) (k : Nat), (takeN n l k).1 = true → l = l.take n ++ (takeN n l k).2.1 ∧ (l.take n).length = n ∧ ∀ b ∈ l.take n, okB b = true
  | 0, _, _, _ => ⟨rfl, rfl, fun _ h => by cases h⟩
  | n + 1, l, k, h => by
    unfold takeN at h ⊢
    by_cases ht : takes okB l = true
    · rw [if_pos ht] at h ⊢
      cases l with
      | nil => cases ht
      | cons b r =>
        have hb : okB b = true := ht
        rw [show rest okB (b :: r) = r from if_pos hb] at h ⊢
        obtain ⟨h1, h2, h3⟩ := takeN_true' n _ _ h
        rw [List.take_succ_cons]
        exact ⟨by rw [List.cons_append, ← h1], by rw [List.length_cons, h2], fun c hc => by
          rcases List.mem_cons.1 hc with rfl | hc
          · exact hb
          · exact h3 c hc⟩
    · rw [if_neg ht] at h; cases h
theorem readLine_eq {l : List UInt8} {k : Nat} {x : List UInt8} (h : (readLine l k).1 = some x) : l = Lib.decDigits x.length ++ (58 :: (x ++ (10 :: (readLine l k).2.1))) := by
  have e := @readNum_eq l k
  unfold readLine at h ⊢
  dsimp only at h ⊢
  generalize readNum l k = q at *
  obtain ⟨n, s, l1, k1⟩ := q
  dsimp only at e h ⊢
  cases s
  · simp [runN] at h
  · have e := e rfl
    simp only [runN, if_true] at h ⊢
    by_cases h1 : (takeN n l1 k1).1 = true
    · rw [if_pos h1] at h ⊢
      obtain ⟨a1, a2, _⟩ := takeN_true' n l1 k1 h1
      by_cases h2 : takes (· == 10) (takeN n l1 k1).2.1 = true
      · rw [if_pos h2] at h ⊢
        injection h with h
        subst h
        dsimp only
        rw [a2, ← takes_eq h2, ← a1]
        exact e
      · rw [if_neg h2] at h; cases h
    · rw [if_neg h1] at h; cases h
theorem bts_ba (x : List UInt8) : bts (ba x) = x := by simp [ba]
theorem lines_eq : ∀ (n : Nat) (out : List ByteArray) (l : List UInt8) (k : Nat) (o : List ByteArray) (r : List UInt8) (p : Nat), lines n out l k = .inr (o, r, p) → ∃ fs, o = out ++ fs ∧ l = printed fs ++ r ∧ nextB r = 61
  | 0, _, _, _, _, _, _, h => by cases h
  | n + 1, out, l, k, o, r, p, h => by
    unfold lines at h
    by_cases h1 : nextB l = 61
    · rw [if_pos h1] at h
      injection h with e
      injection e with e1 e2
      injection e2 with e2 e3
      subst e1; subst e2
      exact ⟨[], by simp, rfl, h1⟩
    · rw [if_neg h1] at h
      by_cases h2 : out.length = 24
      · rw [if_pos h2] at h; cases h
      · rw [if_neg h2] at h
        cases hx : (readLine l k).1 with
        | none => rw [hx] at h; cases h
        | some x =>
          simp only [hx] at h
          obtain ⟨fs, e1, e2, e3⟩ := lines_eq n _ _ _ _ _ _ h
          refine ⟨ba x :: fs, by rw [e1, List.append_assoc]; rfl, ?_, e3⟩
          have e := readLine_eq hx
          rw [e2] at e
          rw [e]
          have hs : (ba x).size = x.length := by simp [ba, ByteArray.size]
          simp [printed, hs, bts_ba]
theorem parse_text {t : List UInt8} {g : List ByteArray} {n : Nat} (h : parse t = (g, n, 0)) : n = 0 ∧ text g = t := by
  unfold parse at h
  cases hL : lines 25 [] t 0 with
  | inl x =>
    exfalso
    rw [hL] at h
    have he : x.1 = 0 := congrArg (fun p => p.2.2) h
    have : ∀ (n : Nat) (out : List ByteArray) (l : List UInt8) (k : Nat), ∀ x, lines n out l k = .inl x → x.1 ≠ 0 := by
      intro n
      induction n with
      | zero => intro out l k x h; injection h with h; subst h; exact (by decide : (11 : Int) ≠ 0)
      | succ n ih =>
        intro out l k x h
        unfold lines at h
        split at h
        · cases h
        · split at h
          · injection h with h; subst h; dsimp only; split <;> decide
          · split at h
            · exact ih _ _ _ _ h
            · injection h with h; subst h; exact (by decide : (11 : Int) ≠ 0)
    exact this _ _ _ _ _ hL he
  | inr x =>
    obtain ⟨o, r, p⟩ := x
    rw [hL] at h
    unfold ending at h
    dsimp only at h
    by_cases hc : (matchAll (endOf o) (rest (· == 61) r) (on (· == 61) r p)).1 = true ∧ (matchAll (endOf o) (rest (· == 61) r) (on (· == 61) r p)).2.1 = []
    · rw [if_pos hc] at h
      injection h with h1 h2
      injection h2 with h2 h3
      subst h1
      refine ⟨h2.symm, ?_⟩
      obtain ⟨fs, e1, e2, e3⟩ := lines_eq _ _ _ _ _ _ _ hL
      rw [List.nil_append] at e1
      subst e1
      have h61 : takes (· == 61) r = true := by
        cases r with
        | nil => exact absurd e3 (by decide)
        | cons b q => have : b = 61 := e3; subst this; rfl
      have m := matchAll_eq _ _ _ hc.1
      rw [hc.2, List.append_nil] at m
      unfold text
      rw [← m, ← takes_eq h61, ← e2]
    · rw [if_neg hc] at h
      have := congrArg (fun p => p.2.2) h
      cases this
theorem takes_cons (a : UInt8) (l : List UInt8) : takes (· == a) (a :: l) = true := by simp [takes]
theorem rest_cons (a : UInt8) (l : List UInt8) : rest (· == a) (a :: l) = l := if_pos (by simp)
theorem matchAll_self : ∀ (ws r : List UInt8) (k : Nat), matchAll ws (ws ++ r) k = (true, r, k + ws.length)
  | [], _, _ => rfl
  | a :: ws, r, k => by
    unfold matchAll
    rw [List.cons_append, if_pos (takes_cons _ _), rest_cons, matchAll_self ws]
    unfold on
    rw [if_pos (takes_cons _ _), List.length_cons]
    exact congrArg (fun n => (true, r, n)) (by omega)
theorem readNum_self {n : Nat} (h : n ≤ 40) (r : List UInt8) (k : Nat) : ∃ k', readNum (Lib.decDigits n ++ 58 :: r) k = (n, true, r, k') := by
  by_cases h1 : n < 10
  · rw [Lib.decDigits_one h1]
    have ht : (UInt8.ofNat (48 + n)).toNat = 48 + n := by
      rw [UInt8.toNat_ofNat']; omega
    have hd : isDig (UInt8.ofNat (48 + n)) = true := by simp [isDig, ht]; omega
    refine ⟨k + 1 + 1, ?_⟩
    unfold readNum
    simp only [List.cons_append, List.nil_append, hd, if_true]
    rw [if_neg (by rintro ⟨_, h, _⟩; exact absurd h (by show ¬ isDig 58 = true; decide)), takes_cons, rest_cons, ht]
    unfold on
    rw [if_pos (takes_cons _ _)]
    exact congrArg (fun m => (m, true, r, k + 1 + 1)) (by omega)
  · rw [Lib.decDigits_two h1 (by omega)]
    have ht : (UInt8.ofNat (48 + n / 10)).toNat = 48 + n / 10 := by
      rw [UInt8.toNat_ofNat']; omega
    have ht2 : (UInt8.ofNat (48 + n % 10)).toNat = 48 + n % 10 := by
      rw [UInt8.toNat_ofNat']; omega
    have hd : isDig (UInt8.ofNat (48 + n / 10)) = true := by simp [isDig, ht]; omega
    have hd2 : isDig (UInt8.ofNat (48 + n % 10)) = true := by simp [isDig, ht2]; omega
    refine ⟨k + 1 + 1 + 1, ?_⟩
    unfold readNum
    simp only [List.cons_append, List.nil_append, hd, if_true]
    rw [if_pos ⟨by omega, hd2, by show 10 * _ + ((UInt8.ofNat (48 + n % 10)).toNat - 48) ≤ 40; omega⟩]
    rw [show rest isDig (UInt8.ofNat (48 + n % 10) :: 58 :: r) = 58 :: r from if_pos hd2, takes_cons, rest_cons]
    rw [show nextB (UInt8.ofNat (48 + n % 10) :: 58 :: r) = UInt8.ofNat (48 + n % 10) from rfl, ht, ht2]
    rw [show on isDig (UInt8.ofNat (48 + n % 10) :: 58 :: r) (k + 1) = k + 1 + 1 from if_pos hd2]
    unfold on
    rw [if_pos (takes_cons _ _)]
    exact congrArg (fun m => (m, true, r, k + 1 + 1 + 1)) (by omega)
theorem takeN_self : ∀ (x r : List UInt8) (k : Nat), (∀ b ∈ x, okB b = true) → takeN x.length (x ++ r) k = (true, r, k + x.length)
  | [], _, _, _ => rfl
  | b :: x, r, k, h => by
    have hb : okB b = true := h b (by simp)
    rw [List.length_cons]
    unfold takeN
    rw [List.cons_append, if_pos (show takes okB (b :: (x ++ r)) = true from hb), show rest okB (b :: (x ++ r)) = x ++ r from if_pos hb, takeN_self x r _ (fun c hc => h c (List.mem_cons_of_mem _ hc))]
    rw [show on okB (b :: (x ++ r)) k = k + 1 from if_pos hb]
    exact congrArg (fun n => (true, r, n)) (by omega)
theorem readLine_self {x : List UInt8} (h : x.length ≤ 40) (hx : ∀ b ∈ x, okB b = true) (r : List UInt8) (k : Nat) : ∃ k', readLine (Lib.decDigits x.length ++ 58 :: (x ++ 10 :: r)) k = (some x, r, k') := by
  obtain ⟨k', h1⟩ := readNum_self h (x ++ 10 :: r) k
  unfold readLine
  rw [h1]
  simp only [runN, if_true]
  rw [takeN_self x _ _ hx]
  simp only [if_true, takes_cons, rest_cons]
  exact ⟨_, by rw [List.take_left]⟩
theorem dec_head {n : Nat} (h : n ≤ 40) (r : List UInt8) : nextB (Lib.decDigits n ++ r) ≠ 61 := by
  have : ∀ n : Fin 41, (Lib.decDigits n.val).head? ≠ none ∧ (Lib.decDigits n.val).head? ≠ some 61 := by
    intro n
    by_cases h1 : n.val < 10
    · rw [Lib.decDigits_one h1]
      refine ⟨by simp, fun e => ?_⟩
      have e : UInt8.ofNat (48 + n.val) = 61 := by simpa using e
      have := congrArg UInt8.toNat e
      rw [UInt8.toNat_ofNat'] at this
      have h61 : (61 : UInt8).toNat = 61 := rfl
      omega
    · rw [Lib.decDigits_two h1 (by omega)]
      refine ⟨by simp, fun e => ?_⟩
      have e : UInt8.ofNat (48 + n.val / 10) = 61 := by simpa using e
      have := congrArg UInt8.toNat e
      rw [UInt8.toNat_ofNat'] at this
      have h61 : (61 : UInt8).toNat = 61 := rfl
      omega
  obtain ⟨a, b⟩ := this ⟨n, by omega⟩
  dsimp only at a b
  cases hd : Lib.decDigits n with
  | nil => rw [hd] at a; exact absurd rfl a
  | cons c q =>
    rw [hd] at b
    intro e
    exact b (congrArg some e)
theorem lines_self : ∀ (fs : List ByteArray) (n : Nat) (out : List ByteArray) (r : List UInt8) (k : Nat), fs.length < n → out.length + fs.length ≤ 24 → (∀ s ∈ fs, s.size ≤ 40 ∧ okLine s = true) → ∃ k', lines n out (printed fs ++ 61 :: r) k = .inr (out ++ fs, 61 :: r, k')
  | [], n + 1, out, r, k, _, _, _ => ⟨k, by unfold lines; rw [if_pos (show nextB (printed [] ++ 61 :: r) = 61 from rfl), List.append_nil]; rfl⟩
  | s :: fs, n + 1, out, r, k, hn, hl, hs => by
    simp only [List.length_cons] at hn hl
    obtain ⟨w1, w2⟩ := hs s (by simp)
    have hsz : s.size = (bts s).length := by simp
    have hx : ∀ b ∈ bts s, okB b = true := fun b hb => List.all_eq_true.1 w2 b hb
    obtain ⟨k1, h1⟩ := readLine_self (by omega) hx (printed fs ++ 61 :: r) k
    have e : printed (s :: fs) ++ 61 :: r = Lib.decDigits (bts s).length ++ 58 :: (bts s ++ 10 :: (printed fs ++ 61 :: r)) := by simp [printed]
    obtain ⟨k', h2⟩ := lines_self fs n (out ++ [ba (bts s)]) r k1 (by omega) (by simp; omega) (fun t ht => hs t (List.mem_cons_of_mem _ ht))
    refine ⟨k', ?_⟩
    rw [e]
    unfold lines
    rw [if_neg (dec_head (by omega) _), if_neg (by omega), h1]
    dsimp only
    rw [h2]
    have hb : ba (bts s) = s := by apply ByteArray.ext; simp [ba]
    rw [hb, List.append_assoc]
    rfl
  | _, 0, _, _, _, h, _, _ => by omega
/-- What is printed is parsed to the same file. -/
theorem parse_self {f : List ByteArray} (h : f.length ≤ 24) (hs : ∀ s ∈ f, s.size ≤ 40 ∧ okLine s = true) : parse (text f) = (f, 0, 0) := by
  obtain ⟨k', h1⟩ := lines_self f 25 [] (endOf f) 0 (by omega) (by simpa using h) hs
  unfold parse text
  rw [h1]
  unfold ending
  dsimp only
  have m := matchAll_self (endOf f) [] (on (· == 61) (61 :: endOf f) k')
  rw [List.append_nil] at m
  rw [List.nil_append, rest_cons, m]
  simp
/-- An error of a text: there are no lines, and it is one of three, at a byte or at the end. -/
theorem rest_len (p : UInt8 → Bool) (l : List UInt8) (k : Nat) : on p l k + (rest p l).length = k + l.length := by
  cases l with
  | nil => rfl
  | cons b r =>
    unfold on rest takes
    by_cases h : p b = true
    · simp only [h, if_true, List.length_cons]; omega
    · simp only [h, if_false, Bool.false_eq_true]
theorem takeN_len : ∀ (n : Nat) (l : List UInt8) (k : Nat), (takeN n l k).2.2 + (takeN n l k).2.1.length = k + l.length
  | 0, _, _ => rfl
  | n + 1, l, k => by
    unfold takeN
    split
    · rw [takeN_len n, rest_len]
    · rfl
theorem readNum_len' (l : List UInt8) (k : Nat) : (readNum l k).2.2.2 + (readNum l k).2.2.1.length = k + l.length := by
  cases l with
  | nil => rfl
  | cons b r =>
    unfold readNum
    dsimp only
    split
    · split
      · dsimp only
        rw [rest_len, rest_len, List.length_cons]; omega
      · dsimp only
        rw [rest_len, List.length_cons]; omega
    · rfl
theorem readLine_len' (l : List UInt8) (k : Nat) : (readLine l k).2.2 + (readLine l k).2.1.length = k + l.length := by
  have h1 := readNum_len' l k
  unfold readLine
  dsimp only
  generalize readNum l k = q at *
  obtain ⟨n, s, l1, k1⟩ := q
  dsimp only at h1 ⊢
  have h2 : (runN s n l1 k1).2.2 + (runN s n l1 k1).2.1.length = k1 + l1.length := by
    unfold runN
    split
    · exact takeN_len _ _ _
    · rfl
  generalize runN s n l1 k1 = t at *
  split
  · split
    · dsimp only; rw [rest_len]; omega
    · dsimp only; omega
  · dsimp only; omega
theorem lines_len : ∀ (n : Nat) (out : List ByteArray) (l : List UInt8) (k : Nat), (∀ x, lines n out l k = .inl x → (x.1 = 2 ∨ x.1 = 11) ∧ x.2 ≤ k + l.length) ∧ (∀ o r p, lines n out l k = .inr (o, r, p) → p + r.length = k + l.length)
  | 0, _, _, _ => ⟨fun _ h => by injection h with h; subst h; exact ⟨.inr rfl, Nat.le_add_right _ _⟩, fun _ _ _ h => by cases h⟩
  | n + 1, out, l, k => by
    unfold lines
    split
    · exact ⟨fun _ h => (by cases h), fun o r p e => by injection e with e; injection e with e1 e2; injection e2 with e2 e3; subst e2; subst e3; rfl⟩
    · split
      · refine ⟨fun _ h => ?_, fun _ _ _ h => by cases h⟩
        injection h with h
        subst h
        refine ⟨?_, Nat.le_add_right _ _⟩
        dsimp only
        split
        · exact .inl rfl
        · exact .inr rfl
      · have hl := readLine_len' l k
        split
        · obtain ⟨h1, h2⟩ := lines_len n (out ++ [ba _]) (readLine l k).2.1 (readLine l k).2.2
          exact ⟨fun x h => ⟨(h1 x h).1, by have := (h1 x h).2; omega⟩, fun o r p h => by rw [h2 o r p h, hl]⟩
        · refine ⟨fun _ h => ?_, fun _ _ _ h => by cases h⟩
          injection h with h
          subst h
          exact ⟨.inr rfl, by dsimp only; omega⟩
theorem matchAll_len : ∀ (ws l : List UInt8) (k : Nat), (matchAll ws l k).2.2 + (matchAll ws l k).2.1.length = k + l.length
  | [], _, _ => rfl
  | a :: ws, l, k => by
    unfold matchAll
    split
    · rw [matchAll_len ws, rest_len]
    · rfl
theorem parse_err (t : List UInt8) (h : (parse t).2.2 ≠ 0) : (parse t).1 = [] ∧ (parse t).2.1 ≤ t.length ∧ ((parse t).2.2 = 2 ∨ (parse t).2.2 = 8 ∨ (parse t).2.2 = 11) := by
  obtain ⟨a1, a2⟩ := lines_len 25 [] t 0
  unfold parse at h ⊢
  cases hL : lines 25 [] t 0 with
  | inl x =>
    obtain ⟨b1, b2⟩ := a1 x hL
    refine ⟨rfl, ?_, ?_⟩
    · show x.2 ≤ t.length; omega
    · rcases b1 with b1 | b1
      · exact .inl b1
      · exact .inr (.inr b1)
  | inr x =>
    obtain ⟨o, r, p⟩ := x
    have b := a2 o r p hL
    rw [hL] at h
    unfold ending at h ⊢
    dsimp only at h ⊢
    have m := matchAll_len (endOf o) (rest (· == 61) r) (on (· == 61) r p)
    have q := rest_len (· == 61) r p
    split
    · rename_i hc; rw [if_pos hc] at h; exact absurd rfl h
    · refine ⟨rfl, ?_, .inr (.inl rfl)⟩
      dsimp only
      omega
end File
namespace File
theorem lines_good : ∀ (n : Nat) (out : List ByteArray) (l : List UInt8) (k : Nat) (o : List ByteArray) (r : List UInt8) (p : Nat), Fl.Good out → lines n out l k = .inr (o, r, p) → Fl.Good o
  | 0, _, _, _, _, _, _, _, h => by cases h
  | n + 1, out, l, k, o, r, p, hg, h => by
    unfold lines at h
    by_cases h1 : nextB l = 61
    · rw [if_pos h1] at h
      injection h with e
      injection e with e1 e2
      exact e1 ▸ hg
    · rw [if_neg h1] at h
      by_cases h2 : out.length = 24
      · rw [if_pos h2] at h; cases h
      · rw [if_neg h2] at h
        cases hx : (readLine l k).1 with
        | none => rw [hx] at h; cases h
        | some x =>
          simp only [hx] at h
          have hxg := Fl.readLine_good hx
          have := hg.many
          exact lines_good n _ _ _ _ _ _ (hg.snoc (by omega) hxg.1 hxg.2) h
theorem parse_good {t : List UInt8} {g : List ByteArray} {n : Nat} (h : parse t = (g, n, 0)) : check g = 0 := by
  by_cases he : (parse t).2.2 = 0
  · unfold parse at h he
    cases hL : lines 25 [] t 0 with
    | inl x =>
      rw [hL] at h he
      have := ((lines_len 25 [] t 0).1 x hL).1
      have he : x.1 = 0 := he
      omega
    | inr x =>
      obtain ⟨o, r, p⟩ := x
      rw [hL] at h he
      unfold ending at h he
      dsimp only at h he
      by_cases hc : (matchAll (endOf o) (rest (· == 61) r) (on (· == 61) r p)).1 = true ∧ (matchAll (endOf o) (rest (· == 61) r) (on (· == 61) r p)).2.1 = []
      · rw [if_pos hc] at h
        injection h with h1 h2
        rw [← h1]
        exact Fl.check_of_good (lines_good _ _ _ _ _ _ _ Fl.Good.nil hL)
      · rw [if_neg hc] at he
        exact absurd he (by decide : (8 : Int) ≠ 0)
  · rw [h] at he; exact absurd rfl he
/-- What FileTorn says of one text that begins as the text of a file does. -/
theorem torn {f : List ByteArray} (hf : check f = 0) {t : List UInt8} {i : Nat} (hi : i ≤ (text f).length) (ht : (text f).take i = t.take i) (hl : i ≤ t.length) :
    ((parse t).2.2 ≠ 0 → (parse t).1 = [] ∧ (parse t).2.1 ≤ t.length ∧ ((parse t).2.2 = 2 ∨ (parse t).2.2 = 8 ∨ (parse t).2.2 = 11) ∧ i ≤ (parse t).2.1) ∧
    ((parse t).2.2 = 0 → (parse t).2.1 = 0 ∧ check (parse t).1 = 0 ∧ text (parse t).1 = t ∧ (t = text f ↔ f = (parse t).1)) := by
  have hg := Fl.good_of_check hf
  have hs := parse_self hg.many fun s hs => ⟨hg.wide s hs, hg.ok s hs⟩
  refine ⟨fun he => ?_, fun he => ?_⟩
  · obtain ⟨h1, h2, h3⟩ := parse_err t he
    exact ⟨h1, h2, h3, parse_prefix hs ht he⟩
  · have e : parse t = ((parse t).1, (parse t).2.1, 0) := by rw [← he]
    obtain ⟨h1, h2⟩ := parse_text e
    refine ⟨h1, parse_good e, h2, fun h => ?_, fun h => ?_⟩
    · rw [h, hs]
    · rw [← h2, ← h]
end File
end Go.Proofs.YtkmcacgeecfjgaaGreatDoor
end
section
namespace Go.Proofs.YtkmcacgeecfjgaaGreatDoor
namespace File
theorem pairs_at {α : Type} [DecidableEq α] {a b : List α} : ∀ {l : List (Nat × Nat)} {i j k : Nat} {p : Nat × Nat}, Pairs a b i j l → l[k]? = some p → i ≤ p.1 ∧ j ≤ p.2 ∧ ∃ h1 : p.1 < a.length, ∃ h2 : p.2 < b.length, a[p.1] = b[p.2]
  | [], _, _, _, _, _, h => by simp at h
  | q :: r, i, j, 0, p, ⟨h1, h2, h3, _⟩, h => by
    simp at h; subst h; exact ⟨h1, h2, h3⟩
  | q :: r, i, j, k + 1, p, ⟨h1, h2, _, h4⟩, h => by
    obtain ⟨a1, a2, a3⟩ := pairs_at h4 (show r[k]? = some p by simpa using h)
    exact ⟨by omega, by omega, a3⟩
end File
end Go.Proofs.YtkmcacgeecfjgaaGreatDoor
namespace Go.Proofs.YtkmcacgeecfjgaaGreatDoor
namespace File
/-- The change that keeps just some pairs. -/
def keep (a b : List ByteArray) (own : List (Nat × Nat)) : List (Edit ByteArray) := diffGo a b 0 0 (own ++ [(a.length, b.length)])
end File
end Go.Proofs.YtkmcacgeecfjgaaGreatDoor
end
section
namespace Go.Proofs.YtkmcacgeecfjgaaGreatDoor
namespace File
section
variable {α : Type}
theorem pairs_len {a b : List α} : ∀ {l : List (Nat × Nat)} {i j : Nat}, Pairs a b i j l → l.length ≤ a.length - i
  | [], _, _, _ => Nat.zero_le _
  | q :: r, i, j, ⟨h1, h2, ⟨h3, _⟩, h4⟩ => by
    have := pairs_len h4
    simp only [List.length_cons]
    omega
theorem pairs_all {a b : List α} : ∀ {l : List (Nat × Nat)} {i j : Nat}, Pairs a b i j l → l.length = a.length - i → ∀ k p, l[k]? = some p → p.1 = i + k
  | [], _, _, _, _, _, _, h => by simp at h
  | q :: r, i, j, ⟨h1, h2, ⟨h3, h5⟩, h4⟩, hl, k, p, h => by
    have h6 := pairs_len h4
    simp only [List.length_cons] at hl
    have hq : q.1 = i := by omega
    cases k with
    | zero => simp at h; subst h; omega
    | succ k =>
      have := pairs_all h4 (by omega) k p (by simpa using h)
      omega
/-- Pairs along a list of places that rise. -/
theorem pairs_along {a b : List α} : ∀ {s : List Nat} {i j : Nat}, i + s.length = a.length → (∀ (k p : Nat), s[k]? = some p → j ≤ p ∧ a[i + k]? = b[p]? ∧ p < b.length) → (∀ (k p q : Nat), s[k]? = some p → s[k + 1]? = some q → p < q) → Pairs a b i j (s.zipIdx.map fun z => (i + z.2, z.1))
  | [], _, _, _, _, _ => trivial
  | p :: s, i, j, hl, hs, hr => by
    simp only [List.length_cons] at hl
    obtain ⟨h1, h2, h3⟩ := hs 0 p rfl
    have hi : i < a.length := by omega
    have he : a[i] = b[p] := by
      rw [Nat.add_zero, List.getElem?_eq_getElem hi, List.getElem?_eq_getElem h3] at h2
      exact Option.some.inj h2
    have ih := pairs_along (a := a) (b := b) (s := s) (i := i + 1) (j := p + 1) (by omega) (fun k q hq => by
      obtain ⟨e1, e2, e3⟩ := hs (k + 1) q (by simpa using hq)
      refine ⟨?_, by rw [← e2]; congr 1; omega, e3⟩
      -- rising
      have : ∀ (k : Nat) (q : Nat), s[k]? = some q → p < q := by
        intro k
        induction k with
        | zero => intro q hq; exact hr 0 p q rfl (by simpa using hq)
        | succ k ihk =>
          intro q hq
          obtain ⟨q', hq'⟩ : ∃ q', s[k]? = some q' := ⟨_, List.getElem?_eq_getElem (by have := (List.getElem?_eq_some_iff.1 hq).1; omega)⟩
          have h1 := ihk q' hq'
          have h2 := hr (k + 1) q' q (by simpa using hq') (by simpa using hq)
          omega
      exact this k q hq) (fun k q q' hq hq' => hr (k + 1) q q' (by simpa using hq) (by simpa using hq'))
    rw [List.zipIdx_cons, List.map_cons]
    refine ⟨by show i ≤ i + 0; omega, h1, ⟨by show i + 0 < a.length; omega, h3, ?_⟩, ?_⟩
    · show a[i + 0] = b[p]
      exact he
    · have e : (s.zipIdx (0 + 1)).map (fun z => (i + z.2, z.1)) = s.zipIdx.map fun z => (i + 1 + z.2, z.1) := by
        rw [show s.zipIdx (0 + 1) = s.zipIdx.map fun z => (z.1, z.2 + 1) from (List.zipIdx_succ ..).trans rfl]
        rw [List.map_map]
        apply List.map_congr_left
        intro z _
        show (i + (z.2 + 1), z.1) = (i + 1 + z.2, z.1)
        congr 1; omega
      rw [e]
      exact ih
end
section
variable {α : Type} [DecidableEq α]
/-- Common pairs with a list of different lines are forced. -/
theorem common_along {a b : List α} {s : List Nat} (hl : s.length = a.length) (hs : ∀ (k p : Nat), s[k]? = some p → a[k]? = b[p]? ∧ p < b.length) (hr : ∀ (k p q : Nat), s[k]? = some p → s[k + 1]? = some q → p < q) (hd : ∀ i j : Nat, i < b.length → j < b.length → b[i]? = b[j]? → i = j) :
    common a b = s.zipIdx.map fun z => (z.2, z.1) := by
  have hp := pairs_along (a := a) (b := b) (s := s) (i := 0) (j := 0) (by omega) (fun k p h => ⟨Nat.zero_le _, by rw [Nat.zero_add]; exact (hs k p h).1, (hs k p h).2⟩) hr
  have h1 := pairs_most hp
  have h2 := common_pairs a b
  have h3 := pairs_len h2
  rw [List.length_map, List.length_zipIdx] at h1
  have hlen : (common a b).length = a.length - 0 := by omega
  have h4 := pairs_all h2 hlen
  apply List.ext_getElem?
  intro k
  by_cases hk : k < a.length
  · obtain ⟨p, hpk⟩ : ∃ p, (common a b)[k]? = some p := ⟨_, List.getElem?_eq_getElem (by omega)⟩
    obtain ⟨q, hq⟩ : ∃ q, s[k]? = some q := ⟨_, List.getElem?_eq_getElem (by omega)⟩
    have e1 := h4 k p hpk
    obtain ⟨_, _, x1, x2, x3⟩ := pairs_at h2 hpk
    obtain ⟨y1, y2⟩ := hs k q hq
    have e2 : p.2 = q := hd _ _ x2 y2 (by
      rw [← y1, List.getElem?_eq_getElem x2, ← x3]
      have : p.1 = k := by omega
      subst this
      exact (List.getElem?_eq_getElem x1).symm)
    rw [hpk, List.getElem?_map, List.getElem?_zipIdx, hq]
    obtain ⟨p1, p2⟩ := p
    simp only at e1 e2
    simp [e1, e2]
  · rw [List.getElem?_eq_none (by omega), List.getElem?_eq_none (by rw [List.length_map, List.length_zipIdx]; omega)]
end
section
variable {α : Type}
theorem diag_go {a b : List α} (q : Nat × Nat) : ∀ (n i : Nat), diffGo a b i i ((List.range' i n).map (fun k => (k, k)) ++ [q]) = diffGo a b (i + n) (i + n) [q]
  | 0, i => rfl
  | n + 1, i => by
    rw [List.range'_succ, List.map_cons, List.cons_append]
    show (if i = i ∧ i = i then [] else _) ++ diffGo a b (i + 1) (i + 1) _ = _
    rw [if_pos ⟨rfl, rfl⟩, List.nil_append, diag_go q n (i + 1)]
    congr 1 <;> omega
end
section
variable {α : Type} [DecidableEq α]
/-- The change that puts one line behind all others, which are different from it, and from one another. -/
theorem diff_snoc {a : List α} {x : α} (hd : ∀ i j : Nat, i < (a ++ [x]).length → j < (a ++ [x]).length → (a ++ [x])[i]? = (a ++ [x])[j]? → i = j) : diff a (a ++ [x]) = [⟨(a.length : Int), [], [x]⟩] := by
  have hc : common a (a ++ [x]) = (List.range' 0 a.length).map fun k => (k, k) := by
    rw [common_along (s := List.range' 0 a.length) (by simp) (fun k p h => ?_) (fun k p q h h' => ?_) hd]
    · apply List.ext_getElem?
      intro k
      rw [List.getElem?_map, List.getElem?_map, List.getElem?_zipIdx]
      by_cases hk : k < a.length
      · rw [List.getElem?_range' hk]; simp
      · rw [List.getElem?_eq_none (by simp; omega)]; rfl
    · have hk : k < a.length := by have := (List.getElem?_eq_some_iff.1 h).1; simpa using this
      rw [List.getElem?_range' hk] at h
      have : p = k := by have := Option.some.inj h; omega
      subst this
      exact ⟨by rw [List.getElem?_append_left hk], by simp; omega⟩
    · have hk : k + 1 < a.length := by have := (List.getElem?_eq_some_iff.1 h').1; simpa using this
      rw [List.getElem?_range' (by omega)] at h
      rw [List.getElem?_range' hk] at h'
      have e1 := Option.some.inj h
      have e2 := Option.some.inj h'
      omega
  show diffGo a (a ++ [x]) 0 0 (common a (a ++ [x]) ++ [(a.length, (a ++ [x]).length)]) = _
  rw [hc, diag_go]
  show (if a.length = 0 + a.length ∧ (a ++ [x]).length = 0 + a.length then [] else [(⟨((0 + a.length : Nat) : Int), cut a (0 + a.length) a.length, cut (a ++ [x]) (0 + a.length) (a ++ [x]).length⟩ : Edit α)]) ++ [] = _
  rw [if_neg (by simp), List.append_nil, Nat.zero_add]
  unfold cut
  simp
end
end File
end Go.Proofs.YtkmcacgeecfjgaaGreatDoor
end
section
namespace Go.Proofs.YtkmcacgeecfjgaaGreatDoor
structure Piece where
  b : Int
  s : Int
  e : Int
  deriving DecidableEq, Repr, Inhabited
structure Rule where
  b : Int
  s : Int
  e : Int
  p : Int
  deriving DecidableEq, Repr, Inhabited
namespace Price
def inB (n lo hi : Int) : Bool := decide (lo ≤ n) && decide (n ≤ hi)
def isP (p : Piece) : Bool := inB p.b 0 3 && (inB p.s 0 4 && inB p.e 0 2)
def allowed (r : Rule) : Bool := inB r.b (-1) 3 && (inB r.s (-1) 4 && (inB r.e (-1) 2 && inB r.p 0 500))
def fits (n h : Int) : Bool := decide (n = -1) || decide (n = h)
def holds (r : Rule) (p : Piece) : Bool := fits r.b p.b && (fits r.s p.s && fits r.e p.e)
def one (n : Int) : Int := if n = -1 then 0 else 1
def many (r : Rule) : Int := one r.b + one r.s + one r.e
def greatest (l : List Int) : Int := l.foldl max 0
/-- Does the rule stand among those ahead of it? -/
def dupIn (pre l : List Rule) : Bool := match l with
  | [] => false
  | r :: l => pre.contains r || dupIn (pre ++ [r]) l
def check (l : List Rule) : Int :=
  if l.length > 8 then 2 else if l.all allowed then (if dupIn [] l then 5 else 0) else 3
def held (l : List Rule) (p : Piece) : List Int := (l.filter (holds · p)).map many
def countsFrom (most : Int) (p : Piece) (l : List Rule) (i : Int) : List Int := match l with
  | [] => []
  | r :: l => if holds r p && decide (many r = most) then i :: countsFrom most p l (i + 1) else countsFrom most p l (i + 1)
def counts (l : List Rule) (p : Piece) : List Int := countsFrom (greatest (held l p)) p l 0
def prices (l : List Rule) (p : Piece) : List Int := (counts l p).map fun i => (l.getD i.toNat default).p
def pricedOf (ps : List Int) : Int × Int := match ps with
  | [] => (0, 6)
  | x :: xs => if xs.all (fun y => y == x) then (x, 0) else (0, 7)
def priced (l : List Rule) (p : Piece) : Int × Int := pricedOf (prices l p)
theorem countsFrom_mem (most : Int) (p : Piece) : ∀ (l : List Rule) (i j : Int), j ∈ countsFrom most p l i → i ≤ j ∧ j < i + l.length := by
  intro l
  induction l with
  | nil => intro i j h; simp [countsFrom] at h
  | cons r l ih =>
    intro i j h
    simp only [countsFrom] at h
    simp only [List.length_cons]
    split at h
    · rcases List.mem_cons.1 h with h | h
      · omega
      · have := ih _ _ h; omega
    · have := ih _ _ h; omega
theorem counts_mem {l : List Rule} {p : Piece} {j : Int} (h : j ∈ counts l p) : 0 ≤ j ∧ j < l.length := by
  have := countsFrom_mem _ _ _ _ _ h; omega
theorem countsFrom_length (most : Int) (p : Piece) : ∀ (l : List Rule) (i : Int), (countsFrom most p l i).length ≤ l.length := by
  intro l
  induction l with
  | nil => intro i; simp [countsFrom]
  | cons r l ih =>
    intro i
    simp only [countsFrom]
    have := ih (i + 1)
    split <;> simp <;> omega
theorem counts_length (l : List Rule) (p : Piece) : (counts l p).length ≤ l.length := countsFrom_length _ _ _ _
theorem check_prices {l : List Rule} (h : check l = 0) : ∀ r ∈ l, 0 ≤ r.p ∧ r.p ≤ 500 := by
  intro r hr
  unfold check at h
  split at h
  · cases h
  · split at h
    · rename_i ha
      have := List.all_eq_true.1 ha r hr
      simp only [allowed, inB, Bool.and_eq_true, decide_eq_true_eq] at this
      exact this.2.2.2
    · cases h
theorem check_length {l : List Rule} (h : check l = 0) : l.length ≤ 8 := by
  unfold check at h
  split at h
  · cases h
  · omega
end Price
end Go.Proofs.YtkmcacgeecfjgaaGreatDoor
end
section
namespace Go.Proofs.YtkmcacgeecfjgaaGreatDoor
namespace Fl
open Go.RowKit Go.Shelf
set_option maxRecDepth 100000
theorem bits_mask (x : Int) : ∃ r : Nat, bits .and .i64 x 65535 = (r : Int) ∧ r ≤ 65535 := by
  have h : (BitVec.ofInt 64 x &&& BitVec.ofInt 64 65535).toNat ≤ 65535 := by
    rw [BitVec.toNat_and]
    exact Nat.le_trans Nat.and_le_right (by decide)
  refine ⟨(BitVec.ofInt 64 x &&& BitVec.ofInt 64 65535).toNat, ?_, h⟩
  show IntKind.i64.wrap (((BitVec.ofInt 64 x &&& BitVec.ofInt 64 65535).toNat : Nat) : Int) = _
  exact IntWalk.i64_in _ (by omega)
theorem turn_nil (w : World) (g : Nat) (A : Option Addr) (c k : Nat) (st : Int) (h : Blk w g 73 #[.slice A 0 c, iv k, .int .u64 st]) (hk : k < 4611686018427387904) :
    Calls Tryz.prog 96 #[.pointer (some ⟨g, 0, none⟩)] w fun e w' => ∃ (r : Nat) (st' : Int), e = .returned (iv r) ∧ r ≤ 65535 ∧ Blk w' g 73 #[.slice A 0 c, iv (k + 1 : Nat), .int .u64 st'] ∧ Only g w w' := by
  have h0 := h.cell 0
  have h1 := h.cell 1
  have h2 := h.cell 2
  have f1 := h.frozen
  have hk1 : IntKind.i64.wrap ((k : Int) + 1) = ((k + 1 : Nat) : Int) := IntWalk.i64_in _ (by omega)
  have hk3 : (0 : Int) < (k : Int) + 1 := by omega
  have HH := Lib.hid h
  clear h
  go_enter Tryz.func96, Tryz.ntmps96
  go_wp2
  go_region
  go_wp2
  go_region
  go_wp2
  obtain ⟨r, hr, hr2⟩ := bits_mask (wrap64 (bits .xor .u64 (IntKind.u64.wrap (IntKind.u64.wrap (st * 1103515245) + 12345) / 8) (IntKind.u64.wrap (IntKind.u64.wrap (st * 1103515245) + 12345) / 524288)))
  rw [hr]
  go_ret
  refine ⟨r, _, rfl, hr2, (HH.out.set_ 1 (.int .i64 ((k : Int) + 1))).set_ 2 (.int .u64 (IntKind.u64.wrap (IntKind.u64.wrap (st * 1103515245) + 12345))), ((Only.set_ g 1 w _).trans (Only.set_ g 2 _ _)).drew.drew⟩
def byteE : Enc Int := ⟨fun x => [.int .u8 x], 1, fun _ => rfl, fun _ u h => by simp at h; subst h; rfl, by decide⟩
theorem turn_cons (w : World) (g : Nat) (b off n c k : Nat) (y st : Int) (h : Blk w g 73 #[.slice (some ⟨b, off, none⟩) n c, iv k, .int .u64 st]) (hk : k < 4611686018427387904) (hn : 0 < n) (hy : w.cell? ⟨b, off + k % n, none⟩ = some (.int .u8 y)) (hbg : b ≠ g) :
    Calls Tryz.prog 96 #[.pointer (some ⟨g, 0, none⟩)] w fun e w' => ∃ (r : Nat) (st' : Int), e = .returned (iv r) ∧ r ≤ 65535 ∧ Blk w' g 73 #[.slice (some ⟨b, off, none⟩) n c, iv (k + 1 : Nat), .int .u64 st'] ∧ Only g w w' := by
  have h0 := h.cell 0
  have h1 := h.cell 1
  have h2 := h.cell 2
  have f1 := h.frozen
  have hk1 : IntKind.i64.wrap ((k : Int) + 1) = ((k + 1 : Nat) : Int) := IntWalk.i64_in _ (by omega)
  have hn' : (0 : Int) < (n : Int) := by omega
  have hn0 : ¬ (n : Int) = 0 := by omega
  have hm : (k : Int).tmod (n : Int) = ((k % n : Nat) : Int) := by rw [Int.tmod_eq_emod_of_nonneg (by omega)]; rfl
  have hlt : k % n < n := Nat.mod_lt _ hn
  have hgb : ¬ g = b := fun e => hbg e.symm
  have HH := Lib.hid h
  clear h
  by_cases hkn : (n : Int) < (k : Int) + 1
  · go_enter Tryz.func96, Tryz.ntmps96
    go_wp2
    go_region
    go_wp2
    go_region
    go_wp2
    go_region
    go_wp2
    go_ret
    refine ⟨(bits_mask _).choose, IntKind.u64.wrap (IntKind.u64.wrap (IntKind.u64.wrap (st + IntKind.u64.wrap (IntKind.u64.wrap y * 977)) * 1103515245) + 12345), ret_eq (congrArg (Value.int .i64) (bits_mask _).choose_spec.1), (bits_mask _).choose_spec.2, ?b, ?o⟩
    case b => exact ((HH.out.set_ 2 (.int .u64 (IntKind.u64.wrap (st + IntKind.u64.wrap (IntKind.u64.wrap y * 977))))).set_ 1 (.int .i64 ((k : Int) + 1))).set_ 2 (.int .u64 (IntKind.u64.wrap (IntKind.u64.wrap (IntKind.u64.wrap (st + IntKind.u64.wrap (IntKind.u64.wrap y * 977)) * 1103515245) + 12345)))
    case o => exact (((Only.set_ g 2 w _).trans (Only.set_ g 1 _ _)).trans (Only.set_ g 2 _ _)).drew.drew.drew
  · have hkm : ¬ (n : Int) < ((k + 1 : Nat) : Int) := by omega
    go_enter Tryz.func96, Tryz.ntmps96
    go_wp2
    go_region
    go_wp2
    go_region
    go_wp2
    go_region
    go_wp2
    go_ret
    refine ⟨(bits_mask _).choose, IntKind.u64.wrap (st + IntKind.u64.wrap (IntKind.u64.wrap y * 977)), ret_eq (congrArg (Value.int .i64) (bits_mask _).choose_spec.1), (bits_mask _).choose_spec.2, ?b, ?o⟩
    case b => exact (HH.out.set_ 2 (.int .u64 (IntKind.u64.wrap (st + IntKind.u64.wrap (IntKind.u64.wrap y * 977))))).set_ 1 (.int .i64 ((k : Int) + 1))
    case o => exact ((Only.set_ g 2 w _).trans (Only.set_ g 1 _ _)).drew.drew.drew
/-- Block g is a spool that has given k numbers; it and its bytes lie below B. -/
def IsSpool (B : Nat) (w : World) (g k : Nat) : Prop := g < B ∧ B ≤ w.heap.size ∧ ∃ A n c st, Blk w g 73 #[.slice A n c, iv k, .int .u64 st] ∧ (0 < n → ∃ b off, A = some ⟨b, off, none⟩ ∧ b ≠ g ∧ b < B ∧ ∀ i, i < n → ∃ y, w.cell? ⟨b, off + i, none⟩ = some (.int .u8 y))
theorem IsSpool.keep {B : Nat} {w w' : World} {g k : Nat} (h : IsSpool B w g k) (hz : w.heap.size ≤ w'.heap.size) (hk : ∀ b, b < B → w'.heap[b]? = w.heap[b]?) : IsSpool B w' g k := by
  obtain ⟨hg, hB, A, n, c, st, hb, hs⟩ := h
  refine ⟨hg, Nat.le_trans hB hz, A, n, c, st, (hk g hg).trans hb, fun hn => ?_⟩
  obtain ⟨b, off, hA, hbg, hbl, hc⟩ := hs hn
  refine ⟨b, off, hA, hbg, hbl, fun i hi => ?_⟩
  obtain ⟨y, hy⟩ := hc i hi
  exact ⟨y, by rw [World.cell?_of_block (w := w) (hk b hbl)]; exact hy⟩
theorem IsSpool.below {B B' : Nat} {w w' : World} {g k : Nat} (h : IsSpool B w g k) (hb : Below B' w w') (hB : B ≤ B') : IsSpool B w' g k := h.keep hb.size fun b hl => hb.block b (by omega)
theorem Only.setCell {g : Nat} {w w' : World} (h : Only g w w') {p : Addr} (hg : g ≤ p.block) (hp : w.heap.size ≤ p.block) (v : Value) : Only g w (w'.setCell p v) :=
  ⟨h.below.setCell hg v, fun b hb hne => (Below.heap_setCell w' p v b (by omega)).trans (h.other b hb hne)⟩
theorem Only.nextB {g B : Nat} {w w1 w2 : World} (h : Only g w w1) (hb : Below B w1 w2) (hg : g ≤ B) (hB : w.heap.size ≤ B) : Only g w w2 :=
  ⟨h.below.trans (hb.mono hg), fun b hl hne => (hb.block b (by omega)).trans (h.other b hl hne)⟩
theorem turn_spec (B : Nat) (w : World) (g k : Nat) (h : IsSpool B w g k) (hk : k < 4611686018427387904) :
    Calls Tryz.prog 96 #[.pointer (some ⟨g, 0, none⟩)] w fun e w' => ∃ r : Nat, e = .returned (iv r) ∧ r ≤ 65535 ∧ IsSpool B w' g (k + 1) ∧ Only g w w' := by
  obtain ⟨hg, hB, A, n, c, st, hb, hs⟩ := h
  by_cases hn : n = 0
  · subst hn
    refine (turn_nil w g A c k st hb hk).mono ?_
    rintro e w' ⟨r, st', rfl, hr, hb', ho⟩
    exact ⟨r, rfl, hr, ⟨hg, Nat.le_trans hB ho.below.size, A, 0, c, st', hb', fun h => absurd h (by omega)⟩, ho⟩
  · have hn0 : 0 < n := Nat.pos_of_ne_zero hn
    obtain ⟨b, off, rfl, hbg, hbl, hc⟩ := hs hn0
    obtain ⟨y, hy⟩ := hc (k % n) (Nat.mod_lt _ hn0)
    refine (turn_cons w g b off n c k y st hb hk hn0 hy hbg).mono ?_
    rintro e w' ⟨r, st', rfl, hr, hb', ho⟩
    refine ⟨r, rfl, hr, ⟨hg, Nat.le_trans hB ho.below.size, _, n, c, st', hb', fun _ => ⟨b, off, rfl, hbg, hbl, fun i hi => ?_⟩⟩, ho⟩
    obtain ⟨y', hy'⟩ := hc i hi
    exact ⟨y', by rw [World.cell?_of_block (w := w) (ho.other b (by omega) hbg)]; exact hy'⟩
theorem upto_spec (B : Nat) (w : World) (g k : Nat) (n : Nat) (h : IsSpool B w g k) (hk : k < 4611686018427387904) (hn : n ≤ 1000000) :
    Calls Tryz.prog 33 #[.pointer (some ⟨g, 0, none⟩), iv n] w fun e w' => ∃ r : Nat, e = .returned (iv r) ∧ r ≤ n ∧ IsSpool B w' g (k + 1) ∧ Only g w w' := by
  have hn1 : IntKind.i64.wrap ((n : Int) + 1) = ((n + 1 : Nat) : Int) := IntWalk.i64_in _ (by omega)
  have hmx : max (1 : Int) ((n : Int) + 1) = ((n + 1 : Nat) : Int) := by omega
  have HT := Lib.hid (turn_spec B w g k h hk)
  go_enter Tryz.func33, Tryz.ntmps33
  go_wp2_with (go_at_call 96; refine HT.out.mono ?_; rintro e w1 ⟨r, rfl, hr, hsp, ho⟩; have hne : ¬ (n : Int) + 1 = 0 := by omega)
  go_ret
  have hm : (r : Int) % ((n : Int) + 1) = ((r % (n + 1) : Nat) : Int) := by push_cast; rfl
  exact ⟨r % (n + 1), ret_eq (congrArg (Value.int .i64) hm), by have := Nat.mod_lt r (show 0 < n + 1 by omega); omega, hsp, ho⟩
theorem from_spec (B : Nat) (w : World) (g k lo hi : Nat) (h : IsSpool B w g k) (hk : k < 4611686018427387904) (hl : lo ≤ hi) (hn : hi ≤ 1000000) :
    Calls Tryz.prog 7 #[.pointer (some ⟨g, 0, none⟩), iv lo, iv hi] w fun e w' => ∃ r : Nat, e = .returned (iv r) ∧ lo ≤ r ∧ r ≤ hi ∧ IsSpool B w' g (k + 1) ∧ Only g w w' := by
  have HU := Lib.hid (upto_spec B w g k (hi - lo) h hk (by omega))
  have hs : (hi : Int) - (lo : Int) = ((hi - lo : Nat) : Int) := by omega
  have hs1 : IntKind.i64.wrap ((hi : Int) - (lo : Int)) = ((hi - lo : Nat) : Int) := by rw [hs]; exact IntWalk.i64_in _ (by omega)
  go_enter Tryz.func7, Tryz.ntmps7
  go_wp2_with (go_at_call 33; (try rw [hs]); refine HU.out.mono ?_; rintro e w1 ⟨r, rfl, hr, hsp, ho⟩; have hs2 : IntKind.i64.wrap ((lo : Int) + (r : Int)) = ((lo + r : Nat) : Int) := IntWalk.i64_in _ (by omega))
  go_ret
  exact ⟨lo + r, by first | rfl | (push_cast; rfl), by omega, by omega, hsp, ho⟩
theorem once_spec (B : Nat) (w : World) (g k n : Nat) (h : IsSpool B w g k) (hk : k < 4611686018427387904) (hl : 1 ≤ n) (hn : n ≤ 1000000) :
    Calls Tryz.prog 32 #[.pointer (some ⟨g, 0, none⟩), iv n] w fun e w' => ∃ b : Bool, e = .returned (.bool b) ∧ IsSpool B w' g (k + 1) ∧ Only g w w' := by
  have HU := Lib.hid (upto_spec B w g k (n - 1) h hk (by omega))
  have hs : (n : Int) - 1 = ((n - 1 : Nat) : Int) := by omega
  go_enter Tryz.func32, Tryz.ntmps32
  go_wp2_with (go_at_call 33; (try rw [hs]); refine HU.out.mono ?_; rintro e w1 ⟨r, rfl, hr, hsp, ho⟩)
  go_ret
  exact ⟨_, rfl, hsp, ho⟩
theorem wound_spec (A : Option Addr) (bs : List Int) (c : Nat) (w : World) (hs : Sl byteE w A bs) :
    Calls Tryz.prog 6 #[.slice A bs.length c] w fun e w' => ∃ g, e = .returned (.pointer (some ⟨g, 0, none⟩)) ∧ g = w.heap.size ∧ IsSpool (g + 1) w' g 0 ∧ Below w.heap.size w w' := by
  go_enter Tryz.func6, Tryz.ntmps6
  go_wp2
  go_ret
  refine ⟨w.heap.size, rfl, rfl, ⟨by omega, by simp, A, bs.length, c, IntKind.u64.wrap bs.length, Blk.new _ _ _, fun hn => ?_⟩, (Below.refl _ _).alloc (Nat.le_refl _) _⟩
  have hne : bs ≠ [] := fun e => by rw [e] at hn; simp at hn
  obtain ⟨b, off, rfl, hb, hc⟩ := hs hne
  refine ⟨b, off, rfl, by omega, by omega, fun i hi => ⟨bs[i], ?_⟩⟩
  have := hc i bs[i] (List.getElem?_eq_getElem hi) 0 (.int .u8 bs[i]) rfl
  rw [World.cell?_of_block (w := w) (Below.heap_alloc w _ b hb)]
  simpa [byteE] using this
end Fl
end Go.Proofs.YtkmcacgeecfjgaaGreatDoor
end
section
namespace Go.Proofs.YtkmcacgeecfjgaaGreatDoor
namespace Fl
open Go.RowKit Go.Shelf
set_option maxRecDepth 100000
theorem conv_run {w : World} {A : Option Addr} {xs : List Int} {c : Nat} (h : Sl byteE w A xs) : (convert 22 9 (.slice A xs.length c)).run Tryz.prog w = .ok (.string (strOfNums xs)) w := by
  cases A with
  | none =>
    have hx : xs = [] := by
      by_cases h0 : xs = []
      · exact h0
      · obtain ⟨b, off, hA, _⟩ := h h0
        cases hA
    subst hx
    exact run_convert_bytes_nil w _ 5 Tryz.underlying22 Tryz.underlying5 _ _ _ Tryz.underlying9
  | some a =>
    by_cases h0 : xs = []
    · subst h0
      exact run_convert_bytes_back w _ _ 5 a c [] Tryz.underlying22 Tryz.underlying5 Tryz.underlying9 (fun j hj => absurd hj (by simp))
    · obtain ⟨b, off, hA, hb, hc⟩ := h h0
      injection hA with hA
      subst hA
      refine run_convert_bytes_arg w _ 5 Tryz.underlying22 Tryz.underlying5 b off _ c xs rfl (fun i hi => ?_) _ Tryz.underlying9
      have := hc i xs[i] (List.getElem?_eq_getElem hi) 0 (.int .u8 xs[i]) rfl
      simpa [byteE, List.getD, List.getElem?_eq_getElem hi] using this
end Fl
end Go.Proofs.YtkmcacgeecfjgaaGreatDoor
namespace Go.Proofs.YtkmcacgeecfjgaaGreatDoor
namespace Fl
open Go.RowKit Go.Shelf
set_option maxRecDepth 100000
abbrev LnOk (s : ByteArray) : Prop := File.okLine s = true ∧ s.size ≤ 40
end Fl
end Go.Proofs.YtkmcacgeecfjgaaGreatDoor
end
section
namespace Go.Proofs.YtkmcacgeecfjgaaGreatDoor
namespace File
/-- A number as two letters. -/
def two (n : Int) : ByteArray := strOfNums [97 + (n + 1) % 26, 97 + (n + 1) / 26 % 26]
/-- A rule as a line. -/
def rline (r : Rule) : ByteArray := (((⟨#[]⟩ ++ two r.b) ++ two r.s) ++ two r.e) ++ two r.p
theorem two_size (n : Int) : (two n).size = 2 := by unfold two; rw [strOfNums_size]; rfl
theorem two_inj {n m : Int} (hn : -1 ≤ n ∧ n ≤ 600) (hm : -1 ≤ m ∧ m ≤ 600) (h : two n = two m) : n = m := by
  unfold two at h
  have h2 := congrArg (fun b : ByteArray => b.data.toList) h
  simp only [strOfNums_data, List.map_cons, List.map_nil, List.cons.injEq, and_true] at h2
  obtain ⟨h3, h4⟩ := h2
  have key : ∀ a b : Nat, a < 256 → b < 256 → UInt8.ofNat a = UInt8.ofNat b → a = b := fun a b ha hb e => by
    have := congrArg UInt8.toNat e
    simpa [Nat.mod_eq_of_lt ha, Nat.mod_eq_of_lt hb] using this
  have k1 := key _ _ (by omega) (by omega) h3
  have k2 := key _ _ (by omega) (by omega) h4
  omega
theorem app_inj {a b c d : ByteArray} (h : a ++ b = c ++ d) (hs : b.size = d.size) : a = c ∧ b = d := by
  have h2 : a.data ++ b.data = c.data ++ d.data := by
    have := congrArg ByteArray.data h
    simpa using this
  have h3 : a.data.toList ++ b.data.toList = c.data.toList ++ d.data.toList := by
    have := congrArg Array.toList h2
    simpa using this
  have hl : b.data.toList.length = d.data.toList.length := by
    have : b.data.size = d.data.size := hs
    simpa using this
  obtain ⟨e1, e2⟩ := List.append_inj' h3 hl
  exact ⟨by cases a; cases c; simp_all [Array.ext_iff], by cases b; cases d; simp_all⟩
theorem rline_inj {r q : Rule} (hr : ∀ n ∈ [r.b, r.s, r.e, r.p], -1 ≤ n ∧ n ≤ 600) (hq : ∀ n ∈ [q.b, q.s, q.e, q.p], -1 ≤ n ∧ n ≤ 600) (h : rline r = rline q) : r = q := by
  obtain ⟨rb, rs, re, rp⟩ := r
  obtain ⟨qb, qs, qe, qp⟩ := q
  unfold rline at h
  simp only at h hr hq
  obtain ⟨h, h4⟩ := app_inj h (by rw [two_size, two_size])
  obtain ⟨h, h3⟩ := app_inj h (by rw [two_size, two_size])
  obtain ⟨h, h2⟩ := app_inj h (by rw [two_size, two_size])
  obtain ⟨h, h1⟩ := app_inj h (by rw [two_size, two_size])
  rw [two_inj (hr rb (by simp)) (hq qb (by simp)) h1, two_inj (hr rs (by simp)) (hq qs (by simp)) h2, two_inj (hr re (by simp)) (hq qe (by simp)) h3, two_inj (hr rp (by simp)) (hq qp (by simp)) h4]
end File
end Go.Proofs.YtkmcacgeecfjgaaGreatDoor
end
section
namespace Go.Proofs.YtkmcacgeecfjgaaGreatDoor
open Go.RowKit
def ruleE : Enc Rule := ⟨fun p => [iv p.b, iv p.s, iv p.e, iv p.p], 4, fun _ => rfl, fun _ u h => by simp at h; rcases h with rfl | rfl | rfl | rfl <;> rfl, by decide⟩
abbrev Piece.v (p : Piece) : Value := .agg #[iv p.b, iv p.s, iv p.e]
abbrev Rule.v (r : Rule) : Value := .agg #[iv r.b, iv r.s, iv r.e, iv r.p]
theorem tyInts : SlTy Tryz.prog 33 3 1 := slTy_of (z := iv 0) (bytes := 8) Tryz.underlying33 (by kernel_rfl) rfl (by decide)
theorem Sl.getR {w : World} {A : Option Addr} {xs : List Rule} {k : Nat} (h : Sl ruleE w A xs) (hk : k < xs.length) :
    ∃ b off, A = some ⟨b, off, none⟩ ∧ b < w.heap.size ∧ w.cell? ⟨b, off + k * 4, none⟩ = some (iv xs[k].b) ∧ w.cell? ⟨b, off + k * 4 + 1, none⟩ = some (iv xs[k].s) ∧
      w.cell? ⟨b, off + k * 4 + 2, none⟩ = some (iv xs[k].e) ∧ w.cell? ⟨b, off + k * 4 + 3, none⟩ = some (iv xs[k].p) := by
  obtain ⟨b, off, hA, hb, hc⟩ := h.get hk
  exact ⟨b, off, hA, hb, hc 0 _ rfl, hc 1 _ rfl, hc 2 _ rfl, hc 3 _ rfl⟩
theorem Sl.atR {w : World} {A : Option Addr} {xs : List Rule} {k : Nat} (h : Sl ruleE w A xs) (hk : k < xs.length) :
    ∃ b off x, A = some ⟨b, off, none⟩ ∧ b < w.heap.size ∧ xs[k]? = some x ∧ w.cell? ⟨b, off + k * 4, none⟩ = some (iv x.b) ∧ w.cell? ⟨b, off + k * 4 + 1, none⟩ = some (iv x.s) ∧
      w.cell? ⟨b, off + k * 4 + 2, none⟩ = some (iv x.e) ∧ w.cell? ⟨b, off + k * 4 + 3, none⟩ = some (iv x.p) := by
  obtain ⟨b, off, x, hA, hb, hx, hc⟩ := h.at_ hk
  exact ⟨b, off, x, hA, hb, hx, hc 0 _ rfl, hc 1 _ rfl, hc 2 _ rfl, hc 3 _ rfl⟩
theorem in_spec (n lo hi : Int) (w : World) : Calls Tryz.prog 156 #[iv n, iv lo, iv hi] w
    fun e w' => e = .returned (.bool (Price.inB n lo hi)) ∧ w = w' := by
  by_cases h1 : lo ≤ n <;> by_cases h2 : n ≤ hi
  all_goals
    go_enter Tryz.func156, Tryz.ntmps156
    go_wp2
    go_ret
    exact ⟨by simp [Price.inB, *], rfl⟩
theorem names_spec (r : Rule) (w : World) : Calls Tryz.prog 100 #[r.v] w
    fun e w' => e = .returned (.agg #[iv r.b, iv r.s, iv r.e]) ∧ Below w.heap.size w w' := by
  obtain ⟨a, b, c, p⟩ := r
  go_enter Tryz.func100, Tryz.ntmps100
  go_wp2
  exact bodyPost_ret (v := .agg #[iv a, iv b, iv c]) (by simp [results, go_sem]) rfl ⟨rfl, ((Below.refl _ _).alloc (Nat.le_refl _) _).alloc (by simp) _⟩
theorem has_spec (r : Piece) (w : World) : Calls Tryz.prog 186 #[r.v] w
    fun e w' => e = .returned (.agg #[iv r.b, iv r.s, iv r.e]) ∧ Below w.heap.size w w' := by
  obtain ⟨a, b, c⟩ := r
  go_enter Tryz.func186, Tryz.ntmps186
  go_wp2
  exact bodyPost_ret (v := .agg #[iv a, iv b, iv c]) (by simp [results, go_sem]) rfl ⟨rfl, ((Below.refl _ _).alloc (Nat.le_refl _) _).alloc (by simp) _⟩
theorem greatest_spec (A : Option Addr) (xs : List Int) (c : Nat) (w : World) (hm : xs.length ≤ big) (hs : Sl intE w A xs) :
    Calls Tryz.prog 178 #[.slice A xs.length c] w fun e w' => e = .returned (iv (Price.greatest xs)) ∧ w = w' := by
  unfold big at hm
  go_enter Tryz.func178, Tryz.ntmps178
  go_wp2
  go_loop [3, 5, 8] (fun g m i => ∃ (k : Nat) (a : Int), k ≤ xs.length ∧ i = iv k ∧ g = iv a ∧ Hid ((xs.drop k).foldl max a = Price.greatest xs)) (fun _ _ i => xs.length - (intOf i).toNat)
  case atStart => exact ⟨0, 0, by omega, rfl, rfl, rfl⟩
  case round =>
    obtain ⟨k, a, hk, rfl, rfl, hf⟩ := hrel
    by_cases hlt : k < xs.length
    · obtain ⟨b, off, rfl, hb, hc⟩ := hs.getI hlt
      go_wp2
      go_round
      case rel => exact ⟨k + 1, _, by omega, by go_num, rfl, by have := hf.out; rw [drop_step hlt] at this; show _ = _; (rw [← this, List.foldl_cons, Int.max_def]) <;> (congr 1 <;> (split <;> split <;> omega))⟩
      case measure => simp [intOf]; omega
    · go_wp2
      go_ret
      exact ⟨by have := hf.out; rw [drop_end hlt] at this; exact ret_eq (by rw [← this]; rfl), rfl⟩
theorem idx0 (a b c : Int) (w : World) : (Instr.index 157 (.agg #[iv a, iv b, iv c]) (.int .i64 0)).run Tryz.prog w = .ok (iv a) w := by kernel_rfl
theorem idx1 (a b c : Int) (w : World) : (Instr.index 157 (.agg #[iv a, iv b, iv c]) (.int .i64 1)).run Tryz.prog w = .ok (iv b) w := by kernel_rfl
theorem idx2 (a b c : Int) (w : World) : (Instr.index 157 (.agg #[iv a, iv b, iv c]) (.int .i64 2)).run Tryz.prog w = .ok (iv c) w := by kernel_rfl
theorem allowed_spec (p : Rule) (w : World) : Calls Tryz.prog 99 #[p.v] w
    fun e w' => e = .returned (.bool (Price.allowed p)) ∧ Below w.heap.size w w' := by
  obtain ⟨a, b, c, d⟩ := p
  cases h1 : Price.inB a (-1) 3 <;> cases h2 : Price.inB b (-1) 4 <;> cases h3 : Price.inB c (-1) 2 <;> cases h4 : Price.inB d 0 500
  all_goals
    go_enter Tryz.func99, Tryz.ntmps99
    go_wp2_with (go_at_call 156; refine (in_spec _ _ _ _).mono ?_; rintro e w' ⟨rfl, rfl⟩)
    go_ret
    exact ⟨ret_eq (by simp [Price.allowed, h1, h2, h3, h4]), (Below.refl _ _).alloc (Nat.le_refl _) _⟩
set_option maxRecDepth 100000 in
theorem many_spec (r : Rule) (w : World) : Calls Tryz.prog 177 #[r.v] w
    fun e w' => e = .returned (iv (Price.many r)) ∧ Below w.heap.size w w' := by
  obtain ⟨a, b, c, p⟩ := r
  have i0 := idx0; have i1 := idx1; have i2 := idx2
  by_cases h1 : a = -1 <;> by_cases h2 : b = -1 <;> by_cases h3 : c = -1 <;> (try subst h1) <;> (try subst h2) <;> (try subst h3)
  all_goals
    go_enter Tryz.func177, Tryz.ntmps177
    go_wp2_with (go_at_call 100; refine (names_spec ⟨_, _, _, p⟩ _).mono ?_; rintro e w1 ⟨rfl, hb⟩)
    refine wp_loop_rounds 4 ?_
    rw [rounds_succ]; go_wp2
    rw [rounds_succ]; go_wp2
    rw [rounds_succ]; go_wp2
    rw [rounds_succ]; go_wp2
    go_ret
    exact ⟨ret_eq (by simp [Price.many, Price.one, *]), (((Below.refl _ _).alloc (Nat.le_refl _) _).trans (hb.mono (by simp)))⟩
end Go.Proofs.YtkmcacgeecfjgaaGreatDoor
namespace Go.Proofs.YtkmcacgeecfjgaaGreatDoor
open Go.RowKit
theorem three (a x : Int) (P : Prop) (h1 : a = -1 → P) (h2 : a = x → (a != -1) = true → P) (h3 : (a != -1) = true → (a != x) = true → P) : P := by
  by_cases h : a = -1
  · exact h1 h
  · by_cases h' : a = x
    · exact h2 h' (by simpa using h)
    · exact h3 (by simpa using h) (by simpa using h')
set_option maxRecDepth 100000 in
set_option maxHeartbeats 4000000 in
theorem holds_spec (r : Rule) (q : Piece) (w : World) : Calls Tryz.prog 176 #[r.v, q.v] w
    fun e w' => e = .returned (.bool (Price.holds r q)) ∧ Below w.heap.size w w' := by
  obtain ⟨a, b, c, p⟩ := r
  obtain ⟨x, y, z⟩ := q
  have i0 := idx0; have i1 := idx1; have i2 := idx2
  have fin : ∀ {w1 w2 : World} {X Y Z : Obj}, Below ((w.alloc X).alloc Y).heap.size ((w.alloc X).alloc Y) w1 → Below (w1.alloc Z).heap.size (w1.alloc Z) w2 → Below w.heap.size w w2 := fun {w1 w2 X Y Z} h1 h2 => by
    have hz := h1.size
    simp only [World.size_alloc] at hz
    exact ((((Below.refl _ _).alloc (Nat.le_refl _) X).alloc (by simp) Y).trans (h1.mono (by simp; omega))).trans (((Below.refl _ _).alloc (by omega) Z).trans (h2.mono (by simp; omega)))
  refine three a x _ (fun h1 => ?_) (fun h1 g1 => ?_) (fun g1 h1 => ?_)
  rotate_right
  · go_enter Tryz.func176, Tryz.ntmps176
    go_wp2_with (first
      | (go_at_call 186; refine (has_spec ⟨_, _, _⟩ _).mono ?_; rintro e w1 ⟨rfl, hb⟩; obtain ⟨k0, k0f, k0l, k0e, k0n, k0x⟩ := aft hb (w.heap.size) (by (try simp [go_sem]); (try omega)); (try simp [go_sem] at k0 k0f); obtain ⟨k1, k1f, k1l, k1e, k1n, k1x⟩ := aft hb (w.heap.size+1) (by (try simp [go_sem]); (try omega)); (try simp [go_sem] at k1 k1f))
      | (go_at_call 100; refine (names_spec ⟨_, _, _, p⟩ _).mono ?_; rintro e w2 ⟨rfl, hb2⟩; obtain ⟨m, mf, ml, me, mn, mx⟩ := aft hb2 (w1.heap.size) (by (try simp [go_sem]); (try omega)); (try simp [go_sem] at m mf)))
    refine wp_loop_rounds 4 ?_
    repeat (rw [rounds_succ]; go_wp2)
    go_ret
    exact ⟨ret_eq (by clear hb hb2 fin i0 i1 i2; (try simp only [bne_iff_ne] at *); simp [Price.holds, Price.fits, *]), fin hb hb2⟩
  all_goals
    subst h1
    refine three b y _ (fun h2 => ?_) (fun h2 g2 => ?_) (fun g2 h2 => ?_)
    rotate_right
    · go_enter Tryz.func176, Tryz.ntmps176
      go_wp2_with (first
        | (go_at_call 186; refine (has_spec ⟨_, _, _⟩ _).mono ?_; rintro e w1 ⟨rfl, hb⟩; obtain ⟨k0, k0f, k0l, k0e, k0n, k0x⟩ := aft hb (w.heap.size) (by (try simp [go_sem]); (try omega)); (try simp [go_sem] at k0 k0f); obtain ⟨k1, k1f, k1l, k1e, k1n, k1x⟩ := aft hb (w.heap.size+1) (by (try simp [go_sem]); (try omega)); (try simp [go_sem] at k1 k1f))
        | (go_at_call 100; refine (names_spec ⟨_, _, _, p⟩ _).mono ?_; rintro e w2 ⟨rfl, hb2⟩; obtain ⟨m, mf, ml, me, mn, mx⟩ := aft hb2 (w1.heap.size) (by (try simp [go_sem]); (try omega)); (try simp [go_sem] at m mf)))
      refine wp_loop_rounds 4 ?_
      repeat (rw [rounds_succ]; go_wp2)
      go_ret
      exact ⟨ret_eq (by clear hb hb2 fin i0 i1 i2; (try simp only [bne_iff_ne] at *); simp [Price.holds, Price.fits, *]), fin hb hb2⟩
    all_goals
      subst h2
      refine three c z _ (fun h3 => ?_) (fun h3 g3 => ?_) (fun g3 h3 => ?_)
      rotate_right
      · go_enter Tryz.func176, Tryz.ntmps176
        go_wp2_with (first
          | (go_at_call 186; refine (has_spec ⟨_, _, _⟩ _).mono ?_; rintro e w1 ⟨rfl, hb⟩; obtain ⟨k0, k0f, k0l, k0e, k0n, k0x⟩ := aft hb (w.heap.size) (by (try simp [go_sem]); (try omega)); (try simp [go_sem] at k0 k0f); obtain ⟨k1, k1f, k1l, k1e, k1n, k1x⟩ := aft hb (w.heap.size+1) (by (try simp [go_sem]); (try omega)); (try simp [go_sem] at k1 k1f))
          | (go_at_call 100; refine (names_spec ⟨_, _, _, p⟩ _).mono ?_; rintro e w2 ⟨rfl, hb2⟩; obtain ⟨m, mf, ml, me, mn, mx⟩ := aft hb2 (w1.heap.size) (by (try simp [go_sem]); (try omega)); (try simp [go_sem] at m mf)))
        refine wp_loop_rounds 4 ?_
        repeat (rw [rounds_succ]; go_wp2)
        go_ret
        exact ⟨ret_eq (by clear hb hb2 fin i0 i1 i2; (try simp only [bne_iff_ne] at *); simp [Price.holds, Price.fits, *]), fin hb hb2⟩
      all_goals
        subst h3
        go_enter Tryz.func176, Tryz.ntmps176
        go_wp2_with (first
          | (go_at_call 186; refine (has_spec ⟨_, _, _⟩ _).mono ?_; rintro e w1 ⟨rfl, hb⟩; obtain ⟨k0, k0f, k0l, k0e, k0n, k0x⟩ := aft hb (w.heap.size) (by (try simp [go_sem]); (try omega)); (try simp [go_sem] at k0 k0f); obtain ⟨k1, k1f, k1l, k1e, k1n, k1x⟩ := aft hb (w.heap.size+1) (by (try simp [go_sem]); (try omega)); (try simp [go_sem] at k1 k1f))
          | (go_at_call 100; refine (names_spec ⟨_, _, _, p⟩ _).mono ?_; rintro e w2 ⟨rfl, hb2⟩; obtain ⟨m, mf, ml, me, mn, mx⟩ := aft hb2 (w1.heap.size) (by (try simp [go_sem]); (try omega)); (try simp [go_sem] at m mf)))
        refine wp_loop_rounds 4 ?_
        repeat (rw [rounds_succ]; go_wp2)
        go_ret
        exact ⟨ret_eq (by clear hb hb2 fin i0 i1 i2; (try simp only [bne_iff_ne] at *); simp [Price.holds, Price.fits, *]), fin hb hb2⟩
end Go.Proofs.YtkmcacgeecfjgaaGreatDoor
namespace Go.Proofs.YtkmcacgeecfjgaaGreatDoor
open Go.RowKit
set_option maxRecDepth 100000 in
set_option maxHeartbeats 4000000 in
theorem counts_spec (A : Option Addr) (l : List Rule) (c : Nat) (q : Piece) (w : World) (hm : l.length ≤ big) (hs : Sl ruleE w A l) :
    Calls Tryz.prog 158 #[.slice A l.length c, q.v] w
    fun e w' => ∃ v, e = .returned v ∧ Own intE 3 w.heap.size w' v (Price.counts l q) ∧ Below w.heap.size w w' := by
  obtain ⟨x, y, z⟩ := q
  unfold big at hm
  go_enter Tryz.func158, Tryz.ntmps158
  go_wp2
  go_loopw [5, 14] (fun v i wr => ∃ (k : Nat) (acc : List Int), k ≤ l.length ∧ i = iv k ∧ Own intE 3 (w.heap.size + 1) wr v acc ∧ Hid (acc ++ Price.held (l.drop k) ⟨x, y, z⟩ = Price.held l ⟨x, y, z⟩) ∧ acc.length ≤ k ∧
      Below (w.heap.size + 1) (w.alloc (.cells #[iv x, iv y, iv z] 78)) wr) (fun _ i _ => l.length - (intOf i).toNat)
  case atStart => exact ⟨0, [], by omega, rfl, Own.nil, rfl, by simp, Below.refl _ _⟩
  case round =>
    obtain ⟨k, acc, hk, rfl, hown, hf, hacc, hbw⟩ := hrel
    obtain ⟨k0, k0f, k0l, k0e, k0n, k0x⟩ := aft hbw (w.heap.size) (by (try simp [go_sem]); (try omega)); (try simp [go_sem] at k0 k0f)
    have hs' := (hs.alloc (.cells #[iv x, iv y, iv z] 78)).below (by simpa using hbw)
    by_cases hlt : k < l.length
    · obtain ⟨b, off, rfl, hb, hc0, hc1, hc2, hc3⟩ := hs'.getR hlt
      have hd : Price.held (l.drop k) ⟨x, y, z⟩ = if Price.holds l[k] ⟨x, y, z⟩ then Price.many l[k] :: Price.held (l.drop (k + 1)) ⟨x, y, z⟩ else Price.held (l.drop (k + 1)) ⟨x, y, z⟩ := by
        rw [drop_step hlt]; unfold Price.held; rw [List.filter_cons]; split <;> rfl
      have Hd := Lib.hid hd
      clear hd
      cases hh : Price.holds l[k] ⟨x, y, z⟩
      · go_wp2_with (go_at_call 176; refine (holds_spec l[k] ⟨x, y, z⟩ _).mono ?_; rintro e w1 ⟨rfl, hb1⟩)
        go_roundw
        case rel => exact ⟨k + 1, acc, by omega, by go_num, hown.below hb1.of_alloc, by rw [Hd.out, hh] at hf; exact hf, by omega, hbw.next hb1.of_alloc (by simp)⟩
        case measure => simp [intOf]; omega
      · go_wp2_with (first
          | (go_at_call 176; refine (holds_spec l[k] ⟨x, y, z⟩ _).mono ?_; rintro e w1 ⟨rfl, hb1⟩; obtain ⟨m0, m0f, m0l, m0e, m0n, m0x⟩ := aft hb1 (wr.heap.size) (by (try simp [go_sem]); (try omega)); (try simp [go_sem] at m0 m0f))
          | (go_at_call 177; refine (many_spec l[k] _).mono ?_; rintro e w2 ⟨rfl, hb2⟩)
          | (at_builtin; refine wpApp1 intE tyInts rfl _ _ rfl (((hown.below hb1.of_alloc).below hb2)) (Price.many l[k]) rfl rfl rfl (by have := hbw.size; have := hb1.size; have := hb2.size; simp at *; omega) (by unfold big; omega) ?_; intro v' w3 hown3 hb3 _))
        go_roundw
        case rel => exact ⟨k + 1, acc ++ [Price.many l[k]], by omega, by go_num, hown3, by rw [Hd.out, hh] at hf; simpa using hf, by simp; omega, (((hbw.next hb1.of_alloc (by simp)).next hb2 (by simp)).trans hb3)⟩
        case measure => simp [intOf]; omega
    · have he : acc = Price.held l ⟨x, y, z⟩ := by have := hf.out; rw [drop_end hlt] at this; simpa [Price.held] using this
      have hl : (Price.held l ⟨x, y, z⟩).length ≤ l.length := by rw [← he]; omega
      rw [he] at hown
      clear he hf hacc
      obtain ⟨A1, c1, rfl, _, _⟩ := hown.form
      have hs1 := hown.sl
      go_wp2_with (go_at_call 178; refine (greatest_spec A1 (Price.held l ⟨x, y, z⟩) c1 wr (by unfold big; omega) hs1).mono ?_; rintro e w1 ⟨rfl, rfl⟩)
      obtain ⟨most, hmost⟩ : ∃ most, most = Price.greatest (Price.held l ⟨x, y, z⟩) := ⟨_, rfl⟩
      rw [← hmost]
      have Hmost := Lib.hid hmost
      clear hmost hs1 hown k0f k0x k0e k0n
      obtain ⟨wo, rfl⟩ : ∃ wo : World, wo = wr := ⟨_, rfl⟩
      go_loopw [9, 31] (fun v i w2 => ∃ (k : Nat) (acc : List Int), k ≤ l.length ∧ i = iv k ∧ Own intE 3 wo.heap.size w2 v acc ∧ Hid (acc ++ Price.countsFrom most ⟨x, y, z⟩ (l.drop k) k = Price.counts l ⟨x, y, z⟩) ∧ acc.length ≤ k ∧
        Below wo.heap.size wo w2) (fun _ i _ => l.length - (intOf i).toNat)
      case atStart => exact ⟨0, [], by omega, rfl, Own.nil, by rw [Hmost.out]; rfl, by simp, Below.refl _ _⟩
      case round =>
        obtain ⟨k, acc, hk, rfl, hown, hf, hacc, hb2⟩ := hrel
        obtain ⟨j0, j0f, j0l, j0e, j0n, j0x⟩ := aft hb2 (w.heap.size) (by (try simp [go_sem]); (try omega)); (try simp [go_sem] at j0 j0f)
        have hs2 := hs'.below hb2
        by_cases hlt : k < l.length
        · obtain ⟨b, off, rfl, hb, hc0, hc1, hc2, hc3⟩ := hs2.getR hlt
          have hd : Price.countsFrom most ⟨x, y, z⟩ (l.drop k) k = if Price.holds l[k] ⟨x, y, z⟩ && decide (Price.many l[k] = most) then (k : Int) :: Price.countsFrom most ⟨x, y, z⟩ (l.drop (k + 1)) (k + 1) else Price.countsFrom most ⟨x, y, z⟩ (l.drop (k + 1)) (k + 1) := by
            rw [drop_step hlt]; rfl
          have Hd := Lib.hid hd
          clear hd
          cases hh : Price.holds l[k] ⟨x, y, z⟩
          · go_wp2_with (go_at_call 176; refine (holds_spec l[k] ⟨x, y, z⟩ _).mono ?_; rintro e w3 ⟨rfl, hb3⟩)
            go_roundw
            case rel => exact ⟨k + 1, acc, by omega, by go_num, hown.below hb3.of_alloc, by rw [Hd.out, hh] at hf; exact hf, by omega, hb2.next hb3.of_alloc (by simp)⟩
            case measure => simp [intOf]; omega
          · cases hq : (Price.many l[k] == most)
            · go_wp2_with (first
                | (go_at_call 176; refine (holds_spec l[k] ⟨x, y, z⟩ _).mono ?_; rintro e w3 ⟨rfl, hb3⟩; obtain ⟨m0, m0f, m0l, m0e, m0n, m0x⟩ := aft hb3 (wr.heap.size) (by (try simp [go_sem]); (try omega)); (try simp [go_sem] at m0 m0f))
                | (go_at_call 177; refine (many_spec l[k] _).mono ?_; rintro e w4 ⟨rfl, hb4⟩))
              go_roundw
              case rel => exact ⟨k + 1, acc, by omega, by go_num, (hown.below hb3.of_alloc).below hb4, by rw [Hd.out, hh] at hf; simpa [by simpa using hq] using hf, by omega, (hb2.next hb3.of_alloc (by simp)).next hb4 (by simp)⟩
              case measure => simp [intOf]; omega
            · go_wp2_with (first
                | (go_at_call 176; refine (holds_spec l[k] ⟨x, y, z⟩ _).mono ?_; rintro e w3 ⟨rfl, hb3⟩; obtain ⟨m0, m0f, m0l, m0e, m0n, m0x⟩ := aft hb3 (wr.heap.size) (by (try simp [go_sem]); (try omega)); (try simp [go_sem] at m0 m0f))
                | (go_at_call 177; refine (many_spec l[k] _).mono ?_; rintro e w4 ⟨rfl, hb4⟩)
                | (at_builtin; refine wpApp1 intE tyInts rfl _ _ rfl (((hown.below hb3.of_alloc).below hb4)) (k : Int) rfl rfl rfl (by have := hb2.size; have := hb3.size; have := hb4.size; simp at *; omega) (by unfold big; omega) ?_; intro v' w5 hown5 hb5 _))
              go_roundw
              case rel => exact ⟨k + 1, acc ++ [(k : Int)], by omega, by go_num, hown5, by rw [Hd.out, hh] at hf; simpa [by simpa using hq] using hf, by simp; omega, (((hb2.next hb3.of_alloc (by simp)).next hb4 (by simp)).trans hb5)⟩
              case measure => simp [intOf]; omega
        · go_wp2
          go_ret
          have he : acc = Price.counts l ⟨x, y, z⟩ := by have := hf.out; rw [drop_end hlt] at this; simpa [Price.countsFrom] using this
          rw [he] at hown
          exact ⟨_, rfl, hown.base (Nat.le_of_lt k0l), (((Below.refl _ _).alloc (Nat.le_refl _) _).trans (hbw.mono (by omega))).next hb2 (by omega)⟩
end Go.Proofs.YtkmcacgeecfjgaaGreatDoor
end
section
namespace Go.Proofs.YtkmcacgeecfjgaaGreatDoor
open Go.RowKit Go.Maps
/-- Block b is a map of at most n entries, whose keys are ds. -/
def MapKeys (P : Program) (t : TypeId) (w : World) (b n : Nat) (ds : List Int) (D : DataW Unit) : Prop :=
  w.ownsMap P t (plainElem P t) b n D ∧ Tidy D ∧ (∀ x, has D (.int .i64 x) = ds.contains x) ∧ size D = ds.length
def addNew (ds : List Int) (x : Int) : List Int := if ds.contains x then ds else ds ++ [x]
section
variable {P : Program} {t : TypeId} {w w' : World} {b n : Nat} {ds : List Int} {D : DataW Unit}
theorem MapKeys.made : MapKeys P t (w.alloc (.map #[] 0)) w.heap.size 0 [] (.map []) := ⟨World.ownsMap_made _ _ _ _, tidy_empty, fun _ => rfl, rfl⟩
theorem MapKeys.below (h : MapKeys P t w b n ds D) (hb : Below w.heap.size w w') : MapKeys P t w' b n ds D :=
  ⟨h.1.kept (row := none) ⟨hb.os, hb.tape, hb.output, hb.size, fun k hk _ => hb.block k hk⟩ (by simp), h.2⟩
theorem grownBy_trans {row : Option Nat} {w0 w1 w2 : World} (h : w0.grownBy w1 row) (h' : w1.grownBy w2 row) : w0.grownBy w2 row :=
  ⟨h'.os.trans h.os, h'.tape.trans h.tape, h'.output.trans h.output, Nat.le_trans h.size h'.size, fun k hk hr => (h'.block k (Nat.lt_of_lt_of_le hk h.size) hr).trans (h.block k hk hr)⟩
theorem MapKeys.block (h : MapKeys P t w b n ds D) : ∃ es ck, w.heap[b]? = some (.map es ck) := by
  obtain ⟨⟨es, ck, hh, _⟩, _⟩ := h
  exact ⟨es, ck, hh⟩
theorem Sl.grownMap {α : Type} {E : Enc α} {A : Option Addr} {xs : List α} (h : Sl E w A xs) (hm : MapKeys P t w b n ds D) (hg : w.grownBy w' (some b)) : Sl E w' A xs := fun hx => by
  obtain ⟨g, off, hA, hb, hc⟩ := h hx
  obtain ⟨es, ck, hh⟩ := hm.block
  refine ⟨g, off, hA, Nat.lt_of_lt_of_le hb hg.size, fun i x hi j u hu => ?_⟩
  have h1 := hc i x hi j u hu
  refine hg.cell h1 ?_
  intro e
  injection e with e
  simp only at e
  subst e
  simp [World.cell?, hh] at h1
theorem isKeyInt {x : Int} (hw : (Lit.int .i64 x).wf = true) : WideAt.IsKeyLit (.int .i64 x) := by
  first | exact .inl ⟨_, _, rfl⟩ | simp [WideAt.IsKeyLit] | trivial
theorem MapKeys.put {x : Int} {d : DataW Unit} (h : MapKeys P t w b n ds D) (hw : (Lit.int .i64 x).wf = true) (h' : w'.ownsMap P t (plainElem P t) b (n + 1) (D.put (.int .i64 x) d)) :
    MapKeys P t w' b (n + 1) (addNew ds x) (D.put (.int .i64 x) d) := by
  obtain ⟨_, ht, hh, hs⟩ := h
  have hk := isKeyInt hw
  refine ⟨h', ht.put hk d, fun y => ?_, ?_⟩
  · by_cases hy : y = x
    · subst hy
      rw [has_put_same ht.isMap hk]
      unfold addNew
      split
      · rename_i h; exact h.symm
      · simp
    · rw [has_put_other (by intro e; injection e with _ e; exact hy e), hh]
      unfold addNew
      split
      · rfl
      · have : (x == y) = false := by simp; exact fun e => hy e.symm
        simp [this, hy]
  · rw [size_put ht, hh, hs]
    unfold addNew
    split <;> simp
end
end Go.Proofs.YtkmcacgeecfjgaaGreatDoor
end
section
namespace Go.Proofs.YtkmcacgeecfjgaaGreatDoor
open Go.RowKit Go.Maps
theorem keyedInt : Keyed Tryz.prog 3 := int_keyed Tryz.underlying3
theorem zeroInt (w : World) : (zeroValue 3).run Tryz.prog w = .ok (.int .i64 0) w := by kernel_rfl
def dis (ps : List Int) : List Int := ps.foldl addNew []
theorem dis_snoc (ps : List Int) (x : Int) : dis (ps ++ [x]) = addNew (dis ps) x := by simp [dis, List.foldl_append]
theorem addNew_hit {ds : List Int} {x : Int} (h : x ∈ ds) : addNew ds x = ds := by simp [addNew, h]
theorem foldl_hit (x : Int) : ∀ (xs ds : List Int), (∀ y ∈ xs, y = x) → x ∈ ds → xs.foldl addNew ds = ds := by
  intro xs
  induction xs with
  | nil => intros; rfl
  | cons y xs ih =>
    intro ds h hx
    have hy := h y List.mem_cons_self
    subst hy
    rw [List.foldl_cons, addNew_hit hx]
    exact ih ds (fun z hz => h z (List.mem_cons_of_mem _ hz)) hx
theorem addNew_sub {ds : List Int} {x y : Int} (h : y ∈ ds) : y ∈ addNew ds x := by unfold addNew; split <;> simp [h]
theorem addNew_self {ds : List Int} {x : Int} : x ∈ addNew ds x := by unfold addNew; split <;> simp_all
theorem foldl_sub : ∀ (xs ds : List Int) (y : Int), y ∈ ds ∨ y ∈ xs → y ∈ xs.foldl addNew ds := by
  intro xs
  induction xs with
  | nil => intro ds y h; simpa using h
  | cons x xs ih =>
    intro ds y h
    rw [List.foldl_cons]
    refine ih _ _ ?_
    rcases h with h | h
    · exact .inl (addNew_sub h)
    · rcases List.mem_cons.1 h with rfl | h
      · exact .inl addNew_self
      · exact .inr h
theorem dis_one (x : Int) (xs : List Int) : (dis (x :: xs)).length = 1 ↔ xs.all (fun y => y == x) = true := by
  have h0 : dis (x :: xs) = xs.foldl addNew [x] := rfl
  rw [h0]
  constructor
  · intro h
    rw [List.all_eq_true]
    intro y hy
    have hx := foldl_sub xs [x] x (.inl (by simp))
    have hy' := foldl_sub xs [x] y (.inr hy)
    match hm : xs.foldl addNew [x], h with
    | [z], _ => rw [hm] at hx hy'; simp at hx hy'; simp [hx, hy']
  · intro h
    rw [foldl_hit x xs [x] (fun y hy => by have := List.all_eq_true.1 h y hy; simpa using this) (by simp)]
    rfl
theorem dis_pos (x : Int) (xs : List Int) : (dis (x :: xs)).length ≠ 0 := by
  intro h
  have := foldl_sub xs [x] x (.inl (by simp))
  have h0 : dis (x :: xs) = xs.foldl addNew [x] := rfl
  rw [h0] at h
  rw [List.eq_nil_of_length_eq_zero h] at this
  cases this
theorem last_all {x : Int} {xs : List Int} (h : xs.all (fun y => y == x) = true) : (x :: xs).getLastD 0 = x := by
  induction xs with
  | nil => rfl
  | cons y ys ih =>
    simp only [List.all_cons, Bool.and_eq_true, beq_iff_eq] at h
    obtain ⟨rfl, h⟩ := h
    have := ih h
    simpa using this
set_option maxRecDepth 100000 in
set_option maxHeartbeats 4000000 in
theorem priced_spec (A : Option Addr) (l : List Rule) (c : Nat) (q : Piece) (w : World) (hm : l.length ≤ big) (hs : Sl ruleE w A l) (hp : ∀ r ∈ l, 0 ≤ r.p ∧ r.p ≤ 500) :
    Calls Tryz.prog 104 #[.slice A l.length c, q.v] w
    fun e w' => e = .returned (.tuple #[iv (Price.priced l q).1, iv (Price.priced l q).2]) ∧ Below w.heap.size w w' := by
  obtain ⟨x, y, z⟩ := q
  unfold big at hm
  have hmm := @run_makeMap Tryz.prog
  go_enter Tryz.func104, Tryz.ntmps104
  go_wp2_with (go_at_call 158; refine (counts_spec A l c ⟨x, y, z⟩ _ hm ((hs.alloc _).alloc _)).mono ?_; rintro e w1 ⟨v, rfl, hown, hb1⟩; obtain ⟨A1, c1, rfl, _, _⟩ := hown.form; have hs1 := hown.sl)
  have hmem : ∀ j ∈ Price.counts l ⟨x, y, z⟩, 0 ≤ j ∧ j < (l.length : Int) := fun j h => Price.counts_mem h
  have hlen := Price.counts_length l ⟨x, y, z⟩
  obtain ⟨ps, hps⟩ : ∃ ps, ps = Price.prices l ⟨x, y, z⟩ := ⟨_, rfl⟩
  have HP : Hid (ps = Price.prices l ⟨x, y, z⟩) := hps
  have hpl : ps.length = (Price.counts l ⟨x, y, z⟩).length := by rw [hps]; simp [Price.prices]
  have hpg : ∀ k j r, (Price.counts l ⟨x, y, z⟩)[k]? = some j → l[j.toNat]? = some r → ps.take (k + 1) = ps.take k ++ [r.p] := fun k j r h h' => by
    rw [take_at (x := r.p) (by rw [hps]; simp [Price.prices, h, h'])]
  have HPL := Lib.hid hpl
  have HPG := Lib.hid hpg
  clear hps hpl hpg
  generalize Price.counts l ⟨x, y, z⟩ = cs at *
  have hmk : MapKeys Tryz.prog 3 ((w.alloc (.cells #[iv x, iv y, iv z] 78)).alloc (.map #[] 0)) (w.heap.size + 1) 0 [] (.map []) := by
    have := MapKeys.made (P := Tryz.prog) (t := 3) (w := w.alloc (.cells #[iv x, iv y, iv z] 78))
    simpa using this
  have hmk1 := hmk.below hb1
  have hs0 := hs.below (hb1.of_alloc.of_alloc)
  clear hmk
  go_loopw [7, 15] (fun v i wr => ∃ (k : Nat) (p : Int) (D : DataW Unit), k ≤ cs.length ∧ i = iv k ∧ v = iv p ∧ Hid (p = (ps.take k).getLastD 0) ∧ MapKeys Tryz.prog 3 wr (w.heap.size + 1) k (dis (ps.take k)) D ∧ w1.grownBy wr (some (w.heap.size + 1))) (fun _ i _ => cs.length - (intOf i).toNat)
  case atStart => exact ⟨0, 0, _, by omega, rfl, rfl, rfl, hmk1, World.grownBy.refl _ _⟩
  case round =>
    obtain ⟨k, p, D, hk, rfl, rfl, hpr, hmr, hg⟩ := hrel
    have hs2 := hs0.grownMap hmk1 hg
    have hs3 := hs1.grownMap hmk1 hg
    by_cases hlt : k < cs.length
    · obtain ⟨b, off, j, rfl, hb, hjk, hc⟩ := hs3.atI hlt
      obtain ⟨hj0, hj1⟩ := hmem _ (mem_at hjk)
      obtain ⟨b', off', r, rfl, hb', hr, hc0, hc1, hc2, hc3⟩ := hs2.atR (k := j.toNat) (by omega)
      have hpw := hp r (mem_at hr)
      have hG := HPG.out k j r hjk hr
      obtain ⟨_, _, _, pr⟩ := r
      dsimp only at hpw hG hc3
      clear hjk hr
      have HG := Lib.hid hG
      clear hG hc0 hc1 hc2
      have hkey : keyOf Tryz.prog 3 (.int .i64 pr) = some (.int .i64 pr) := keyOf_int_mk Tryz.underlying3 (WalkArith.wf_i64 (by omega))
      have hown := hmr.1
      go_wp2_with (first
        | (at_lookup; refine wpList_lookup_own_int _ rfl _ _ 216 rfl 3 3 .i64 keyedInt Tryz.underlying216 Tryz.underlying3 (zeroInt _) (w.heap.size + 1) k _ rfl hown _ _ rfl hkey ?_; intro c0 hat hwc)
        | (at_mapUpdate; refine wpList_mapUpdate_own _ rfl _ _ _ 216 rfl 3 3 keyedInt Tryz.underlying216 _ (w.heap.size + 1) k _ rfl hown (by unfold maxLen; omega) _ _ _ rfl rfl hkey _ [] (plainElem_int Tryz.underlying3 (wrap64_wf _)) ?_; intro w3 hown3 hgrow3))
      go_roundw
      case rel => exact ⟨k + 1, pr, _, by omega, by go_num, rfl, by rw [HG.out]; exact List.getLastD_concat.symm, by rw [HG.out, dis_snoc]; exact hmr.put (WalkArith.wf_i64 (by omega)) hown3, grownBy_trans hg hgrow3⟩
      case measure => simp [intOf]; omega
    · have he : k = cs.length := by omega
      have hpk : ps.take k = ps := List.take_of_length_le (by have := HPL.out; omega)
      rw [hpk] at hpr hmr
      have hown := hmr.1
      have hsz := hmr.2.2.2
      have hbf : Below w.heap.size w wr := by
        have h1 : Below w.heap.size w w1 := hb1.of_alloc.of_alloc
        exact h1.trans ⟨hg.os, hg.tape, hg.output, hg.size, fun b hb => hg.block b (by have := h1.size; omega) (by intro e; injection e with e; omega)⟩
      have hpe : Price.priced l ⟨x, y, z⟩ = Price.pricedOf ps := by rw [HP.out]; rfl
      clear hmr hg hs2 hs3 hs0 hs1 hmk1 HPG hpk HP HPL
      generalize hn : size D = n at hsz
      have HN := Lib.hid hn
      have hval : (n = 0 → Price.pricedOf ps = (0, 6)) ∧ (n = 1 → Price.pricedOf ps = (p, 0)) ∧ (n ≠ 0 → n ≠ 1 → Price.pricedOf ps = (0, 7)) := by
        have hpr' := hpr.out
        cases ps with
        | nil => subst hsz; exact ⟨fun _ => rfl, (fun h => by cases h), fun h => absurd rfl h⟩
        | cons x0 xs =>
          have h1 := dis_one x0 xs
          have h0 := dis_pos x0 xs
          refine ⟨fun h => absurd (hsz ▸ h) h0, fun h => ?_, fun _ h => ?_⟩
          · have ha := h1.1 (hsz ▸ h)
            rw [last_all ha] at hpr'
            simp only [Price.pricedOf, ha, if_true, hpr']
          · have ha : ¬ (xs.all fun y => y == x0) = true := fun e => h (hsz.trans (h1.2 e))
            simp only [Price.pricedOf, ha, if_false]
            rfl
      rw [← hpe] at hval
      clear hn hsz hpr hpe
      have HV := Lib.hid hval
      clear hval
      by_cases h0 : n = 0
      · have V1 := Lib.hid (HV.out.1 h0)
        subst h0
        go_wp2_with (at_len; refine wpList_len_own _ rfl _ 216 rfl 3 3 Tryz.underlying216 _ (w.heap.size + 1) k D rfl hown ?_; rw [HN.out])
        go_ret2
        exact ⟨(by rw [V1.out]; try rfl), hbf⟩
      · by_cases h1 : n = 1
        · have V2 := Lib.hid (HV.out.2.1 h1)
          subst h1
          go_wp2_with (at_len; refine wpList_len_own _ rfl _ 216 rfl 3 3 Tryz.underlying216 _ (w.heap.size + 1) k D rfl hown ?_; rw [HN.out])
          go_ret2
          exact ⟨(by rw [V2.out]; try rfl), hbf⟩
        · have V3 := Lib.hid (HV.out.2.2 h0 h1)
          go_wp2_with (at_len; refine wpList_len_own _ rfl _ 216 rfl 3 3 Tryz.underlying216 _ (w.heap.size + 1) k D rfl hown ?_; rw [HN.out])
          go_ret2
          exact ⟨(by rw [V3.out]; try rfl), hbf⟩
end Go.Proofs.YtkmcacgeecfjgaaGreatDoor
end
section
namespace Go.Proofs.YtkmcacgeecfjgaaGreatDoor
open Go.RowKit
set_option maxRecDepth 100000 in
theorem indexR (A : Option Addr) (l : List Rule) (c : Nat) (K : Nat) (cap : Array Value) (p : Rule → Bool) (w : World) (hm : l.length ≤ big) (hs : Sl ruleE w A l)
    (hf : IsPred Tryz.prog w K cap Rule.v l p) :
    Calls Tryz.prog 175 #[.slice A l.length c, .func (.func K) #[] cap] w
    fun e w' => e = .returned (iv (findFrom p l 0)) ∧ Below w.heap.size w w' := by
  unfold big at hm
  obtain ⟨hK, hf⟩ := hf
  have HF := Lib.hid hf
  clear hf
  go_enter Tryz.func175, Tryz.ntmps175
  go_wp2
  go_loopw [5, 8] (fun u i wr => ∃ (k : Nat), k ≤ l.length ∧ i = iv k ∧ Hid (findFrom p (l.drop k) k = findFrom p l 0) ∧ Below w.heap.size w wr) (fun _ i _ => l.length - (intOf i).toNat)
  case atStart => exact ⟨0, by omega, rfl, rfl, Below.refl _ _⟩
  case round =>
    obtain ⟨k, hk, rfl, hr, hbw⟩ := hrel
    have hs1 := hs.below hbw
    by_cases hlt : k < l.length
    · obtain ⟨b, off, x, rfl, hb, hx, hc0, hc1, hc2, hc3⟩ := hs1.atR hlt
      have hd := hr.out
      rw [drop_at hx] at hd
      simp only [findFrom] at hd
      have HD := Lib.hid hd
      clear hd
      cases hp : p x
      · go_wp2_with fail
        refine (HF.out x (mem_at hx) wr hbw).mono ?_
        rintro e w1 ⟨rfl, hb1⟩
        rw [hp]
        go_wp2_with fail
        go_roundw
        case rel => exact ⟨k + 1, by omega, by go_num, by have := HD.out; rw [hp] at this; exact this, hbw.next hb1 (Nat.le_refl _)⟩
        case measure => simp [intOf]; omega
      · go_wp2_with fail
        refine (HF.out x (mem_at hx) wr hbw).mono ?_
        rintro e w1 ⟨rfl, hb1⟩
        rw [hp]
        go_wp2_with fail
        go_ret
        exact ⟨ret_eq (by have := HD.out; rw [hp] at this; rw [← this]; rfl), hbw.next hb1 (Nat.le_refl _)⟩
    · have hd := hr.out
      rw [drop_end hlt] at hd
      have HD := Lib.hid hd
      clear hd
      go_wp2
      go_ret
      exact ⟨ret_eq (by rw [← HD.out]; rfl), hbw⟩
set_option maxRecDepth 100000 in
theorem indexI (A : Option Addr) (l : List Int) (c : Nat) (K : Nat) (cap : Array Value) (p : Int → Bool) (w : World) (hm : l.length ≤ big) (hs : Sl intE w A l)
    (hf : IsPred Tryz.prog w K cap iv l p) :
    Calls Tryz.prog 179 #[.slice A l.length c, .func (.func K) #[] cap] w
    fun e w' => e = .returned (iv (findFrom p l 0)) ∧ Below w.heap.size w w' := by
  unfold big at hm
  obtain ⟨hK, hf⟩ := hf
  have HF := Lib.hid hf
  clear hf
  go_enter Tryz.func179, Tryz.ntmps179
  go_wp2
  go_loopw [5, 8] (fun u i wr => ∃ (k : Nat), k ≤ l.length ∧ i = iv k ∧ Hid (findFrom p (l.drop k) k = findFrom p l 0) ∧ Below w.heap.size w wr) (fun _ i _ => l.length - (intOf i).toNat)
  case atStart => exact ⟨0, by omega, rfl, rfl, Below.refl _ _⟩
  case round =>
    obtain ⟨k, hk, rfl, hr, hbw⟩ := hrel
    have hs1 := hs.below hbw
    by_cases hlt : k < l.length
    · obtain ⟨b, off, x, rfl, hb, hx, hc0⟩ := hs1.atI hlt
      have hd := hr.out
      rw [drop_at hx] at hd
      simp only [findFrom] at hd
      have HD := Lib.hid hd
      clear hd
      cases hp : p x
      · go_wp2_with fail
        refine (HF.out x (mem_at hx) wr hbw).mono ?_
        rintro e w1 ⟨rfl, hb1⟩
        rw [hp]
        go_wp2_with fail
        go_roundw
        case rel => exact ⟨k + 1, by omega, by go_num, by have := HD.out; rw [hp] at this; exact this, hbw.next hb1 (Nat.le_refl _)⟩
        case measure => simp [intOf]; omega
      · go_wp2_with fail
        refine (HF.out x (mem_at hx) wr hbw).mono ?_
        rintro e w1 ⟨rfl, hb1⟩
        rw [hp]
        go_wp2_with fail
        go_ret
        exact ⟨ret_eq (by have := HD.out; rw [hp] at this; rw [← this]; rfl), hbw.next hb1 (Nat.le_refl _)⟩
    · have hd := hr.out
      rw [drop_end hlt] at hd
      have HD := Lib.hid hd
      clear hd
      go_wp2
      go_ret
      exact ⟨ret_eq (by rw [← HD.out]; rfl), hbw⟩
theorem containsR (A : Option Addr) (l : List Rule) (c : Nat) (K : Nat) (cap : Array Value) (p : Rule → Bool) (w : World) (hm : l.length ≤ big) (hs : Sl ruleE w A l)
    (hf : IsPred Tryz.prog w K cap Rule.v l p) :
    Calls Tryz.prog 154 #[.slice A l.length c, .func (.func K) #[] cap] w
    fun e w' => e = .returned (.bool (l.any p)) ∧ Below w.heap.size w w' := by
  have HF := Lib.hid hf
  clear hf
  go_enter Tryz.func154, Tryz.ntmps154
  go_wp2_with (go_at_call 175; refine (indexR A l c K cap p _ hm hs HF.out).mono ?_; rintro e w1 ⟨rfl, hb1⟩)
  go_ret
  exact ⟨ret_eq (by rw [← findFrom_nonneg p l 0 (by omega)]; rfl), hb1⟩
theorem containsI (A : Option Addr) (l : List Int) (c : Nat) (K : Nat) (cap : Array Value) (p : Int → Bool) (w : World) (hm : l.length ≤ big) (hs : Sl intE w A l)
    (hf : IsPred Tryz.prog w K cap iv l p) :
    Calls Tryz.prog 163 #[.slice A l.length c, .func (.func K) #[] cap] w
    fun e w' => e = .returned (.bool (l.any p)) ∧ Below w.heap.size w w' := by
  have HF := Lib.hid hf
  clear hf
  go_enter Tryz.func163, Tryz.ntmps163
  go_wp2_with (go_at_call 179; refine (indexI A l c K cap p _ hm hs HF.out).mono ?_; rintro e w1 ⟨rfl, hb1⟩)
  go_ret
  exact ⟨ret_eq (by rw [← findFrom_nonneg p l 0 (by omega)]; rfl), hb1⟩
set_option maxRecDepth 100000 in
theorem notR (K : Nat) (cap : Array Value) (p : Rule → Bool) (w0 w : World) (x : Rule) (l : List Rule) (g : Nat) (hx : x ∈ l) (hg : g < w.heap.size) (hc : w.cell? ⟨g, 0, none⟩ = some (.func (.func K) #[] cap)) (hb : Below w0.heap.size w0 w) (hf : IsPred Tryz.prog w0 K cap Rule.v l p) :
    Calls Tryz.prog 155 #[Rule.v x, .pointer (some ⟨g, 0, none⟩)] w fun e w' => e = .returned (.bool (!p x)) ∧ Below w.heap.size w w' := by
  obtain ⟨hK, hf⟩ := hf
  have HF := Lib.hid (fun w' (h : Below w.heap.size w w') => hf x hx w' (hb.next h (Nat.le_refl _)))
  clear hf hx
  obtain ⟨a, b, c, d⟩ := x
  go_enter Tryz.func155, Tryz.ntmps155
  go_wp2_with fail
  refine (HF.out _ ((Below.refl _ _).alloc (Nat.le_refl _) _)).mono ?_
  rintro e w1 ⟨rfl, hb1⟩
  go_wp2_with fail
  go_ret
  exact ⟨rfl, hb1.of_alloc⟩
set_option maxRecDepth 100000 in
theorem everyR (A : Option Addr) (l : List Rule) (c : Nat) (K : Nat) (cap : Array Value) (p : Rule → Bool) (w : World) (hm : l.length ≤ big) (hs : Sl ruleE w A l)
    (hf : IsPred Tryz.prog w K cap Rule.v l p) :
    Calls Tryz.prog 98 #[.slice A l.length c, .func (.func K) #[] cap] w
    fun e w' => e = .returned (.bool (l.all p)) ∧ Below w.heap.size w w' := by
  have HF := Lib.hid hf
  clear hf
  have hsf := fun (a : Addr) (c : Array Value) (w : World) => run_store Tryz.prog w a (.func (.func K) #[] c) .plain rfl
  have hmf : ∀ (fn : Fn) (first cap : Array Value) (w : World), (Instr.makeFunc fn first cap).run Tryz.prog w = .ok (.func fn first cap) w := fun _ _ _ _ => rfl
  go_enter Tryz.func98, Tryz.ntmps98
  go_wp2_with (go_at_call 154; refine (containsR A l c 155 #[.pointer (some ⟨w.heap.size, 0, none⟩)] (fun x => !p x) _ hm (hs.alloc _) ⟨callFunc_run (by kernel_rfl), fun x hx w' hw' => notR K cap p w w' x l w.heap.size hx (by have := hw'.size; simp at this; omega) ((hw'.cell (by simp)).trans (by simp [go_sem])) hw'.of_alloc HF.out⟩).mono ?_; rintro e w1 ⟨rfl, hb1⟩)
  go_ret
  exact ⟨ret_eq (by rw [List.not_any_eq_all_not]; simp), hb1.of_alloc⟩
end Go.Proofs.YtkmcacgeecfjgaaGreatDoor
end
