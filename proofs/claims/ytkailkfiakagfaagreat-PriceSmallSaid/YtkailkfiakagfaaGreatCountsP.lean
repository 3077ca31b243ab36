/- Which rules count, piece by piece. No condition. -/
import Derived.Test.YtkailkfiakagfaaGreatIdleW
import Derived.Test.YtkailkfiakagfaaGreatPlanA
import Derived.Test.YtkailkfiakagfaaGreatPriceS
set_option linter.unusedVariables false
set_option linter.unusedSimpArgs false
namespace Go.Proofs.YtkailkfiakagfaaGreat
namespace Price
theorem countsFrom_ge (most : Int) (p : Piece) : ∀ (l : List Rule) (i : Int), ∀ x ∈ countsFrom most p l i, i ≤ x := fun l i x hx => (countsFrom_mem most p l i x hx).1
theorem countsFrom_rises (most : Int) (p : Piece) : ∀ (l : List Rule) (i : Int) (k : Nat) (x y : Int), (countsFrom most p l i)[k]? = some x → (countsFrom most p l i)[k + 1]? = some y → x < y := by
  intro l
  induction l with
  | nil => intro i k x y h; simp [countsFrom] at h
  | cons r l ih =>
    intro i k x y h1 h2
    simp only [countsFrom] at h1 h2
    split at h1
    · rename_i h
      rw [if_pos h] at h2
      cases k with
      | zero =>
        simp only [List.getElem?_cons_zero, Option.some.injEq, List.getElem?_cons_succ] at h1 h2
        have := countsFrom_ge most p l (i + 1) y (List.mem_of_getElem? h2)
        omega
      | succ k =>
        simp only [List.getElem?_cons_succ] at h1 h2
        exact ih _ k x y h1 h2
    · rename_i h
      rw [if_neg h] at h2
      exact ih _ k x y h1 h2
/-- Does rule number j count for the piece? -/
def hit (l : List Rule) (p : Piece) (r : Rule) : Bool := holds r p && decide (many r = greatest (held l p))
theorem countsFrom_contains (most : Int) (p : Piece) : ∀ (l : List Rule) (i : Int) (j : Nat) (r : Rule), l[j]? = some r → (countsFrom most p l i).contains (i + j) = (holds r p && decide (many r = most)) := by
  intro l
  induction l with
  | nil => intro i j r h; simp at h
  | cons q l ih =>
    intro i j r h
    simp only [countsFrom]
    cases j with
    | zero =>
      simp only [List.getElem?_cons_zero, Option.some.injEq] at h
      subst h
      have hn : (countsFrom most p l (i + 1)).contains (i + (0 : Nat)) = false := by
        rw [Bool.eq_false_iff]
        intro hc
        have := countsFrom_ge most p l (i + 1) _ (List.contains_iff_mem.1 hc)
        omega
      cases hh : (holds q p && decide (many q = most))
      · rw [if_neg (by simp)]; exact hn
      · rw [if_pos rfl, List.contains_cons]; simp
    | succ j =>
      simp only [List.getElem?_cons_succ] at h
      have h1 := ih (i + 1) j r h
      rw [show i + 1 + (j : Int) = i + ((j + 1 : Nat) : Int) by push_cast; omega] at h1
      split
      · rw [List.contains_cons, h1]
        have : (i + ((j + 1 : Nat) : Int) == i) = false := by simp; omega
        rw [this, Bool.false_or]
      · exact h1
theorem counts_contains {l : List Rule} (p : Piece) {j : Nat} {r : Rule} (h : l[j]? = some r) : (counts l p).contains (j : Int) = hit l p r := by
  have := countsFrom_contains (greatest (held l p)) p l 0 j r h
  rw [Int.zero_add] at this
  exact this
theorem countsFrom_count (most : Int) (p : Piece) : ∀ (l : List Rule) (i : Int), ((countsFrom most p l i).length : Int) = cn (fun r => holds r p && decide (many r = most)) l := by
  intro l
  induction l with
  | nil => intro i; rfl
  | cons r l ih => intro i; simp only [countsFrom, cn]; split <;> simp [ih] <;> omega
theorem counts_count (l : List Rule) (p : Piece) : ((counts l p).length : Int) = cn (hit l p) l := countsFrom_count _ p l 0
/-- The most that a rule names of a piece; -1 if none holds. -/
def mostN (l : List Rule) (p : Piece) : Int := l.foldl (fun m r => max m (lawNames p r)) (-1)
theorem mostN_snoc (l : List Rule) (r : Rule) (p : Piece) : mostN (l ++ [r]) p = max (mostN l p) (lawNames p r) := by simp [mostN, List.foldl_append]
theorem lawNames_nonneg {p : Piece} {r : Rule} : 0 ≤ lawNames p r ↔ holds r p = true := by
  unfold lawNames
  have := many_bounds r
  split
  · rename_i h; simp [h]; exact this
  · rename_i h; simp [h]
theorem mostN_held : ∀ (l : List Rule) (p : Piece), (held l p = [] ∧ mostN l p = -1) ∨ (held l p ≠ [] ∧ mostN l p = greatest (held l p)) := by
  intro l p
  have key : ∀ (n : Nat) (l : List Rule), l.length = n → (held l p = [] ∧ mostN l p = -1) ∨ (held l p ≠ [] ∧ mostN l p = greatest (held l p)) := by
    intro n
    induction n with
    | zero => intro l h; rw [List.length_eq_zero_iff.1 h]; exact .inl ⟨rfl, rfl⟩
    | succ n ih =>
      intro l h
      obtain ⟨l0, r, rfl⟩ : ∃ l0 r, l = l0 ++ [r] := ⟨l.dropLast, l.getLast (by intro e; rw [e] at h; simp at h), (List.dropLast_concat_getLast _).symm⟩
      have hl0 := ih l0 (by simpa using h)
      rw [held_snoc, mostN_snoc]
      have hm := many_bounds r
      unfold lawNames
      by_cases hh : holds r p = true
      · rw [if_pos hh, if_pos hh]
        right
        refine ⟨by simp, ?_⟩
        rw [greatest_snoc]
        rcases hl0 with ⟨h1, h2⟩ | ⟨h1, h2⟩
        · rw [h1, h2]; simp [greatest]; omega
        · rw [h2]
      · rw [if_neg hh, if_neg hh]
        rcases hl0 with ⟨h1, h2⟩ | ⟨h1, h2⟩
        · exact .inl ⟨h1, by omega⟩
        · right
          refine ⟨h1, ?_⟩
          have : 0 ≤ greatest (held l0 p) := by unfold greatest; exact foldl_max_ge _ 0
          omega
  exact key l.length l rfl
theorem held_mem {l : List Rule} {p : Piece} {r : Rule} (hr : r ∈ l) (h : holds r p = true) : many r ∈ held l p := by
  unfold held; exact List.mem_map.2 ⟨r, List.mem_filter.2 ⟨hr, h⟩, rfl⟩
theorem hit_most {l : List Rule} {p : Piece} {r : Rule} (hr : r ∈ l) : hit l p r = (decide (0 ≤ mostN l p) && decide (lawNames p r = mostN l p)) := by
  unfold hit
  have hm := many_bounds r
  have hg : 0 ≤ greatest (held l p) := by unfold greatest; exact foldl_max_ge _ 0
  rcases mostN_held l p with ⟨h1, h2⟩ | ⟨h1, h2⟩
  · have : holds r p = false := by
      rw [Bool.eq_false_iff]
      intro h
      have := held_mem hr h
      rw [h1] at this; cases this
    rw [this, h2]; simp
  · rw [h2]
    unfold lawNames
    cases hh : holds r p
    · simp; intro _; omega
    · simp [hg]
/-- For how many pieces rule number j counts. -/
def times (l : List Rule) (j : Nat) (ps : List Piece) : Int := cn (fun p => (counts l p).contains (j : Int)) ps
theorem cn_snoc {α : Type} (q : α → Bool) (x : α) : ∀ (l : List α), cn q (l ++ [x]) = cn q l + (if q x then 1 else 0) := by
  intro l
  induction l with
  | nil => simp [cn]
  | cons y l ih => simp only [List.cons_append, cn, ih]; omega
theorem times_snoc (l : List Rule) (j : Nat) (ps : List Piece) (p : Piece) : times l j (ps ++ [p]) = times l j ps + (if (counts l p).contains (j : Int) then 1 else 0) := cn_snoc _ _ _
theorem markAll_get {j : Nat} : ∀ (cs : List Int) (bs : List Bool), j < bs.length → (∀ c ∈ cs, 0 ≤ c) → (markAll bs cs)[j]? = some (bs.getD j false || cs.contains (j : Int)) := by
  intro cs
  induction cs with
  | nil => intro bs h _; simp [markAll, List.getElem?_eq_getElem h]
  | cons c cs ih =>
    intro bs h hc
    unfold markAll
    rw [List.foldl_cons]
    have h1 := ih (bs.set c.toNat true) (by simpa using h) fun x hx => hc x (List.mem_cons_of_mem _ hx)
    unfold markAll at h1
    rw [h1]
    have hc0 := hc c List.mem_cons_self
    rw [List.contains_cons]
    congr 1
    by_cases e : c.toNat = j
    · subst e
      have : ((c.toNat : Nat) : Int) = c := by omega
      rw [this]
      rw [List.getD_eq_getElem?_getD, List.getElem?_set_self h]
      simp
    · have : ((j : Int) == c) = false := by simp; omega
      rw [this, Bool.false_or, List.getD_eq_getElem?_getD, List.getElem?_set_ne e, ← List.getD_eq_getElem?_getD]
theorem busyOf_get (l : List Rule) {j : Nat} (hj : j < l.length) : ∀ (n : Nat) (ps : List Piece), ps.length = n → (busyOf l ps)[j]? = some (decide (0 < times l j ps)) := by
  intro n
  induction n with
  | zero => intro ps h; rw [List.length_eq_zero_iff.1 h]; simp [busyOf, times, cn, hj]
  | succ n ih =>
    intro ps h
    obtain ⟨ps0, p, rfl⟩ : ∃ l0 r, ps = l0 ++ [r] := ⟨ps.dropLast, ps.getLast (by intro e; rw [e] at h; simp at h), (List.dropLast_concat_getLast _).symm⟩
    have h0 := ih ps0 (by simpa using h)
    rw [busyOf_snoc, markAll_get _ _ (by rw [busyOf_length]; exact hj) fun c hc => (counts_mem hc).1, times_snoc]
    rw [List.getD_eq_getElem?_getD, h0, Option.getD_some]
    have hn : 0 ≤ times l j ps0 := cn_nonneg _ _
    congr 1
    cases (counts l p).contains (j : Int)
    · simp
    · simp; omega
theorem idleFrom_contains : ∀ (bs : List Bool) (i : Int) (j : Nat) (b : Bool), bs[j]? = some b → (idleFrom bs i).contains (i + j) = !b := by
  intro bs
  induction bs with
  | nil => intro i j b h; simp at h
  | cons c bs ih =>
    intro i j b h
    have hge : ∀ (bs : List Bool) (i : Int), ∀ x ∈ idleFrom bs i, i ≤ x := by
      intro bs
      induction bs with
      | nil => intro i x hx; cases hx
      | cons c bs ih => intro i x hx; simp only [idleFrom] at hx; split at hx
                        · have := ih _ x hx; omega
                        · rcases List.mem_cons.1 hx with rfl | hx
                          · omega
                          · have := ih _ x hx; omega
    simp only [idleFrom]
    cases j with
    | zero =>
      simp only [List.getElem?_cons_zero, Option.some.injEq] at h
      subst h
      have hn : (idleFrom bs (i + 1)).contains (i + (0 : Nat)) = false := by
        rw [Bool.eq_false_iff]
        intro hc
        have := hge bs (i + 1) _ (List.contains_iff_mem.1 hc)
        omega
      cases c
      · simp
      · simpa using hn
    | succ j =>
      simp only [List.getElem?_cons_succ] at h
      have h1 := ih (i + 1) j b h
      rw [show i + 1 + (j : Int) = i + ((j + 1 : Nat) : Int) by push_cast; omega] at h1
      split
      · exact h1
      · rw [List.contains_cons, h1]
        have : (i + ((j + 1 : Nat) : Int) == i) = false := by simp; omega
        rw [this, Bool.false_or]
theorem idle_contains (l : List Rule) {j : Nat} (hj : j < l.length) : (idleFrom (busyOf l allPieces) 0).contains (j : Int) = decide (times l j allPieces = 0) := by
  have h := idleFrom_contains (busyOf l allPieces) 0 j _ (busyOf_get l hj _ allPieces rfl)
  rw [Int.zero_add] at h
  rw [h]
  have hn : 0 ≤ times l j allPieces := cn_nonneg _ _
  rw [Bool.eq_iff_iff]; simp; omega
theorem allPieces_isP : ∀ p ∈ allPieces, isP p = true := by decide +kernel
theorem one_piece : ∀ (b : Fin 4) (s : Fin 5) (e : Fin 3), cn (fun p => decide (p = (⟨(b.val : Nat), (s.val : Nat), (e.val : Nat)⟩ : Piece))) allPieces = 1 := by decide +kernel
theorem cn_same {α : Type} {q q' : α → Bool} : ∀ {l : List α}, (∀ x ∈ l, q x = q' x) → cn q l = cn q' l := by
  intro l
  induction l with
  | nil => intro _; rfl
  | cons x l ih => intro h; simp only [cn]; rw [h x List.mem_cons_self, ih fun y hy => h y (List.mem_cons_of_mem _ hy)]
theorem times_full {l : List Rule} {j : Nat} {r : Rule} (hr : l[j]? = some r) (ha : allowed r = true) (hb : r.b ≠ -1) (hs : r.s ≠ -1) (he : r.e ≠ -1) : times l j allPieces = 1 := by
  simp only [allowed, inB, Bool.and_eq_true, decide_eq_true_eq] at ha
  have hmem : r ∈ l := List.mem_of_getElem? hr
  have hm3 : many r = 3 := by unfold many one; rw [if_neg hb, if_neg hs, if_neg he]; rfl
  have hle : ∀ q : Rule, many q ≤ 3 := fun q => by unfold many one; split <;> split <;> split <;> omega
  have key : ∀ p ∈ allPieces, (counts l p).contains (j : Int) = decide (p = ⟨r.b, r.s, r.e⟩) := by
    intro p _
    rw [counts_contains p hr]
    unfold hit
    have hh : holds r p = decide (p = ⟨r.b, r.s, r.e⟩) := by
      obtain ⟨pb, ps, pe⟩ := p
      unfold holds fits
      rw [Bool.eq_iff_iff]
      simp only [decide_eq_false hb, decide_eq_false hs, decide_eq_false he, Bool.false_or, Bool.and_eq_true, decide_eq_true_eq, Piece.mk.injEq]
      omega
    cases hd : decide (p = ⟨r.b, r.s, r.e⟩)
    · rw [hh, hd]; rfl
    · rw [hh, hd, Bool.true_and, decide_eq_true_eq]
      have hin := held_mem (p := p) hmem (hh.trans hd)
      have h1 := greatest_ge (held l p) _ hin
      have h2 : greatest (held l p) ≤ 3 := by
        unfold greatest
        rcases foldl_max_mem (held l p) 0 with h | h
        · rw [h]; decide
        · obtain ⟨q, _, hq⟩ := List.mem_map.1 h
          rw [← hq]; exact hle q
      omega
  unfold times
  rw [cn_same key]
  have h1 := one_piece ⟨r.b.toNat, by omega⟩ ⟨r.s.toNat, by omega⟩ ⟨r.e.toNat, by omega⟩
  dsimp only at h1
  rw [show ((r.b.toNat : Nat) : Int) = r.b by omega, show ((r.s.toNat : Nat) : Int) = r.s by omega, show ((r.e.toNat : Nat) : Int) = r.e by omega] at h1
  exact h1
theorem getD_set_same {l : List Int} {k : Nat} (h : k < l.length) (a : Int) : (l.set k a).getD k 0 = a := by
  rw [List.getD_eq_getElem?_getD, List.getElem?_set_self h, Option.getD_some]
theorem MadeOk.check {n : Nat} {l : List Rule} (h : MadeOk n l) (hn : n ≤ 8) : check l = 0 := check_nodup (Nat.le_trans h.len hn) h.nodup fun r hr => (h.ok r hr).1
theorem idleFrom_ge : ∀ (bs : List Bool) (i : Int), ∀ x ∈ idleFrom bs i, i ≤ x := by
  intro bs
  induction bs with
  | nil => intro i x hx; cases hx
  | cons c bs ih =>
    intro i x hx
    simp only [idleFrom] at hx
    split at hx
    · have := ih _ x hx; omega
    · rcases List.mem_cons.1 hx with rfl | hx
      · omega
      · have := ih _ x hx; omega
theorem idleFrom_rises : ∀ (bs : List Bool) (i : Int) (k : Nat) (x y : Int), (idleFrom bs i)[k]? = some x → (idleFrom bs i)[k + 1]? = some y → x < y := by
  intro bs
  induction bs with
  | nil => intro i k x y h; simp [idleFrom] at h
  | cons c bs ih =>
    intro i k x y h1 h2
    simp only [idleFrom] at h1 h2
    split at h1
    · rename_i h
      rw [if_pos h] at h2
      exact ih _ k x y h1 h2
    · rename_i h
      rw [if_neg h] at h2
      cases k with
      | zero =>
        simp only [List.getElem?_cons_zero, Option.some.injEq, List.getElem?_cons_succ] at h1 h2
        have := idleFrom_ge bs (i + 1) y (List.mem_of_getElem? h2)
        omega
      | succ k =>
        simp only [List.getElem?_cons_succ] at h1 h2
        exact ih _ k x y h1 h2
end Price
end Go.Proofs.YtkailkfiakagfaaGreat
-- Prices do not hang on the order of the rules, nor on an idle rule. No condition.
namespace Go.Proofs.YtkailkfiakagfaaGreat
namespace Price
theorem pricedOf_same {x : Int} {ps : List Int} (h : ps ≠ []) (ha : ∀ y ∈ ps, y = x) : pricedOf ps = (x, 0) := by
  cases ps with
  | nil => exact absurd rfl h
  | cons y ps =>
    simp only [pricedOf]
    obtain rfl : y = x := ha y List.mem_cons_self
    rw [if_pos]
    rw [List.all_eq_true]
    intro z hz
    simpa using ha z (List.mem_cons_of_mem _ hz)
theorem pricedOf_torn {ps : List Int} {x y : Int} (hx : x ∈ ps) (hy : y ∈ ps) (h : x ≠ y) : pricedOf ps = (0, 7) := by
  cases ps with
  | nil => cases hx
  | cons z ps =>
    simp only [pricedOf]
    rw [if_neg]
    intro ha
    rw [List.all_eq_true] at ha
    have key : ∀ u ∈ z :: ps, u = z := fun u hu => by
      rcases List.mem_cons.1 hu with rfl | hu
      · rfl
      · simpa using ha u hu
    exact h ((key x hx).trans (key y hy).symm)
theorem pricedOf_perm {ps qs : List Int} (h : ps.Perm qs) : pricedOf ps = pricedOf qs := by
  by_cases h0 : ps = []
  · subst h0; rw [List.nil_perm.1 h]
  · obtain ⟨x, hx⟩ := List.exists_mem_of_ne_nil ps h0
    have h1 : qs ≠ [] := fun e => by rw [e] at h; exact h0 (List.perm_nil.1 h)
    by_cases ha : ∀ y ∈ ps, y = x
    · rw [pricedOf_same h0 ha, pricedOf_same h1 fun y hy => ha y (h.mem_iff.2 hy)]
    · obtain ⟨y, hy, hne⟩ : ∃ y, y ∈ ps ∧ y ≠ x := by
        false_or_by_contra
        rename_i hno
        exact ha fun y hy => Decidable.byContradiction fun hn => hno ⟨y, hy, hn⟩
      rw [pricedOf_torn hx hy (Ne.symm hne), pricedOf_torn (h.mem_iff.1 hx) (h.mem_iff.1 hy) (Ne.symm hne)]
theorem greatest_le {l : List Int} {m : Int} (hm : 0 ≤ m) (h : ∀ x ∈ l, x ≤ m) : greatest l ≤ m := by
  unfold greatest
  rcases foldl_max_mem l 0 with e | e
  · rw [e]; exact hm
  · exact h _ e
theorem greatest_nonneg (l : List Int) : 0 ≤ greatest l := by unfold greatest; exact foldl_max_ge _ 0
theorem greatest_same {l k : List Int} (h : ∀ x, x ∈ l ↔ x ∈ k) : greatest l = greatest k := by
  have h1 := greatest_le (greatest_nonneg k) fun x hx => greatest_ge k x ((h x).1 hx)
  have h2 := greatest_le (greatest_nonneg l) fun x hx => greatest_ge l x ((h x).2 hx)
  omega
theorem priced_top (l : List Rule) (p : Piece) : priced l p = pricedOf (top l p) := by unfold priced; rw [prices_top]
theorem held_perm {l k : List Rule} (h : l.Perm k) (p : Piece) : (held l p).Perm (held k p) := (h.filter _).map _
theorem top_perm {l k : List Rule} (h : l.Perm k) (p : Piece) : (top l p).Perm (top k p) := by
  unfold top
  rw [greatest_same fun x => (held_perm h p).mem_iff]
  exact (h.filter _).map _
theorem priced_perm {l k : List Rule} (h : l.Perm k) (p : Piece) : priced l p = priced k p := by
  rw [priced_top, priced_top, pricedOf_perm (top_perm h p)]
/-- A rule that does not count can be left out. -/
theorem top_out {a b : List Rule} {r : Rule} {p : Piece} (h : hit (a ++ r :: b) p r = false) : top (a ++ b) p = top (a ++ r :: b) p := by
  have hg : greatest (held (a ++ b) p) = greatest (held (a ++ r :: b) p) := by
    unfold hit at h
    have hsub : ∀ x ∈ held (a ++ b) p, x ∈ held (a ++ r :: b) p := fun x hx => by
      obtain ⟨q, hq, rfl⟩ := List.mem_map.1 hx
      obtain ⟨hq1, hq2⟩ := List.mem_filter.1 hq
      refine held_mem ?_ hq2
      rcases List.mem_append.1 hq1 with h | h
      · exact List.mem_append_left _ h
      · exact List.mem_append_right _ (List.mem_cons_of_mem _ h)
    have h1 := greatest_le (greatest_nonneg (held (a ++ r :: b) p)) fun x hx => greatest_ge _ x (hsub x hx)
    have h2 : greatest (held (a ++ r :: b) p) ≤ greatest (held (a ++ b) p) := by
      have hgr : greatest (held (a ++ r :: b) p) = 0 ∨ greatest (held (a ++ r :: b) p) ∈ held (a ++ r :: b) p := by
        unfold greatest; exact foldl_max_mem _ 0
      rcases hgr with e | e
      · rw [e]; exact greatest_nonneg _
      · obtain ⟨q, hq, hqe⟩ := List.mem_map.1 e
        obtain ⟨hq1, hq2⟩ := List.mem_filter.1 hq
        have hqr : q ≠ r := fun er => by
          subst er
          rw [hq2, Bool.true_and, decide_eq_false_iff_not] at h
          exact h hqe
        have hq3 : q ∈ a ++ b := by
          rcases List.mem_append.1 hq1 with h | h
          · exact List.mem_append_left _ h
          · rcases List.mem_cons.1 h with h | h
            · exact absurd h hqr
            · exact List.mem_append_right _ h
        rw [← hqe]
        exact greatest_ge _ _ (held_mem hq3 hq2)
    omega
  unfold top
  rw [hg, List.filter_append, List.filter_append, List.filter_cons]
  unfold hit at h
  rw [if_neg (by rw [h]; simp)]
theorem eraseIdx_split {l : List Rule} {i : Nat} {r : Rule} (h : l[i]? = some r) : l = l.take i ++ r :: l.drop (i + 1) ∧ l.eraseIdx i = l.take i ++ l.drop (i + 1) := by
  refine ⟨?_, List.eraseIdx_eq_take_drop_succ _ _⟩
  obtain ⟨hi, rfl⟩ := List.getElem?_eq_some_iff.1 h
  rw [← List.drop_eq_getElem_cons hi, List.take_append_drop]
theorem priced_erase {l : List Rule} {i : Nat} {r : Rule} (h : l[i]? = some r) {p : Piece} (hh : hit l p r = false) : priced (l.eraseIdx i) p = priced l p := by
  obtain ⟨h1, h2⟩ := eraseIdx_split h
  rw [priced_top, priced_top, h2]
  rw [h1] at hh
  have := top_out hh
  rw [← h1] at this
  rw [this]
theorem times_zero {l : List Rule} {i : Nat} {r : Rule} (h : l[i]? = some r) (ht : times l i allPieces = 0) : ∀ p ∈ allPieces, hit l p r = false := by
  intro p hp
  rw [Bool.eq_false_iff]
  intro hh
  have : ∀ (ps : List Piece), p ∈ ps → 0 < cn (fun p => (counts l p).contains (i : Int)) ps := by
    intro ps
    induction ps with
    | nil => intro h; cases h
    | cons q ps ih =>
      intro hq
      have hn := cn_nonneg (fun p => (counts l p).contains (i : Int)) ps
      simp only [cn]
      rcases List.mem_cons.1 hq with rfl | hq
      · rw [if_pos (by rw [counts_contains p h]; exact hh)]; omega
      · have := ih hq; split <;> omega
  have := this allPieces hp
  unfold times at ht
  omega
theorem differ_none {a b : List Rule} (h : ∀ p ∈ allPieces, priced a p = priced b p) : differ a b = (⟨0, 0, 0⟩, 6) := by
  unfold differ
  have : allPieces.find? (differs a b) = none := by
    rw [List.find?_eq_none]
    intro p hp
    simp [differs, h p hp]
  rw [this]
theorem differ_err (a b : List Rule) : (differ a b).2 = 0 ∨ (differ a b).2 = 6 := by
  unfold differ; split
  · exact .inl rfl
  · exact .inr rfl
/-- No rule that can be left out is needed: an idle rule has no witness. -/
theorem idle_witness {l : List Rule} {i : Nat} (hi : i < l.length) (ht : times l i allPieces = 0) : differ l (l.eraseIdx i) = (⟨0, 0, 0⟩, 6) := by
  have hr : l[i]? = some l[i] := List.getElem?_eq_getElem hi
  exact differ_none fun p hp => (priced_erase hr (times_zero hr ht p hp)).symm
theorem MadeOk.perm {n : Nat} {l k : List Rule} (h : MadeOk n l) (hp : l.Perm k) : MadeOk n k :=
  ⟨by rw [← hp.length_eq]; exact h.len, hp.nodup_iff.1 h.nodup, fun r hr => h.ok r (hp.mem_iff.2 hr)⟩
theorem MadeOk.erase {n : Nat} {l : List Rule} (h : MadeOk n l) (i : Nat) : MadeOk n (l.eraseIdx i) :=
  ⟨Nat.le_trans (List.length_eraseIdx_le _ _) h.len, h.nodup.sublist (List.eraseIdx_sublist _ _), fun r hr => h.ok r ((List.eraseIdx_sublist _ _).subset hr)⟩
theorem MadeOk.pos {n : Nat} {l : List Rule} (h : MadeOk n l) : ∀ r ∈ l, 0 ≤ r.p := fun r hr => by have := (h.ok r hr).2; omega
theorem MadeOk.law {n : Nat} {l : List Rule} (h : MadeOk n l) (p : Piece) : lawPriced l p = priced l p := lawPriced_eq h.pos p
/-- Setting one place, and what was there put behind. -/
theorem set_perm {α : Type} : ∀ (l : List α) (j : Nat) (x v : α), l[j]? = some x → (l.set j v ++ [x]).Perm (l ++ [v]) := by
  intro l
  induction l with
  | nil => intro j x v h; simp at h
  | cons y l ih =>
    intro j x v h
    cases j with
    | zero =>
      simp only [List.getElem?_cons_zero, Option.some.injEq] at h
      subst h
      simp only [List.set_cons_zero, List.cons_append]
      exact (List.perm_append_comm (l₁ := v :: l) (l₂ := [y])).trans ((List.Perm.cons y (List.perm_append_comm (l₁ := [v]) (l₂ := l))))
    | succ j =>
      simp only [List.set_cons_succ, List.cons_append]
      exact List.Perm.cons y (ih j x v (by simpa using h))
end Price
end Go.Proofs.YtkailkfiakagfaaGreat
