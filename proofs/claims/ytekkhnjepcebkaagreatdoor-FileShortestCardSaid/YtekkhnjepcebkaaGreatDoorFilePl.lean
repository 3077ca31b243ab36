/- How much two lists have in common: the same in either order, all just if they are the same, nothing just if no element is in both. Plain laws. -/
import Derived.Test.YtekkhnjepcebkaaGreatDoorFileDiff
import Derived.Test.YtekkhnjepcebkaaGreatDoorFileJoin
import Derived.Test.YtekkhnjepcebkaaGreatDoorFlMk
import Derived.Test.YtekkhnjepcebkaaGreatDoorFlF
set_option linter.unusedVariables false
set_option linter.unusedSimpArgs false
namespace Go.Proofs.YtekkhnjepcebkaaGreatDoor
namespace File
set_option linter.unusedSectionVars false
section
variable {α : Type} [DecidableEq α]
theorem lcs_comm (a b : List α) : lcs a b = lcs b a := by
  have key : ∀ a b : List α, lcs a b ≤ lcs b a := fun a b => by
    rw [← common_length a b, ← common_length b a]
    have := pairs_most (pairs_swap (common_pairs a b))
    simpa [swap] using this
  exact Nat.le_antisymm (key a b) (key b a)
theorem lcs_most_r (a b : List α) : lcs a b ≤ b.length := by rw [lcs_comm]; exact lcs_most b a
theorem lcs_self (a : List α) : lcs a a = a.length := by
  induction a with
  | nil => rfl
  | cons x a ih =>
    have := lcs_most (x :: a) (x :: a)
    rw [lcs_cons, if_pos rfl] at this ⊢
    simp only [List.length_cons] at *
    omega
theorem lcs_all : ∀ {a b : List α}, lcs a b = a.length → a.length = b.length → a = b
  | [], b, _, h => (List.eq_nil_of_length_eq_zero h.symm).symm
  | x :: a, [], _, h => by simp at h
  | x :: a, y :: b, h, hl => by
    have h1 := lcs_most a (y :: b)
    have h2 := lcs_most_r (x :: a) b
    simp only [List.length_cons] at hl h
    rw [lcs_cons] at h
    split at h
    · rename_i he
      subst he
      have : lcs a b = a.length := by
        have h3 := lcs_most a b
        omega
      rw [lcs_all this (by omega)]
    · omega
theorem lcs_met {a b : List α} : lcs a b = 0 ↔ ∀ x ∈ a, x ∉ b := by
  constructor
  · intro h x hx hy
    obtain ⟨i, hi, rfl⟩ := List.getElem_of_mem hx
    obtain ⟨j, hj, he⟩ := List.getElem_of_mem hy
    have := pairs_most (a := a) (b := b) (l := [(i, j)]) ⟨Nat.zero_le _, Nat.zero_le _, ⟨hi, hj, he.symm⟩, trivial⟩
    rw [common_length] at this
    simp at this
    omega
  · intro h
    have hp := common_pairs a b
    rw [← common_length]
    cases hc : common a b with
    | nil => rfl
    | cons p r =>
      rw [hc] at hp
      obtain ⟨_, _, ⟨h1, h2, h3⟩, _⟩ := hp
      exact absurd (h3 ▸ List.getElem_mem h2) (h _ (List.getElem_mem h1))
theorem pairs_snoc {a b : List α} {e : α} : ∀ {l : List (Nat × Nat)} {i j : Nat}, Pairs a b i j l → i ≤ a.length → j ≤ b.length → Pairs (a ++ [e]) (b ++ [e]) i j (l ++ [(a.length, b.length)])
  | [], i, j, _, hi, hj => ⟨hi, hj, ⟨by simp, by simp, by simp⟩, trivial⟩
  | p :: r, i, j, ⟨h1, h2, ⟨h3, h4, h5⟩, h6⟩, _, _ => ⟨h1, h2, ⟨by simp; omega, by simp; omega, by rw [List.getElem_append_left h3, List.getElem_append_left h4]; exact h5⟩, pairs_snoc h6 h3 h4⟩
theorem lcs_snoc (a b : List α) (e : α) : lcs a b + 1 ≤ lcs (a ++ [e]) (b ++ [e]) := by
  have := pairs_most (pairs_snoc (e := e) (common_pairs a b) (Nat.zero_le _) (Nat.zero_le _))
  rw [common_length, List.length_append, common_length] at this
  simpa using this
/-- A ratio in its least terms. -/
def ratio (x y : Nat) : Nat × Nat := (x / Nat.gcd x y, y / Nat.gcd x y)
theorem ratio_mul (x y : Nat) : (ratio x y).1 * Nat.gcd x y = x ∧ (ratio x y).2 * Nat.gcd x y = y :=
  ⟨Nat.div_mul_cancel (Nat.gcd_dvd_left x y), Nat.div_mul_cancel (Nat.gcd_dvd_right x y)⟩
theorem ratio_pos {x y : Nat} (h : 0 < y) : 0 < Nat.gcd x y ∧ 1 ≤ (ratio x y).2 := by
  have hg := Nat.gcd_pos_of_pos_right x h
  have := (ratio_mul x y).2
  refine ⟨hg, ?_⟩
  cases h2 : (ratio x y).2 with
  | zero => rw [h2] at this; omega
  | succ n => omega
theorem ratio_le {x y : Nat} (h : x ≤ y) : (ratio x y).1 ≤ (ratio x y).2 := Nat.div_le_div_right h
theorem ratio_one {x y : Nat} (h : 0 < y) : ratio x y = (1, 1) ↔ x = y := by
  obtain ⟨h1, h2⟩ := ratio_mul x y
  constructor
  · intro e
    rw [e] at h1 h2
    omega
  · intro e
    subst e
    simp [ratio, Nat.div_self h]
theorem ratio_zero {x y : Nat} (h : 0 < y) : ratio x y = (0, 1) ↔ x = 0 := by
  obtain ⟨h1, h2⟩ := ratio_mul x y
  constructor
  · intro e
    rw [e] at h1
    omega
  · intro e
    subst e
    simp [ratio, Nat.div_self h]
theorem ratio_cross {x y x' y' : Nat} (hy : 0 < y) (hy' : 0 < y') (h : x * y' ≤ x' * y) : (ratio x y).1 * (ratio x' y').2 ≤ (ratio x' y').1 * (ratio x y).2 := by
  obtain ⟨h1, h2⟩ := ratio_mul x y
  obtain ⟨h3, h4⟩ := ratio_mul x' y'
  have hg := (ratio_pos (x := x) hy).1
  have hg' := (ratio_pos (x := x') hy').1
  generalize Nat.gcd x y = g at *
  generalize Nat.gcd x' y' = g' at *
  generalize ratio x y = p at *
  generalize ratio x' y' = q at *
  have e1 : x * y' = (p.1 * q.2) * (g * g') := by rw [← h1, ← h4, Nat.mul_mul_mul_comm]
  have e2 : x' * y = (q.1 * p.2) * (g * g') := by rw [← h3, ← h2, Nat.mul_mul_mul_comm, Nat.mul_comm g' g]
  rw [e1, e2] at h
  exact Nat.le_of_mul_le_mul_right h (Nat.mul_pos hg hg')
/-- The law of two lists that are alike. -/
theorem alike_more (a b : List α) (e : α) (h : 0 < a.length + b.length) :
    (ratio (2 * lcs a b) (a.length + b.length)).1 * (ratio (2 * lcs (a ++ [e]) (b ++ [e])) ((a ++ [e]).length + (b ++ [e]).length)).2 ≤ (ratio (2 * lcs (a ++ [e]) (b ++ [e])) ((a ++ [e]).length + (b ++ [e]).length)).1 * (ratio (2 * lcs a b) (a.length + b.length)).2 := by
  refine ratio_cross h (by simp; omega) ?_
  have h1 := lcs_snoc a b e
  have h2 := lcs_most a b
  have h3 := lcs_most_r a b
  simp only [List.length_append, List.length_singleton]
  generalize lcs (a ++ [e]) (b ++ [e]) = q at *
  generalize lcs a b = p at *
  generalize a.length = m at *
  generalize b.length = n at *
  have h4 : 2 * (p + 1) * (m + n) ≤ 2 * q * (m + n) := Nat.mul_le_mul_right _ (by omega)
  have e1 : 2 * p * (m + 1 + (n + 1)) = 2 * p * (m + n) + 4 * p := by rw [show m + 1 + (n + 1) = (m + n) + 2 by omega, Nat.mul_add]; omega
  have e2 : 2 * (p + 1) * (m + n) = 2 * p * (m + n) + 2 * (m + n) := by rw [show 2 * (p + 1) = 2 * p + 2 by omega, Nat.add_mul]
  omega
end
end File
end Go.Proofs.YtekkhnjepcebkaaGreatDoor
-- Laws of joins: copies that are exchanged, one copy that is the base, or both the same; what a join has, and its conflicts. Plain laws.
namespace Go.Proofs.YtekkhnjepcebkaaGreatDoor
namespace File
set_option linter.unusedSectionVars false
section
variable {α : Type} [DecidableEq α]
def Block.swap (b : Block α) : Block α := ⟨b.lo, b.hi, b.e1, b.e0⟩
theorem swap_add (b : Block α) (k : Bool) (x : Edit α) : (b.add k x).swap = b.swap.add (!k) x := by cases k <;> rfl
theorem swap_new (k : Bool) (x : Edit α) : (Block.new k x).swap = Block.new (!k) x := by cases k <;> rfl
theorem add_add (b : Block α) (x y : Edit α) : (b.add false x).add true y = (b.add true y).add false x := by
  simp [Block.add, Nat.max_assoc, Nat.max_comm x.hi y.hi]
theorem new_add {x y : Edit α} (h : x.lo = y.lo) : (Block.new false x).add true y = (Block.new true y).add false x := by
  simp [Block.add, Block.new, Nat.max_comm x.hi y.hi, h]
theorem merge_tie {n : Nat} {x y : Edit α} {c d : List (Edit α)} {lo : Nat} (h : x.at_ = y.at_) (hc : Chain lo (x :: c)) : mergeGo (n + 2) (x :: c) (y :: d) = (false, x) :: (true, y) :: mergeGo n c d := by
  have h1 : ¬ y.at_ < x.at_ := by omega
  have : mergeGo (n + 2) (x :: c) (y :: d) = (false, x) :: mergeGo (n + 1) c (y :: d) := by
    show (if y.at_ < x.at_ then _ else _) = _
    rw [if_neg h1]
  rw [this]
  congr 1
  cases c with
  | nil => rfl
  | cons z c =>
    have h2 : y.at_ < z.at_ := by
      have := hc.2.1
      have h3 := hc.1
      unfold Edit.hi at this
      omega
    show (if y.at_ < z.at_ then _ else _) = _
    rw [if_pos h2]
theorem grow_swap : ∀ (n : Nat) (c d : List (Edit α)) (b : Block α) (lo : Nat), c.length + d.length ≤ n → Chain lo c → Chain lo d → (grow b (mergeGo n c d)).map Block.swap = grow b.swap (mergeGo n d c) := by
  intro n
  induction n using Nat.strongRecOn with
  | ind n ih =>
    intro c d b lo hl hc hd
    have step : ∀ (m : Nat) (c' d' : List (Edit α)) (k : Bool) (x : Edit α), m < n → c'.length + d'.length ≤ m → (∃ lo, Chain lo c' ∧ Chain lo d') → (grow b ((k, x) :: mergeGo m c' d')).map Block.swap = grow b.swap ((!k, x) :: mergeGo m d' c') := by
      intro m c' d' k x hm hl' ⟨lo', h1, h2⟩
      simp only [grow]
      show List.map _ (if x.lo ≤ b.hi then _ else _) = if x.lo ≤ b.hi then _ else _
      split
      · rw [ih m hm c' d' _ lo' hl' h1 h2, swap_add]
      · rw [List.map_cons, ih m hm c' d' _ lo' hl' h1 h2, swap_new]
    cases n with
    | zero =>
      have h1 : c = [] := List.eq_nil_of_length_eq_zero (by omega)
      have h2 : d = [] := List.eq_nil_of_length_eq_zero (by omega)
      subst h1 h2
      rfl
    | succ n =>
      cases c with
      | nil =>
        cases d with
        | nil => rfl
        | cons y d =>
          exact step n [] d true y (by omega) (by simp at hl ⊢; omega) ⟨y.hi + 1, trivial, hd.2⟩
      | cons x c =>
        cases d with
        | nil => exact step n c [] false x (by omega) (by simp at hl ⊢; omega) ⟨x.hi + 1, hc.2, trivial⟩
        | cons y d =>
          have c2 := (Chain.suf (c := []) hc).2
          have d2 := (Chain.suf (c := []) hd).2
          have hx0 := hc.1
          have hy0 := hd.1
          rcases Int.lt_trichotomy y.at_ x.at_ with h | h | h
          · have e1 : mergeGo (n + 1) (x :: c) (y :: d) = (true, y) :: mergeGo n (x :: c) d := by
              show (if y.at_ < x.at_ then _ else _) = _
              rw [if_pos h]
            have e2 : mergeGo (n + 1) (y :: d) (x :: c) = (false, y) :: mergeGo n d (x :: c) := by
              show (if x.at_ < y.at_ then _ else _) = _
              rw [if_neg (by omega)]
            rw [e1, e2]
            exact step n (x :: c) d true y (by omega) (by simp at hl ⊢; omega) ⟨lo, hc, hd.2.weaken (by unfold Edit.hi; omega)⟩
          · obtain ⟨m, rfl⟩ : ∃ m, n = m + 1 := ⟨n - 1, by simp at hl; omega⟩
            rw [merge_tie h.symm hc, merge_tie h hd]
            have hlo : x.lo = y.lo := by unfold Edit.lo; omega
            have hm : c.length + d.length ≤ m := by simp at hl; omega
            have hcc : Chain lo c := hc.2.weaken (by unfold Edit.hi; omega)
            have hdd : Chain lo d := hd.2.weaken (by unfold Edit.hi; omega)
            have m1 : ∀ b' : Block α, b'.hi ≤ (b'.add false x).hi ∧ b'.hi ≤ (b'.add false y).hi := fun b' => ⟨Nat.le_max_left _ _, Nat.le_max_left _ _⟩
            simp only [grow]
            by_cases hb : x.lo ≤ b.hi
            · have hb' : y.lo ≤ b.swap.hi := by rw [← hlo]; exact hb
              rw [if_pos hb, if_pos (by have := (m1 b).1; omega), if_pos hb', if_pos (by have := (m1 b.swap).2; omega)]
              rw [ih m (by omega) c d _ lo hm hcc hdd, swap_add, swap_add]
              congr 1
              exact (add_add b.swap y x).symm
            · have hb' : ¬ y.lo ≤ b.swap.hi := by rw [← hlo]; exact hb
              rw [if_neg hb, if_pos (by show y.lo ≤ x.hi; have := x.lo_hi; omega), if_neg hb', if_pos (by show x.lo ≤ y.hi; have := y.lo_hi; omega)]
              rw [List.map_cons, ih m (by omega) c d _ lo hm hcc hdd, swap_add, swap_new]
              congr 2
              exact (new_add hlo.symm).symm
          · have e1 : mergeGo (n + 1) (x :: c) (y :: d) = (false, x) :: mergeGo n c (y :: d) := by
              show (if y.at_ < x.at_ then _ else _) = _
              rw [if_neg (by omega)]
            have e2 : mergeGo (n + 1) (y :: d) (x :: c) = (true, x) :: mergeGo n (y :: d) c := by
              show (if x.at_ < y.at_ then _ else _) = _
              rw [if_pos h]
            rw [e1, e2]
            exact step n c (y :: d) false x (by omega) (by simp at hl ⊢; omega) ⟨lo, hc.2.weaken (by unfold Edit.hi; omega), hd⟩
/-- The same, from the first edit on: a block that no edit meets stands ahead. -/
theorem grow_ahead (b : Block α) (l : List (Bool × Edit α)) (h : ∀ p ∈ l, b.hi < p.2.lo) : grow b l = b :: blocksOf l := by
  cases l with
  | nil => rfl
  | cons p r =>
    have := h p List.mem_cons_self
    simp only [grow, blocksOf]
    rw [if_neg (by omega)]
/-- Edits moved down the list by one line. -/
def Edit.down (x : Edit α) : Edit α := ⟨x.at_ + 1, x.old, x.new⟩
def Block.down (b : Block α) : Block α := ⟨b.lo + 1, b.hi + 1, b.e0, b.e1⟩
theorem blocks_swap {c d : List (Edit α)} (hc : Chain 0 c) (hd : Chain 0 d) : (blocks c d).map Block.swap = blocks d c := by
  have key : ∀ (n : Nat) (c d : List (Edit α)), c.length + d.length ≤ n → Chain 0 c → Chain 0 d → (blocksOf (mergeGo n c d)).map Block.swap = blocksOf (mergeGo n d c) := by
    intro n c d hl hc hd
    cases n with
    | zero => rfl
    | succ n =>
      cases c with
      | nil =>
        cases d with
        | nil => rfl
        | cons y d =>
          show (grow _ (mergeGo n [] d)).map _ = grow _ (mergeGo n d [])
          rw [grow_swap n [] d _ (y.hi + 1) (by simp at hl ⊢; omega) trivial hd.2, swap_new]
          rfl
      | cons x c =>
        cases d with
        | nil =>
          show (grow _ (mergeGo n c [])).map _ = grow _ (mergeGo n [] c)
          rw [grow_swap n c [] _ (x.hi + 1) (by simp at hl ⊢; omega) hc.2 trivial, swap_new]
          rfl
        | cons y d =>
          rcases Int.lt_trichotomy y.at_ x.at_ with h | h | h
          · have e1 : mergeGo (n + 1) (x :: c) (y :: d) = (true, y) :: mergeGo n (x :: c) d := by
              show (if y.at_ < x.at_ then _ else _) = _
              rw [if_pos h]
            have e2 : mergeGo (n + 1) (y :: d) (x :: c) = (false, y) :: mergeGo n d (x :: c) := by
              show (if x.at_ < y.at_ then _ else _) = _
              rw [if_neg (by omega)]
            rw [e1, e2]
            show (grow _ _).map _ = grow _ _
            rw [grow_swap n (x :: c) d _ 0 (by simp at hl ⊢; omega) hc (hd.2.weaken (Nat.zero_le _)), swap_new]
            rfl
          · obtain ⟨m, rfl⟩ : ∃ m, n = m + 1 := ⟨n - 1, by simp at hl; omega⟩
            have hlo : x.lo = y.lo := by unfold Edit.lo; omega
            rw [merge_tie h.symm hc, merge_tie h hd]
            show (grow _ ((true, y) :: _)).map _ = grow _ ((true, x) :: _)
            simp only [grow]
            rw [if_pos (by show y.lo ≤ x.hi; have := x.lo_hi; omega), if_pos (by show x.lo ≤ y.hi; have := y.lo_hi; omega)]
            rw [grow_swap m c d _ 0 (by simp at hl ⊢; omega) (hc.2.weaken (Nat.zero_le _)) (hd.2.weaken (Nat.zero_le _)), swap_add, swap_new]
            congr 1
            exact (new_add hlo.symm).symm
          · have e1 : mergeGo (n + 1) (x :: c) (y :: d) = (false, x) :: mergeGo n c (y :: d) := by
              show (if y.at_ < x.at_ then _ else _) = _
              rw [if_neg (by omega)]
            have e2 : mergeGo (n + 1) (y :: d) (x :: c) = (true, x) :: mergeGo n (y :: d) c := by
              show (if x.at_ < y.at_ then _ else _) = _
              rw [if_pos h]
            rw [e1, e2]
            show (grow _ _).map _ = grow _ _
            rw [grow_swap n c (y :: d) _ 0 (by simp at hl ⊢; omega) (hc.2.weaken (Nat.zero_le _)) hd, swap_new]
            rfl
  unfold blocks merge
  rw [Nat.add_comm d.length c.length]
  exact key _ c d (Nat.le_refl _) hc hd
theorem joinGo_swap (base : List α) : ∀ (l : List (Block α)) (i : Nat), joinGo base i (l.map Block.swap) = joinGo base i l
  | [], _ => rfl
  | b :: r, i => by
    have ih := joinGo_swap base r b.hi
    simp only [List.map_cons, joinGo]
    show (if b.e0 = [] ∨ hasGo base b.hi b.lo b.e1 = hasGo base b.hi b.lo b.e0 then (cut base i b.lo ++ (hasGo base b.hi b.lo b.e1 ++ (joinGo base b.hi (r.map Block.swap)).1), (joinGo base b.hi (r.map Block.swap)).2)
      else if b.e1 = [] then (cut base i b.lo ++ (hasGo base b.hi b.lo b.e0 ++ (joinGo base b.hi (r.map Block.swap)).1), (joinGo base b.hi (r.map Block.swap)).2)
      else (cut base i b.lo ++ (cut base b.lo b.hi ++ (joinGo base b.hi (r.map Block.swap)).1), (b.lo, b.hi) :: (joinGo base b.hi (r.map Block.swap)).2)) = _
    rw [ih]
    by_cases h1 : b.e1 = []
    · by_cases h0 : b.e0 = []
      · rw [h1, h0]
      · by_cases h : hasGo base b.hi b.lo b.e0 = hasGo base b.hi b.lo b.e1
        · rw [if_pos (.inr h.symm), if_pos (.inl h1), h]
        · rw [if_neg (by rintro (h2 | h2); exact h0 h2; exact h h2.symm), if_pos h1, if_pos (.inl h1)]
    · by_cases h : hasGo base b.hi b.lo b.e0 = hasGo base b.hi b.lo b.e1
      · rw [if_pos (.inr h.symm), if_pos (.inr h), h]
      · by_cases h0 : b.e0 = []
        · rw [if_pos (.inl h0), if_neg (by rintro (h2 | h2); exact h1 h2; exact h h2), if_pos h0]
        · rw [if_neg (by rintro (h2 | h2); exact h0 h2; exact h h2.symm), if_neg h1, if_neg (by rintro (h2 | h2); exact h1 h2; exact h h2), if_neg h0]
/-- Copies are joined in either order to the same. -/
theorem join_swap (base a b : List α) : join base a b = join base b a := by
  unfold join
  rw [← blocks_swap (chain_diff base a) (chain_diff base b), joinGo_swap]
/-- What a change makes, told from its start on. -/
theorem make_has {f : List α} : ∀ {c : List (Edit α)} {lo : Nat}, Chain lo c → Within f.length c → make f c = f.take lo ++ hasGo f f.length lo c
  | [], lo, _, _ => by
    simp only [make, List.foldr_nil, hasGo, cut]
    rw [List.take_of_length_le (l := f.drop lo) (by simp), List.take_append_drop]
  | x :: r, lo, ⟨h1, h2⟩, hw => by
    have hx := hw x List.mem_cons_self
    have hr : Within f.length r := fun y hy => hw y (List.mem_cons_of_mem _ hy)
    have hlh := x.lo_hi
    have hlo : lo ≤ x.lo := by unfold Edit.lo; omega
    have ih := make_has (f := f) (h2.weaken (Nat.le_succ x.hi)) hr
    show made (make f r) x = _
    rw [ih]
    simp only [made, hasGo]
    have e1 : x.at_.toNat = x.lo := rfl
    have e2 : x.at_.toNat + x.old.length = x.hi := rfl
    have hl : (f.take x.hi).length = x.hi := by rw [List.length_take]; omega
    rw [e2, e1, List.take_append_of_le_length (by omega), List.take_take, Nat.min_eq_left hlh]
    have e3 : (f.take x.hi ++ hasGo f f.length x.hi r).drop x.hi = hasGo f f.length x.hi r := by
      rw [List.drop_append_of_le_length (by omega), List.drop_of_length_le (by omega), List.nil_append]
    rw [e3, ← List.append_assoc (f.take lo)]
    congr 1
    unfold cut
    have : f.take x.lo = f.take lo ++ (f.drop lo).take (x.lo - lo) := by
      rw [← List.take_add]
      congr 1
      omega
    rw [this]
theorem has_diff (a b : List α) : hasGo a a.length 0 (diff a b) = b := by
  have := make_has (chain_diff a b) (within_diff a b)
  rw [make_diff] at this
  simpa using this.symm
theorem diffGo_some {a b : List α} : ∀ (l : List (Nat × Nat)) (i j : Nat), Pairs a b i j l → i ≤ a.length → j ≤ b.length → ∀ x ∈ diffGo a b i j (l ++ [(a.length, b.length)]), 0 < x.old.length + x.new.length
  | [], i, j, _, hi, hj, x, hx => by
    simp only [List.nil_append, diffGo, List.append_nil] at hx
    split at hx
    · cases hx
    · simp only [List.mem_singleton] at hx
      subst hx
      simp only [cut_length (Nat.le_refl a.length) hi, cut_length (Nat.le_refl b.length) hj]
      rename_i hn
      omega
  | p :: r, i, j, ⟨h1, h2, ⟨h3, h4, h5⟩, h6⟩, hi, hj, x, hx => by
    simp only [List.cons_append, diffGo] at hx
    rcases List.mem_append.1 hx with hx | hx
    · split at hx
      · cases hx
      · simp only [List.mem_singleton] at hx
        subst hx
        simp only [cut_length (Nat.le_of_lt h3) h1, cut_length (Nat.le_of_lt h4) h2]
        rename_i hn
        omega
    · exact diffGo_some r _ _ h6 (by omega) (by omega) x hx
theorem diff_some {a b : List α} {x : Edit α} (h : x ∈ diff a b) : 0 < x.old.length + x.new.length := diffGo_some (common a b) 0 0 (common_pairs a b) (Nat.zero_le _) (Nat.zero_le _) x h
theorem diff_self (a : List α) : diff a a = [] := by
  have h := cost_diff a a
  rw [common_length, lcs_self] at h
  cases hd : diff a a with
  | nil => rfl
  | cons x r =>
    have h1 : x ∈ diff a a := by rw [hd]; exact List.mem_cons_self
    have h2 := diff_some h1
    have h3 := cost_mem h1
    omega
/-- Blocks of one edit each. -/
theorem blocks_none : ∀ (c : List (Edit α)) (lo : Nat), Chain lo c → blocksOf (mergeGo c.length c []) = c.map fun x => ⟨x.lo, x.hi, [x], []⟩
  | [], _, _ => rfl
  | x :: c, lo, ⟨h1, h2⟩ => by
    show grow (Block.new false x) (mergeGo c.length c []) = _
    rw [grow_ahead, blocks_none c _ h2]
    · rfl
    · intro p hp
      obtain ⟨k1, k2⟩ := merge_filt c.length c [] (by simp)
      have hm := filt_mem hp
      cases hb : p.1 with
      | false =>
        rw [hb, k1] at hm
        have := h2.pos _ hm
        show x.hi < p.2.at_.toNat
        omega
      | true => rw [hb, k2] at hm; cases hm
theorem blocks_same : ∀ (c : List (Edit α)) (lo : Nat), Chain lo c → blocksOf (mergeGo (c.length + c.length) c c) = c.map fun x => ⟨x.lo, x.hi, [x], [x]⟩
  | [], _, _ => rfl
  | x :: c, lo, ⟨h1, h2⟩ => by
    rw [show (x :: c).length + (x :: c).length = (c.length + c.length) + 2 by simp only [List.length_cons]; omega, merge_tie rfl ⟨h1, h2⟩]
    show grow (Block.new false x) ((true, x) :: _) = _
    simp only [grow]
    rw [if_pos (by exact x.lo_hi), grow_ahead, blocks_same c _ h2]
    · simp [Block.add, Block.new]
    · intro p hp
      obtain ⟨k1, k2⟩ := merge_filt (c.length + c.length) c c (Nat.le_refl _)
      have hm := filt_mem hp
      have hh : ((Block.new false x).add true x).hi = x.hi := by simp [Block.add, Block.new]
      rw [hh]
      have : p.2 ∈ c := by
        cases hb : p.1 with
        | false => rw [hb, k1] at hm; exact hm
        | true => rw [hb, k2] at hm; exact hm
      have := h2.pos _ this
      show x.hi < p.2.at_.toNat
      omega
theorem cut_self (a : List α) (i : Nat) : cut a i i = [] := by unfold cut; simp
theorem join_each {base : List α} {f : Edit α → List (Edit α)} (hf : ∀ x, f x = [] ∨ f x = [x]) : ∀ {c : List (Edit α)} {lo : Nat}, Chain lo c → Within base.length c → joinGo base lo (c.map fun x => ⟨x.lo, x.hi, [x], f x⟩) = (hasGo base base.length lo c, [])
  | [], lo, _, _ => by
    simp only [List.map_nil, joinGo, hasGo, cut]
    rw [List.take_of_length_le (by simp)]
  | x :: r, lo, ⟨h1, h2⟩, hw => by
    have hr : Within base.length r := fun y hy => hw y (List.mem_cons_of_mem _ hy)
    have ih := join_each hf (h2.weaken (Nat.le_succ x.hi)) hr
    simp only [List.map_cons, joinGo]
    rw [if_pos (by rcases hf x with h | h; exact .inl h; exact .inr (by rw [h])), ih]
    simp only [hasGo, cut_self, List.nil_append, List.append_nil, List.append_assoc]
theorem join_base (base a : List α) : join base a base = (a, []) := by
  unfold join blocks merge
  rw [diff_self, List.length_nil, Nat.add_zero, blocks_none _ 0 (chain_diff base a), join_each (f := fun _ => []) (fun _ => .inl rfl) (chain_diff base a) (within_diff base a), has_diff]
theorem join_same (base a : List α) : join base a a = (a, []) := by
  unfold join blocks merge
  rw [blocks_same _ 0 (chain_diff base a), join_each (f := fun x => [x]) (fun _ => .inr rfl) (chain_diff base a) (within_diff base a), has_diff]
/-- Conflicts lie one behind the other, with a line between them. -/
def Parts (n : Nat) : Nat → List (Nat × Nat) → Prop
  | _, [] => True
  | i, p :: r => i ≤ p.1 ∧ p.1 ≤ p.2 ∧ p.2 ≤ n ∧ Parts n (p.2 + 1) r
theorem Parts.weaken {n : Nat} : ∀ {l : List (Nat × Nat)} {i i' : Nat}, Parts n i l → i' ≤ i → Parts n i' l
  | [], _, _, _, _ => trivial
  | _ :: _, _, _, ⟨h1, h2⟩, h => ⟨Nat.le_trans h h1, h2⟩
theorem joinGo_parts {base : List α} {n : Nat} : ∀ {l : List (Block α)} {i j : Nat}, BlocksOk n i l → Parts n i (joinGo base j l).2
  | [], _, _, _ => trivial
  | b :: r, i, j, ⟨h1, h2, h3, _, _, _, _, h8⟩ => by
    have ih : Parts n (b.hi + 1) (joinGo base b.hi r).2 := joinGo_parts h8
    simp only [joinGo]
    split
    · exact ih.weaken (by omega)
    · split
      · exact ih.weaken (by omega)
      · exact ⟨h1, h2, h3, ih⟩
theorem join_parts (base a b : List α) : Parts base.length 0 (join base a b).2 := joinGo_parts (blocks_ok (chain_diff base a) (chain_diff base b) (within_diff base a) (within_diff base b))
theorem mem_cut {a : List α} {i k : Nat} {s : α} (h : s ∈ cut a i k) : s ∈ a := List.mem_of_mem_drop (List.mem_of_mem_take h)
theorem mem_has {base : List α} {hi : Nat} {s : α} : ∀ {c : List (Edit α)} {i : Nat}, s ∈ hasGo base hi i c → s ∈ base ∨ ∃ x ∈ c, s ∈ x.new
  | [], _, h => .inl (mem_cut h)
  | x :: r, i, h => by
    simp only [hasGo] at h
    rcases List.mem_append.1 h with h | h
    · exact .inl (mem_cut h)
    · rcases List.mem_append.1 h with h | h
      · exact .inr ⟨x, List.mem_cons_self, h⟩
      · rcases mem_has h with h | ⟨y, hy, h⟩
        · exact .inl h
        · exact .inr ⟨y, List.mem_cons_of_mem _ hy, h⟩
theorem mem_joinGo {base : List α} {s : α} : ∀ {l : List (Block α)} {i : Nat}, s ∈ (joinGo base i l).1 → s ∈ base ∨ (∃ b ∈ l, ∃ x ∈ b.e0, s ∈ x.new) ∨ ∃ b ∈ l, ∃ x ∈ b.e1, s ∈ x.new
  | [], _, h => .inl (List.mem_of_mem_drop h)
  | b :: r, i, h => by
    have key : s ∈ (joinGo base b.hi r).1 → s ∈ base ∨ (∃ b' ∈ b :: r, ∃ x ∈ b'.e0, s ∈ x.new) ∨ ∃ b' ∈ b :: r, ∃ x ∈ b'.e1, s ∈ x.new := fun h => by
      rcases mem_joinGo h with h | ⟨b', hb, h⟩ | ⟨b', hb, h⟩
      · exact .inl h
      · exact .inr (.inl ⟨b', List.mem_cons_of_mem _ hb, h⟩)
      · exact .inr (.inr ⟨b', List.mem_cons_of_mem _ hb, h⟩)
    simp only [joinGo] at h
    split at h
    · rcases List.mem_append.1 h with h | h
      · exact .inl (mem_cut h)
      · rcases List.mem_append.1 h with h | h
        · rcases mem_has h with h | ⟨x, hx, h⟩
          · exact .inl h
          · exact .inr (.inl ⟨b, List.mem_cons_self, x, hx, h⟩)
        · exact key h
    · split at h
      · rcases List.mem_append.1 h with h | h
        · exact .inl (mem_cut h)
        · rcases List.mem_append.1 h with h | h
          · rcases mem_has h with h | ⟨x, hx, h⟩
            · exact .inl h
            · exact .inr (.inr ⟨b, List.mem_cons_self, x, hx, h⟩)
          · exact key h
      · rcases List.mem_append.1 h with h | h
        · exact .inl (mem_cut h)
        · rcases List.mem_append.1 h with h | h
          · exact .inl (mem_cut h)
          · exact key h
theorem new_mem {a b : List α} {s : α} : ∀ {l : List (Nat × Nat)} {i j : Nat} {x : Edit α}, x ∈ diffGo a b i j l → s ∈ x.new → s ∈ b
  | [], _, _, _, h, _ => by cases h
  | p :: r, i, j, x, h, hs => by
    simp only [diffGo] at h
    rcases List.mem_append.1 h with h | h
    · split at h
      · cases h
      · simp only [List.mem_singleton] at h
        subst h
        exact mem_cut hs
    · exact new_mem h hs
theorem old_mem {a b : List α} {s : α} : ∀ {l : List (Nat × Nat)} {i j : Nat} {x : Edit α}, x ∈ diffGo a b i j l → s ∈ x.old → s ∈ a
  | [], _, _, _, h, _ => by cases h
  | p :: r, i, j, x, h, hs => by
    simp only [diffGo] at h
    rcases List.mem_append.1 h with h | h
    · split at h
      · cases h
      · simp only [List.mem_singleton] at h
        subst h
        exact mem_cut hs
    · exact old_mem h hs
/-- A join has lines of the base and of the copies. -/
theorem join_mem {base a b : List α} {s : α} (h : s ∈ (join base a b).1) : s ∈ base ∨ s ∈ a ∨ s ∈ b := by
  rcases mem_joinGo h with h | ⟨k, hk, x, hx, h⟩ | ⟨k, hk, x, hx, h⟩
  · exact .inl h
  · exact .inr (.inl (new_mem ((mem_block0 hk).1.subset hx) h))
  · exact .inr (.inr (new_mem ((mem_block0 hk).2.subset hx) h))
/-- The join of two copies of an empty list. -/
theorem diff_nil_left (a : List α) : diff [] a = if a = [] then [] else [⟨0, [], a⟩] := by
  cases a with
  | nil => exact diff_self []
  | cons x a =>
    rw [if_neg (by simp)]
    simp [diff, diffGo, common, commonGo, first, firstGo, cut]
theorem join_nil (a b : List α) : join ([] : List α) a b = if a = [] ∨ a = b then (b, []) else if b = [] then (a, []) else ([], [(0, 0)]) := by
  unfold join
  rw [diff_nil_left, diff_nil_left]
  by_cases ha : a = []
  · subst ha
    rw [if_pos rfl, if_pos (Or.inl rfl)]
    by_cases hb : b = []
    · subst hb; rw [if_pos rfl]; rfl
    · rw [if_neg hb]
      show joinGo [] 0 [⟨0, 0, [], [⟨0, [], b⟩]⟩] = _
      have e0 : hasGo ([] : List α) 0 0 [] = [] := rfl
      have e1 : hasGo ([] : List α) 0 0 [⟨0, [], b⟩] = b := by
        show ([] : List α) ++ (b ++ []) = b
        simp
      simp only [joinGo, e0, e1]
      rw [if_neg (by simp; exact fun h => hb h)]
      simp [cut]
  · rw [if_neg ha]
    have e1 : hasGo ([] : List α) 0 0 [⟨0, [], a⟩] = a := by
      show ([] : List α) ++ (a ++ []) = a
      simp
    by_cases hb : b = []
    · subst hb
      rw [if_pos rfl, if_neg (by simp [ha]), if_pos rfl]
      show joinGo [] 0 [⟨0, 0, [⟨0, [], a⟩], []⟩] = _
      have e0 : hasGo ([] : List α) 0 0 [] = [] := rfl
      simp only [joinGo, e0, e1]
      simp [cut]
    · rw [if_neg hb]
      show joinGo [] 0 [⟨0, 0, [⟨0, [], a⟩], [⟨0, [], b⟩]⟩] = _
      have e0 : hasGo ([] : List α) 0 0 [⟨0, [], b⟩] = b := by
        show ([] : List α) ++ (b ++ []) = b
        simp
      simp only [joinGo, e0, e1]
      by_cases h : a = b
      · rw [if_pos (.inr h), if_pos (.inr h)]
        simp [cut, h]
      · rw [if_neg (by simp [h]), if_neg (by simp), if_neg (by simp [ha, h]), if_neg hb]
        simp [cut]
end
end File
end Go.Proofs.YtekkhnjepcebkaaGreatDoor
-- Changes between files are right, and so are those that take them back (plain laws). No condition.
namespace Go.Proofs.YtekkhnjepcebkaaGreatDoor
namespace File
theorem ordered_of : ∀ {c : List (Edit ByteArray)} {lo : Nat}, Chain lo c → ordered c = true
  | [], _, _ => rfl
  | [_], _, _ => rfl
  | x :: y :: r, lo, ⟨h1, h2⟩ => by
    have ih := ordered_of h2
    unfold ordered
    rw [Bool.and_eq_true, Bool.not_eq_true', decide_eq_false_iff_not]
    refine ⟨?_, ih⟩
    have := h2.1
    unfold Edit.hi at this
    omega
theorem go_some {a b : List ByteArray} : ∀ (l : List (Nat × Nat)) (i j : Nat), Pairs a b i j l → i ≤ a.length → j ≤ b.length → ∀ x ∈ diffGo a b i j (l ++ [(a.length, b.length)]), 0 < x.old.length + x.new.length
  | [], i, j, _, hi, hj, x, hx => by
    simp only [List.nil_append, diffGo, List.append_nil] at hx
    split at hx
    · cases hx
    · rename_i h
      rw [List.mem_singleton.1 hx]
      simp only [cut_length (Nat.le_refl _) hi, cut_length (Nat.le_refl _) hj]
      omega
  | p :: r, i, j, ⟨h1, h2, ⟨h3, h4, _⟩, h6⟩, hi, hj, x, hx => by
    simp only [List.cons_append, diffGo] at hx
    rcases List.mem_append.1 hx with hx | hx
    · split at hx
      · cases hx
      · rename_i h
        rw [List.mem_singleton.1 hx]
        simp only [cut_length (Nat.le_of_lt h3) h1, cut_length (Nat.le_of_lt h4) h2]
        omega
    · exact go_some r _ _ h6 (by omega) (by omega) x hx
theorem go_mem {a b : List ByteArray} : ∀ (l : List (Nat × Nat)) (i j : Nat), ∀ x ∈ diffGo a b i j l, (∀ s ∈ x.old, s ∈ a) ∧ (∀ s ∈ x.new, s ∈ b) ∧ x.old.length ≤ a.length ∧ x.new.length ≤ b.length
  | [], _, _, _, h => by cases h
  | p :: r, i, j, x, h => by
    unfold diffGo at h
    rcases List.mem_append.1 h with h | h
    · split at h
      · cases h
      · rw [List.mem_singleton.1 h]
        exact ⟨fun s hs => mem_cut hs, fun s hs => mem_cut hs, cut_len _ _ _, cut_len _ _ _⟩
    · exact go_mem r _ _ x h
theorem lined_ok {l : List ByteArray} (h : ∀ s ∈ l, okLine s = true ∧ s.size ≤ 40) : lined l = 0 := by
  unfold lined
  rw [if_pos (List.all_eq_true.2 fun s hs => by have := (h s hs).2; simp only [wide, decide_eq_true_eq]; omega), if_pos (List.all_eq_true.2 fun s hs => (h s hs).1)]
theorem ch_go {a b : List ByteArray} (ga : Fl.Good a) (gb : Fl.Good b) {l : List (Nat × Nat)} (hp : Pairs a b 0 0 l) : ChOk (diffGo a b 0 0 (l ++ [(a.length, b.length)])) := by
  obtain ⟨hc, hw⟩ := chain_go l 0 0 hp (Nat.zero_le _) (Nat.zero_le _)
  have h1 := ga.many
  have h2 := gb.many
  have hm := go_mem (a := a) (b := b) (l ++ [(a.length, b.length)]) 0 0
  refine ⟨fun x hx => ?_, fun x hx => by have := (hm x hx).2.2.1; omega, fun x hx => by have := (hm x hx).2.2.2; omega, go_some l 0 0 hp (Nat.zero_le _) (Nat.zero_le _), lined_ok fun s hs => ?_, ordered_of hc⟩
  · have k1 : ((0 : Nat) : Int) ≤ x.at_ := hc.pos x hx
    have k2 : x.at_.toNat + x.old.length ≤ a.length := hw x hx
    omega
  · obtain ⟨x, hx, hs⟩ := List.mem_flatMap.1 hs
    rcases List.mem_append.1 hs with hs | hs
    · have := (hm x hx).1 s hs; exact ⟨ga.ok s this, ga.wide s this⟩
    · have := (hm x hx).2.1 s hs; exact ⟨gb.ok s this, gb.wide s this⟩
theorem backTry_of : ∀ {c : List (Edit ByteArray)} {n : Int}, (∀ x ∈ backGo n c, x.at_ ≤ 24) → backTry n c = some (backGo n c)
  | [], _, _ => rfl
  | x :: r, n, h => by
    have h0 := h ⟨x.at_ + n, x.new, x.old⟩ (by simp [backGo])
    simp only at h0
    unfold backTry backGo
    rw [if_neg (by omega), show n + ((x.new.length : Int) - (x.old.length : Int)) = n + x.new.length - x.old.length by omega, backTry_of (fun y hy => h y (by unfold backGo; exact List.mem_cons_of_mem _ hy))]
    rfl
/-- A change of a file into another one, and back. -/
theorem back_facts {a b : List ByteArray} (ga : Fl.Good a) (gb : Fl.Good b) : checkChange (diff a b) = 0 ∧ checkChange (back (diff a b)) = 0 ∧ backAns (diff a b) = (back (diff a b), 0) ∧ backAns (back (diff a b)) = (diff a b, 0) := by
  have hp := common_pairs a b
  have e1 : back (diff a b) = diffGo b a 0 0 (swap (common a b) ++ [(b.length, a.length)]) := by
    have := back_go (common a b) 0 0 hp (Nat.zero_le _) (Nat.zero_le _)
    simpa [back, diff] using this
  have c1 : ChOk (diff a b) := ch_go ga gb hp
  have c2 : ChOk (back (diff a b)) := by rw [e1]; exact ch_go gb ga (pairs_swap hp)
  have e2 := back_back (diff a b)
  refine ⟨ch_zero c1, ch_zero c2, ?_, ?_⟩
  · unfold backAns
    rw [if_pos (ch_zero c1), backTry_of (n := 0) (fun x hx => (c2.at_ x hx).2)]
    rfl
  · unfold backAns
    rw [if_pos (ch_zero c2), backTry_of (n := 0) (fun x hx => (c1.at_ x (by rw [← e2]; exact hx)).2)]
    show (back (back (diff a b)), (0 : Int)) = _
    rw [e2]
/-- How many lines more a change makes. -/
def more : List (Edit ByteArray) → Int
  | [] => 0
  | x :: r => (x.new.length : Int) - (x.old.length : Int) + more r
theorem make_more {f : List ByteArray} : ∀ {c : List (Edit ByteArray)} {lo : Nat}, Chain lo c → (∀ x ∈ c, x.hi ≤ f.length) → ((make f c).length : Int) = (f.length : Int) + more c
  | [], _, _, _ => by simp [make, more]
  | x :: r, lo, ⟨h1, h2⟩, hh => by
    have hx := hh x (by simp)
    have ih := make_more h2 (fun y hy => hh y (List.mem_cons_of_mem _ hy))
    have hge := make_ge (h2.weaken (Nat.le_succ _)) (fun y hy => hh y (List.mem_cons_of_mem _ hy)) hx
    unfold Edit.hi at hge
    show ((made (make f r) x).length : Int) = _
    unfold made more
    simp only [List.length_append, List.length_take, List.length_drop]
    omega
end File
end Go.Proofs.YtekkhnjepcebkaaGreatDoor
-- Joins on a base without lines; where conflicts lie (plain laws). No condition.
namespace Go.Proofs.YtekkhnjepcebkaaGreatDoor
namespace File
section
variable {α : Type} [DecidableEq α]
theorem diff_empty {b : List α} (hb : b ≠ []) : diff [] b = [⟨0, [], b⟩] := by
  have hc : common ([] : List α) b = [] := List.eq_nil_of_length_eq_zero (by rw [common_length]; rfl)
  have hl : 0 < b.length := List.length_pos_iff.2 hb
  unfold diff
  rw [hc]
  simp only [List.nil_append, diffGo, List.length_nil, List.append_nil]
  rw [if_neg (by rintro ⟨_, h⟩; omega)]
  simp [cut]
theorem join_empty {a b : List α} (ha : a ≠ []) (hb : b ≠ []) (hab : a ≠ b) : join [] a b = ([], [(0, 0)]) := by
  unfold join
  rw [diff_empty ha, diff_empty hb]
  have hm : blocks [(⟨0, [], a⟩ : Edit α)] [⟨0, [], b⟩] = [⟨0, 0, [⟨0, [], a⟩], [⟨0, [], b⟩]⟩] := by
    simp [blocks, merge, mergeGo, blocksOf, grow, Block.new, Block.add, Edit.lo, Edit.hi]
  rw [hm]
  simp [joinGo, hasGo, cut, Edit.lo, hab]
theorem join_emptyA (b : List α) : join [] [] b = (b, []) := by rw [join_swap]; exact join_base [] b
theorem parts_at {n : Nat} : ∀ {l : List (Nat × Nat)} {i k : Nat} {p : Nat × Nat}, Parts n i l → l[k]? = some p → i ≤ p.1 ∧ p.1 ≤ p.2 ∧ p.2 ≤ n
  | [], _, _, _, _, h => by simp at h
  | q :: r, i, 0, p, ⟨h1, h2, h3, _⟩, h => by
    simp at h; subst h; exact ⟨h1, h2, h3⟩
  | q :: r, i, k + 1, p, ⟨h1, h2, h3, h4⟩, h => by
    obtain ⟨a, b, c⟩ := parts_at h4 (show r[k]? = some p by simpa using h)
    exact ⟨by omega, b, c⟩
theorem parts_len {n : Nat} : ∀ {l : List (Nat × Nat)} {i : Nat}, Parts n i l → l ≠ [] → l.length + i ≤ n + 1
  | [], _, _, h => absurd rfl h
  | [p], i, ⟨h1, h2, h3, _⟩, _ => by simp; omega
  | p :: q :: r, i, ⟨h1, h2, h3, h4⟩, _ => by
    have := parts_len h4 (by simp)
    simp only [List.length_cons] at this ⊢
    omega
theorem parts_next {n : Nat} : ∀ {l : List (Nat × Nat)} {i k : Nat} {p q : Nat × Nat}, Parts n i l → l[k]? = some p → l[k + 1]? = some q → p.2 + 1 ≤ q.1
  | [], _, _, _, _, _, h, _ => by simp at h
  | x :: r, i, 0, p, q, ⟨h1, h2, h3, h4⟩, h, h' => by
    simp at h; subst h
    exact (parts_at h4 (show r[0]? = some q by simpa using h')).1
  | x :: r, i, k + 1, p, q, ⟨h1, h2, h3, h4⟩, h, h' => parts_next h4 (show r[k]? = some p by simpa using h) (show r[k + 1]? = some q by simpa using h')
end
end File
end Go.Proofs.YtekkhnjepcebkaaGreatDoor
-- What FileTold asks of changes: each fits where it was found. Plain laws.
namespace Go.Proofs.YtekkhnjepcebkaaGreatDoor
namespace File
theorem fitGo_cut {a : List ByteArray} : ∀ (n i : Nat), fitGo a i ((a.drop i).take n) = true
  | 0, _ => rfl
  | n + 1, i => by
    cases h : a[i]? with
    | none => rw [List.drop_eq_nil_of_le (List.getElem?_eq_none_iff.1 h)]; rfl
    | some x =>
      rw [drop_at h, List.take_succ_cons]
      unfold fitGo
      rw [h, decide_eq_true rfl, Bool.true_and]
      exact fitGo_cut n (i + 1)
theorem fit_go {a b : List ByteArray} : ∀ (l : List (Nat × Nat)) (i j : Nat), Pairs a b i j l → i ≤ a.length → j ≤ b.length → ∀ x ∈ diffGo a b i j (l ++ [(a.length, b.length)]), fitAt a x = true
  | [], i, j, _, hi, hj, x, hx => by
    simp only [List.nil_append, diffGo, List.append_nil] at hx
    split at hx
    · cases hx
    · rw [List.mem_singleton.1 hx]
      unfold fitAt
      rw [Bool.and_eq_true, decide_eq_true_eq]
      exact ⟨by simp only; omega, fitGo_cut _ _⟩
  | p :: r, i, j, ⟨h1, h2, ⟨h3, h4, _⟩, h6⟩, hi, hj, x, hx => by
    simp only [List.cons_append, diffGo] at hx
    rcases List.mem_append.1 hx with hx | hx
    · split at hx
      · cases hx
      · rw [List.mem_singleton.1 hx]
        unfold fitAt
        rw [Bool.and_eq_true, decide_eq_true_eq]
        exact ⟨by simp only; omega, fitGo_cut _ _⟩
    · exact fit_go r _ _ h6 h3 h4 x hx
theorem told_make {a b : List ByteArray} (ga : Fl.Good a) (gb : Fl.Good b) : makeAns a (diff a b) = (b, 0) := by
  have h1 := (back_facts ga gb).1
  have hf : ∀ x ∈ diff a b, fitAt a x = true := fit_go (common a b) 0 0 (common_pairs a b) (Nat.zero_le _) (Nat.zero_le _)
  unfold makeAns
  rw [if_pos (Fl.check_of_good ga), if_pos h1, if_pos (List.all_eq_true.2 hf), make_diff, if_neg (by have := gb.many; omega)]
theorem told_back {a b : List ByteArray} (ga : Fl.Good a) (gb : Fl.Good b) : makeAns b (back (diff a b)) = (a, 0) := by
  have h1 := (back_facts ga gb).2.1
  have hp := common_pairs a b
  have e1 : back (diff a b) = diffGo b a 0 0 (swap (common a b) ++ [(b.length, a.length)]) := by
    have := back_go (common a b) 0 0 hp (Nat.zero_le _) (Nat.zero_le _)
    simpa [back, diff] using this
  have hf := fit_go (swap (common a b)) 0 0 (pairs_swap hp) (Nat.zero_le _) (Nat.zero_le _)
  have hm := make_back a b
  rw [e1] at h1 hm ⊢
  unfold makeAns
  rw [if_pos (Fl.check_of_good gb), if_pos h1, if_pos (List.all_eq_true.2 hf), hm, if_neg (by have := ga.many; omega)]
theorem joinAns_good {base a b : List ByteArray} (gB : Fl.Good base) (ga : Fl.Good a) (gb : Fl.Good b) : joinAns base a b = if 24 < (join base a b).1.length then (2, [], []) else (0, (join base a b).1, (join base a b).2) := by
  unfold joinAns Fl.errOf
  rw [if_neg (by rw [Fl.check_of_good gB]; simp), if_pos (Fl.check_of_good ga), if_neg (by rw [Fl.check_of_good gb]; simp)]
theorem told_base {base a : List ByteArray} (gB : Fl.Good base) (ga : Fl.Good a) : joinAns base a base = (0, a, []) ∧ joinAns base a a = (0, a, []) := by
  rw [joinAns_good gB ga gB, joinAns_good gB ga ga, join_base, join_same, if_neg (by have := ga.many; simp; omega)]
  exact ⟨rfl, rfl⟩
theorem told_swap (base : List ByteArray) {a b : List ByteArray} (gB : Fl.Good base) (ga : Fl.Good a) (gb : Fl.Good b) : joinAns base a b = joinAns base b a ∧ ((joinAns base a b).1 = 0 ∨ (joinAns base a b).1 = 2) := by
  rw [joinAns_good gB ga gb, joinAns_good gB gb ga, join_swap base b a]
  refine ⟨rfl, ?_⟩
  split
  · exact .inr rfl
  · exact .inl rfl
theorem joinAns_small {base a b : List ByteArray} (gB : Fl.Good base) (ga : Fl.Good a) (gb : Fl.Good b) : (joinAns base a b).2.1.length ≤ 24 ∧ (joinAns base a b).2.2.length ≤ 25 := by
  rw [joinAns_good gB ga gb]
  split
  · exact ⟨Nat.zero_le _, Nat.zero_le _⟩
  · refine ⟨by simp only; omega, ?_⟩
    have hp := join_parts base a b
    simp only
    by_cases h : (join base a b).2 = []
    · rw [h]; exact Nat.zero_le _
    · have := parts_len hp h
      have := gB.many
      omega
theorem text_len {f : List ByteArray} (h : Fl.Good f) : (text f).length ≤ 1000000000 := by
  have h2 := Fl.sum_bounds f
  have h3 := Fl.dec_len 5 (File.sum f).toNat (by omega)
  have : ∀ (f : List ByteArray), (∀ s ∈ f, s.size ≤ 40) → (printed f).length ≤ f.length * 50 := by
    intro f
    induction f with
    | nil => intro _; exact Nat.zero_le _
    | cons s f ih =>
      intro h
      have h1 := ih fun t ht => h t (List.mem_cons_of_mem _ ht)
      have h2 := h s (by simp)
      have h3 := Fl.dec_len 5 s.size (by omega)
      have h4 : (bts s).length = s.size := by simp
      simp only [printed, List.length_append, List.length_cons]
      omega
  have h1 := this f h.wide
  have := h.many
  unfold text endOf
  simp only [List.length_append, List.length_cons, List.length_nil]
  omega
end File
end Go.Proofs.YtekkhnjepcebkaaGreatDoor
-- Texts that are parsed: what has an error, what is printed again (plain laws). No condition.
namespace Go.Proofs.YtekkhnjepcebkaaGreatDoor
namespace File
/-- Two texts are alike from k up to K. -/
def Ag (K k : Nat) (l l' : List UInt8) : Prop := l.take (K - k) = l'.take (K - k)
theorem Ag.nil {K k : Nat} {l' : List UInt8} (h : Ag K k [] l') (hk : k < K) : l' = [] := by
  unfold Ag at h
  obtain ⟨m, hm⟩ : ∃ m, K - k = m + 1 := ⟨K - k - 1, by omega⟩
  rw [hm] at h
  cases l' with
  | nil => rfl
  | cons b r => cases h
theorem Ag.cons {K k : Nat} {b : UInt8} {r l' : List UInt8} (h : Ag K k (b :: r) l') (hk : k < K) : ∃ r', l' = b :: r' ∧ Ag K (k + 1) r r' := by
  unfold Ag at h ⊢
  obtain ⟨m, hm⟩ : ∃ m, K - k = m + 1 := ⟨K - k - 1, by omega⟩
  rw [hm] at h
  rw [show K - (k + 1) = m by omega]
  cases l' with
  | nil => cases h
  | cons c r' =>
    rw [List.take_succ_cons, List.take_succ_cons] at h
    injection h with h1 h2
    exact ⟨r', by rw [h1], h2⟩
theorem Ag.next {K k : Nat} {l l' : List UInt8} (h : Ag K k l l') (hk : k < K) : nextB l' = nextB l := by
  cases l with
  | nil => rw [h.nil hk]
  | cons b r => obtain ⟨r', rfl, _⟩ := h.cons hk; rfl
theorem on_ge (p : UInt8 → Bool) (l : List UInt8) (k : Nat) : k ≤ on p l k := by unfold on; split <;> omega
theorem Ag.take {K k : Nat} {l l' : List UInt8} {p : UInt8 → Bool} (h : Ag K k l l') (hk : on p l k < K) : takes p l' = takes p l ∧ on p l' k = on p l k ∧ Ag K (on p l k) (rest p l) (rest p l') := by
  have h0 := on_ge p l k
  cases l with
  | nil => rw [h.nil (by omega)]; exact ⟨rfl, rfl, rfl⟩
  | cons b r =>
    obtain ⟨r', rfl, h'⟩ := h.cons (by omega)
    by_cases hp : p b = true
    · have e1 : ∀ r, takes p (b :: r) = true := fun _ => hp
      have e2 : ∀ r, on p (b :: r) k = k + 1 := fun _ => if_pos hp
      have e3 : ∀ r, rest p (b :: r) = r := fun _ => if_pos hp
      rw [e1, e1, e2, e2, e3, e3]
      exact ⟨rfl, rfl, h'⟩
    · have e1 : ∀ r, takes p (b :: r) = false := fun _ => by simpa [takes] using hp
      have e2 : ∀ r, on p (b :: r) k = k := fun _ => if_neg hp
      have e3 : ∀ r, rest p (b :: r) = b :: r := fun _ => if_neg hp
      rw [e1, e1, e2, e2, e3, e3]
      exact ⟨rfl, rfl, h⟩
theorem readNum_ge (l : List UInt8) (k : Nat) : k ≤ (readNum l k).2.2.2 := by
  unfold readNum
  split
  · exact Nat.le_refl _
  · rename_i b r
    split
    · dsimp only
      split
      · have h1 := on_ge isDig r (k + 1)
        have h2 := on_ge (· == 58) (rest isDig r) (on isDig r (k + 1))
        show k ≤ on (· == 58) (rest isDig r) (on isDig r (k + 1))
        omega
      · have h2 := on_ge (· == 58) r (k + 1)
        show k ≤ on (· == 58) r (k + 1)
        omega
    · exact Nat.le_refl _
theorem Ag.num {K k : Nat} {l l' : List UInt8} (h : Ag K k l l') (hk : (readNum l k).2.2.2 < K) :
    (readNum l' k).1 = (readNum l k).1 ∧ (readNum l' k).2.1 = (readNum l k).2.1 ∧ (readNum l' k).2.2.2 = (readNum l k).2.2.2 ∧ Ag K (readNum l k).2.2.2 (readNum l k).2.2.1 (readNum l' k).2.2.1 := by
  have h0 := readNum_ge l k
  cases l with
  | nil => rw [h.nil (by omega)]; exact ⟨rfl, rfl, rfl, rfl⟩
  | cons b r =>
    obtain ⟨r', rfl, h'⟩ := h.cons (by omega)
    unfold readNum at hk h0 ⊢
    by_cases hb : isDig b = true
    · simp only [hb, if_true] at hk h0 ⊢
      by_cases hc : 0 < b.toNat - 48 ∧ isDig (nextB r) = true ∧ 10 * (b.toNat - 48) + ((nextB r).toNat - 48) ≤ 40
      · rw [if_pos hc] at hk h0 ⊢
        dsimp only at hk h0 ⊢
        have h1 := on_ge isDig r (k + 1)
        have h2 := on_ge (· == 58) (rest isDig r) (on isDig r (k + 1))
        rw [h'.next (by omega), if_pos hc]
        obtain ⟨a1, a2, a3⟩ := h'.take (p := isDig) (by omega)
        obtain ⟨b1, b2, b3⟩ := a3.take (p := (· == 58)) hk
        dsimp only
        rw [a2]
        exact ⟨rfl, b1, b2, b3⟩
      · rw [if_neg hc] at hk h0 ⊢
        dsimp only at hk h0 ⊢
        have h2 := on_ge (· == 58) r (k + 1)
        rw [h'.next (by omega), if_neg hc]
        obtain ⟨b1, b2, b3⟩ := h'.take (p := (· == 58)) hk
        exact ⟨rfl, b1, b2, b3⟩
    · simp only [if_neg hb]
      exact ⟨trivial, trivial, trivial, h⟩
theorem takeN_ge : ∀ (n : Nat) (l : List UInt8) (k : Nat), k ≤ (takeN n l k).2.2
  | 0, _, _ => Nat.le_refl _
  | n + 1, l, k => by
    unfold takeN
    split
    · exact Nat.le_trans (on_ge _ _ _) (takeN_ge n _ _)
    · exact Nat.le_refl _
theorem Ag.takeN {K : Nat} : ∀ (n : Nat) {l l' : List UInt8} {k : Nat}, Ag K k l l' → (File.takeN n l k).2.2 < K → (File.takeN n l' k).1 = (File.takeN n l k).1 ∧ (File.takeN n l' k).2.2 = (File.takeN n l k).2.2 ∧ Ag K (File.takeN n l k).2.2 (File.takeN n l k).2.1 (File.takeN n l' k).2.1
  | 0, _, _, _, h, _ => ⟨rfl, rfl, h⟩
  | n + 1, l, l', k, h, hk => by
    have h0 := takeN_ge (n + 1) l k
    unfold File.takeN at hk h0 ⊢
    by_cases ht : takes okB l = true
    · rw [if_pos ht] at hk h0 ⊢
      obtain ⟨a1, a2, a3⟩ := h.take (p := okB) (Nat.lt_of_le_of_lt (takeN_ge n _ _) hk)
      rw [a1, if_pos ht, a2]
      exact Ag.takeN n a3 hk
    · rw [if_neg ht] at hk h0 ⊢
      have e : on okB l k = k := by unfold on; rw [if_neg ht]
      obtain ⟨a1, a2, a3⟩ := h.take (p := okB) (by rw [e]; exact hk)
      rw [a1, if_neg ht]
      exact ⟨rfl, rfl, h⟩
theorem runN_ge (s : Bool) (n : Nat) (l : List UInt8) (k : Nat) : k ≤ (runN s n l k).2.2 := by
  unfold runN
  split
  · exact takeN_ge _ _ _
  · exact Nat.le_refl _
theorem readLine_ge (l : List UInt8) (k : Nat) : k ≤ (readLine l k).2.2 := by
  have h1 := readNum_ge l k
  have h2 := runN_ge (readNum l k).2.1 (readNum l k).1 (readNum l k).2.2.1 (readNum l k).2.2.2
  unfold readLine
  dsimp only
  split
  · split
    · exact Nat.le_trans (Nat.le_trans h1 h2) (on_ge _ _ _)
    · exact Nat.le_trans h1 h2
  · exact Nat.le_trans h1 h2
theorem Ag.takeEq {K k n : Nat} {l l' : List UInt8} (h : Ag K k l l') (hn : k + n ≤ K) : l'.take n = l.take n := by
  have := congrArg (List.take n) h
  rw [List.take_take, List.take_take, Nat.min_eq_left (by omega)] at this
  exact this.symm
theorem takeN_pos : ∀ (n : Nat) (l : List UInt8) (k : Nat), (takeN n l k).1 = true → (takeN n l k).2.2 = k + n
  | 0, _, _, _ => rfl
  | n + 1, l, k, h => by
    unfold takeN at h ⊢
    by_cases ht : takes okB l = true
    · rw [if_pos ht] at h ⊢
      rw [takeN_pos n _ _ h]
      unfold on
      rw [if_pos ht]
      omega
    · rw [if_neg ht] at h; cases h
theorem Ag.line {K k : Nat} {l l' : List UInt8} (h : Ag K k l l') (hk : (File.readLine l k).2.2 < K) : (readLine l' k).1 = (readLine l k).1 ∧ (readLine l' k).2.2 = (readLine l k).2.2 ∧ Ag K (readLine l k).2.2 (readLine l k).2.1 (readLine l' k).2.1 := by
  have g1 := readNum_ge l k
  have g2 := runN_ge (readNum l k).2.1 (readNum l k).1 (readNum l k).2.2.1 (readNum l k).2.2.2
  have g3 : (runN (readNum l k).2.1 (readNum l k).1 (readNum l k).2.2.1 (readNum l k).2.2.2).2.2 ≤ (readLine l k).2.2 := by
    unfold readLine
    dsimp only
    split
    · split
      · exact on_ge _ _ _
      · exact Nat.le_refl _
    · exact Nat.le_refl _
  obtain ⟨a1, a2, a3, a4⟩ := h.num (by omega)
  have hR : (runN (readNum l' k).2.1 (readNum l' k).1 (readNum l' k).2.2.1 (readNum l' k).2.2.2).1 = (runN (readNum l k).2.1 (readNum l k).1 (readNum l k).2.2.1 (readNum l k).2.2.2).1
      ∧ (runN (readNum l' k).2.1 (readNum l' k).1 (readNum l' k).2.2.1 (readNum l' k).2.2.2).2.2 = (runN (readNum l k).2.1 (readNum l k).1 (readNum l k).2.2.1 (readNum l k).2.2.2).2.2
      ∧ Ag K (runN (readNum l k).2.1 (readNum l k).1 (readNum l k).2.2.1 (readNum l k).2.2.2).2.2 (runN (readNum l k).2.1 (readNum l k).1 (readNum l k).2.2.1 (readNum l k).2.2.2).2.1 (runN (readNum l' k).2.1 (readNum l' k).1 (readNum l' k).2.2.1 (readNum l' k).2.2.2).2.1 := by
    rw [a1, a2, a3]
    unfold runN at g2 g3 ⊢
    by_cases hs : (readNum l k).2.1 = true
    · rw [if_pos hs] at g2 g3 ⊢
      rw [if_pos hs]
      exact Ag.takeN _ a4 (by omega)
    · rw [if_neg hs] at g2 g3 ⊢
      rw [if_neg hs]
      exact ⟨rfl, rfl, a4⟩
  have hP : (runN (readNum l k).2.1 (readNum l k).1 (readNum l k).2.2.1 (readNum l k).2.2.2).1 = true → (runN (readNum l k).2.1 (readNum l k).1 (readNum l k).2.2.1 (readNum l k).2.2.2).2.2 = (readNum l k).2.2.2 + (readNum l k).1 := by
    unfold runN
    split
    · exact takeN_pos _ _ _
    · intro h; cases h
  have ht : (runN (readNum l k).2.1 (readNum l k).1 (readNum l k).2.2.1 (readNum l k).2.2.2).1 = true → (readNum l' k).2.2.1.take (readNum l' k).1 = (readNum l k).2.2.1.take (readNum l k).1 := fun e => by
    rw [a1]
    exact a4.takeEq (by have := hP e; omega)
  unfold readLine at hk ⊢
  dsimp only at hk ⊢
  clear g2 g3 hP h
  generalize runN (readNum l k).2.1 (readNum l k).1 (readNum l k).2.2.1 (readNum l k).2.2.2 = t at *
  generalize runN (readNum l' k).2.1 (readNum l' k).1 (readNum l' k).2.2.1 (readNum l' k).2.2.2 = t' at *
  obtain ⟨b1, b2, b3⟩ := hR
  by_cases h1 : t.1 = true
  · rw [if_pos h1] at hk ⊢
    rw [b1, if_pos h1]
    by_cases h2 : takes (· == 10) t.2.1 = true
    · rw [if_pos h2] at hk ⊢
      obtain ⟨c1, c2, c3⟩ := b3.take (p := (· == 10)) hk
      rw [c1, if_pos h2, ht h1, b2, c2]
      exact ⟨rfl, rfl, c3⟩
    · rw [if_neg h2] at hk ⊢
      have e : on (· == 10) t.2.1 t.2.2 = t.2.2 := by unfold on; rw [if_neg h2]
      obtain ⟨c1, c2, c3⟩ := b3.take (p := (· == 10)) (by rw [e]; exact hk)
      rw [c1, if_neg h2]
      exact ⟨rfl, b2, b3⟩
  · rw [if_neg h1] at hk ⊢
    rw [b1, if_neg h1]
    exact ⟨rfl, b2, b3⟩
/-- Where reading stands. -/
def posOf : (Int × Nat) ⊕ (List ByteArray × List UInt8 × Nat) → Nat
  | .inl x => x.2
  | .inr x => x.2.2
theorem lines_ge : ∀ (n : Nat) (out : List ByteArray) (l : List UInt8) (k : Nat), k ≤ posOf (lines n out l k)
  | 0, _, _, _ => Nat.le_refl _
  | n + 1, out, l, k => by
    unfold lines
    split
    · exact Nat.le_refl _
    · split
      · exact Nat.le_refl _
      · split
        · exact Nat.le_trans (readLine_ge l k) (lines_ge n _ _ _)
        · exact readLine_ge l k
theorem Ag.lines {K : Nat} : ∀ (n : Nat) (out : List ByteArray) {l l' : List UInt8} {k : Nat}, Ag K k l l' → posOf (File.lines n out l k) < K →
    (∀ x, File.lines n out l k = .inl x → File.lines n out l' k = .inl x) ∧ (∀ o r p, File.lines n out l k = .inr (o, r, p) → ∃ r', File.lines n out l' k = .inr (o, r', p) ∧ Ag K p r r')
  | 0, _, _, _, _, h, _ => ⟨fun _ h => h, fun _ _ _ h => by cases h⟩
  | n + 1, out, l, l', k, h, hk => by
    have h0 := lines_ge (n + 1) out l k
    have hn := h.next (by omega)
    unfold File.lines at hk h0 ⊢
    rw [hn]
    by_cases h1 : nextB l = 61
    · simp only [if_pos h1]
      exact ⟨fun _ h => (by cases h), fun o r p e => by injection e with e; injection e with e1 e2; injection e2 with e2 e3; subst e1; subst e2; subst e3; exact ⟨l', rfl, h⟩⟩
    · simp only [if_neg h1] at hk ⊢
      by_cases h2 : out.length = 24
      · simp only [if_pos h2]
        exact ⟨fun _ h => h, fun _ _ _ h => by cases h⟩
      · simp only [if_neg h2] at hk ⊢
        have hlt : (File.readLine l k).2.2 < K := by
          split at hk
          · exact Nat.lt_of_le_of_lt (lines_ge n _ _ _) hk
          · exact hk
        obtain ⟨a1, a2, a3⟩ := h.line hlt
        rw [a1, a2]
        cases hx : (File.readLine l k).1 with
        | none => exact ⟨fun _ h => h, fun _ _ _ h => by cases h⟩
        | some x =>
          simp only [hx] at hk
          exact Ag.lines n _ a3 hk
theorem matchAll_ge : ∀ (ws l : List UInt8) (k : Nat), k ≤ (matchAll ws l k).2.2
  | [], _, _ => Nat.le_refl _
  | a :: ws, l, k => by
    unfold matchAll
    split
    · exact Nat.le_trans (on_ge _ _ _) (matchAll_ge ws _ _)
    · exact Nat.le_refl _
theorem Ag.matchAll {K : Nat} : ∀ (ws : List UInt8) {l l' : List UInt8} {k : Nat}, Ag K k l l' → (File.matchAll ws l k).2.2 < K → (File.matchAll ws l' k).1 = (File.matchAll ws l k).1 ∧ (File.matchAll ws l' k).2.2 = (File.matchAll ws l k).2.2 ∧ Ag K (File.matchAll ws l k).2.2 (File.matchAll ws l k).2.1 (File.matchAll ws l' k).2.1
  | [], _, _, _, h, _ => ⟨rfl, rfl, h⟩
  | a :: ws, l, l', k, h, hk => by
    unfold File.matchAll at hk ⊢
    by_cases ht : takes (· == a) l = true
    · rw [if_pos ht] at hk ⊢
      obtain ⟨a1, a2, a3⟩ := h.take (p := (· == a)) (Nat.lt_of_le_of_lt (matchAll_ge ws _ _) hk)
      rw [a1, if_pos ht, a2]
      exact Ag.matchAll ws a3 hk
    · rw [if_neg ht] at hk ⊢
      have e : on (· == a) l k = k := by unfold on; rw [if_neg ht]
      obtain ⟨a1, a2, a3⟩ := h.take (p := (· == a)) (by rw [e]; exact hk)
      rw [a1, if_neg ht]
      exact ⟨rfl, rfl, h⟩
/-- An error stands behind what a text has in common with one that is right. -/
theorem parse_prefix {s t : List UInt8} {g : List ByteArray} {i : Nat} (hs : parse s = (g, 0, 0)) (hi : s.take i = t.take i) (ht : (parse t).2.2 ≠ 0) : i ≤ (parse t).2.1 := by
  refine Nat.le_of_not_lt fun hlt => ?_
  have hA : Ag i 0 t s := by unfold Ag; rw [Nat.sub_zero]; exact hi.symm
  unfold parse at hs ht hlt
  cases hL : lines 25 [] t 0 with
  | inl x =>
    rw [hL] at ht hlt
    obtain ⟨a1, _⟩ := hA.lines 25 [] (by rw [hL]; exact hlt)
    rw [a1 x hL] at hs
    have := congrArg (fun p => p.2.2) hs
    exact ht this
  | inr x =>
    obtain ⟨o, r, p⟩ := x
    rw [hL] at ht hlt
    unfold ending at ht hlt
    dsimp only at ht hlt
    by_cases hc : (matchAll (endOf o) (rest (· == 61) r) (on (· == 61) r p)).1 = true ∧ (matchAll (endOf o) (rest (· == 61) r) (on (· == 61) r p)).2.1 = []
    · rw [if_pos hc] at ht; exact ht rfl
    · rw [if_neg hc] at ht hlt
      dsimp only at hlt
      have g1 := on_ge (· == 61) r p
      have g2 := matchAll_ge (endOf o) (rest (· == 61) r) (on (· == 61) r p)
      obtain ⟨_, a2⟩ := hA.lines 25 [] (by rw [hL]; show p < i; omega)
      obtain ⟨r', hL', hB⟩ := a2 o r p hL
      obtain ⟨b1, b2, b3⟩ := hB.take (p := (· == 61)) (by omega)
      obtain ⟨c1, c2, c3⟩ := b3.matchAll (endOf o) hlt
      rw [hL'] at hs
      unfold ending at hs
      dsimp only at hs
      rw [b2] at hs
      by_cases hd : (matchAll (endOf o) (rest (· == 61) r') (on (· == 61) r p)).1 = true ∧ (matchAll (endOf o) (rest (· == 61) r') (on (· == 61) r p)).2.1 = []
      · refine hc ⟨by rw [← c1]; exact hd.1, ?_⟩
        cases hq : (matchAll (endOf o) (rest (· == 61) r) (on (· == 61) r p)).2.1 with
        | nil => rfl
        | cons b q =>
          rw [hq] at c3
          obtain ⟨_, e, _⟩ := c3.cons hlt
          rw [hd.2] at e
          cases e
      · rw [if_neg hd] at hs
        have := congrArg (fun p => p.2.2) hs
        cases this
/-- What a text has in common with a byte. -/
theorem takes_eq {a : UInt8} {l : List UInt8} (h : takes (· == a) l = true) : l = a :: rest (· == a) l := by
  cases l with
  | nil => cases h
  | cons b r =>
    have hb : b = a := by simpa [takes] using h
    subst hb
    rw [show rest (· == b) (b :: r) = r from if_pos (by simp)]
theorem matchAll_eq : ∀ (ws l : List UInt8) (k : Nat), (matchAll ws l k).1 = true → l = ws ++ (matchAll ws l k).2.1
  | [], _, _, _ => rfl
  | a :: ws, l, k, h => by
    unfold matchAll at h ⊢
    by_cases ht : takes (· == a) l = true
    · rw [if_pos ht] at h ⊢
      have := matchAll_eq ws _ _ h
      rw [List.cons_append, ← this]
      exact takes_eq ht
    · rw [if_neg ht] at h; cases h
theorem dig_of {b : UInt8} (h : isDig b = true) : 48 ≤ b.toNat ∧ b.toNat ≤ 57 := by simpa [isDig] using h
theorem readNum_eq {l : List UInt8} {k : Nat} (h : (readNum l k).2.1 = true) : l = Lib.decDigits (readNum l k).1 ++ 58 :: (readNum l k).2.2.1 := by
  cases l with
  | nil => cases h
  | cons b r =>
    unfold readNum at h ⊢
    by_cases hb : isDig b = true
    · simp only [hb, if_true] at h ⊢
      have h48 := dig_of hb
      by_cases hc : 0 < b.toNat - 48 ∧ isDig (nextB r) = true ∧ 10 * (b.toNat - 48) + ((nextB r).toNat - 48) ≤ 40
      · rw [if_pos hc] at h ⊢
        dsimp only at h ⊢
        cases r with
        | nil => exact absurd hc.2.1 (by decide)
        | cons c q =>
          have hcd : isDig c = true := hc.2.1
          have h49 := dig_of hcd
          rw [show rest isDig (c :: q) = q from if_pos hcd] at h ⊢
          rw [show nextB (c :: q) = c from rfl]
          rw [Lib.decDigits_two (by omega) (by omega)]
          have e1 : UInt8.ofNat (48 + (10 * (b.toNat - 48) + (c.toNat - 48)) / 10) = b := by
            rw [show 48 + (10 * (b.toNat - 48) + (c.toNat - 48)) / 10 = b.toNat by omega]
            exact UInt8.ofNat_toNat
          have e2 : UInt8.ofNat (48 + (10 * (b.toNat - 48) + (c.toNat - 48)) % 10) = c := by
            rw [show 48 + (10 * (b.toNat - 48) + (c.toNat - 48)) % 10 = c.toNat by omega]
            exact UInt8.ofNat_toNat
          rw [e1, e2, ← takes_eq h]
          rfl
      · rw [if_neg hc] at h ⊢
        dsimp only at h ⊢
        rw [Lib.decDigits_one (by omega), show 48 + (b.toNat - 48) = b.toNat by omega, UInt8.ofNat_toNat, ← takes_eq h]
        rfl
    · simp only [if_neg hb] at h; cases h
theorem takeN_true' : ∀ (n : Nat) (l : List UInt8) (k : Nat), (takeN n l k).1 = true → l = l.take n ++ (takeN n l k).2.1 ∧ (l.take n).length = n ∧ ∀ b ∈ l.take n, okB b = true
  | 0, _, _, _ => ⟨rfl, rfl, fun _ h => by cases h⟩
  | n + 1, l, k, h => by
    unfold takeN at h ⊢
    by_cases ht : takes okB l = true
    · rw [if_pos ht] at h ⊢
      cases l with
      | nil => cases ht
      | cons b r =>
        have hb : okB b = true := ht
        rw [show rest okB (b :: r) = r from if_pos hb] at h ⊢
        obtain ⟨h1, h2, h3⟩ := takeN_true' n _ _ h
        rw [List.take_succ_cons]
        exact ⟨by rw [List.cons_append, ← h1], by rw [List.length_cons, h2], fun c hc => by
          rcases List.mem_cons.1 hc with rfl | hc
          · exact hb
          · exact h3 c hc⟩
    · rw [if_neg ht] at h; cases h
theorem readLine_eq {l : List UInt8} {k : Nat} {x : List UInt8} (h : (readLine l k).1 = some x) : l = Lib.decDigits x.length ++ (58 :: (x ++ (10 :: (readLine l k).2.1))) := by
  have e := @readNum_eq l k
  unfold readLine at h ⊢
  dsimp only at h ⊢
  generalize readNum l k = q at *
  obtain ⟨n, s, l1, k1⟩ := q
  dsimp only at e h ⊢
  cases s
  · simp [runN] at h
  · have e := e rfl
    simp only [runN, if_true] at h ⊢
    by_cases h1 : (takeN n l1 k1).1 = true
    · rw [if_pos h1] at h ⊢
      obtain ⟨a1, a2, _⟩ := takeN_true' n l1 k1 h1
      by_cases h2 : takes (· == 10) (takeN n l1 k1).2.1 = true
      · rw [if_pos h2] at h ⊢
        injection h with h
        subst h
        dsimp only
        rw [a2, ← takes_eq h2, ← a1]
        exact e
      · rw [if_neg h2] at h; cases h
    · rw [if_neg h1] at h; cases h
theorem bts_ba (x : List UInt8) : bts (ba x) = x := by simp [ba]
theorem lines_eq : ∀ (n : Nat) (out : List ByteArray) (l : List UInt8) (k : Nat) (o : List ByteArray) (r : List UInt8) (p : Nat), lines n out l k = .inr (o, r, p) → ∃ fs, o = out ++ fs ∧ l = printed fs ++ r ∧ nextB r = 61
  | 0, _, _, _, _, _, _, h => by cases h
  | n + 1, out, l, k, o, r, p, h => by
    unfold lines at h
    by_cases h1 : nextB l = 61
    · rw [if_pos h1] at h
      injection h with e
      injection e with e1 e2
      injection e2 with e2 e3
      subst e1; subst e2
      exact ⟨[], by simp, rfl, h1⟩
    · rw [if_neg h1] at h
      by_cases h2 : out.length = 24
      · rw [if_pos h2] at h; cases h
      · rw [if_neg h2] at h
        cases hx : (readLine l k).1 with
        | none => rw [hx] at h; cases h
        | some x =>
          simp only [hx] at h
          obtain ⟨fs, e1, e2, e3⟩ := lines_eq n _ _ _ _ _ _ h
          refine ⟨ba x :: fs, by rw [e1, List.append_assoc]; rfl, ?_, e3⟩
          have e := readLine_eq hx
          rw [e2] at e
          rw [e]
          have hs : (ba x).size = x.length := by simp [ba, ByteArray.size]
          simp [printed, hs, bts_ba]
theorem parse_text {t : List UInt8} {g : List ByteArray} {n : Nat} (h : parse t = (g, n, 0)) : n = 0 ∧ text g = t := by
  unfold parse at h
  cases hL : lines 25 [] t 0 with
  | inl x =>
    exfalso
    rw [hL] at h
    have he : x.1 = 0 := congrArg (fun p => p.2.2) h
    have : ∀ (n : Nat) (out : List ByteArray) (l : List UInt8) (k : Nat), ∀ x, lines n out l k = .inl x → x.1 ≠ 0 := by
      intro n
      induction n with
      | zero => intro out l k x h; injection h with h; subst h; exact (by decide : (11 : Int) ≠ 0)
      | succ n ih =>
        intro out l k x h
        unfold lines at h
        split at h
        · cases h
        · split at h
          · injection h with h; subst h; dsimp only; split <;> decide
          · split at h
            · exact ih _ _ _ _ h
            · injection h with h; subst h; exact (by decide : (11 : Int) ≠ 0)
    exact this _ _ _ _ _ hL he
  | inr x =>
    obtain ⟨o, r, p⟩ := x
    rw [hL] at h
    unfold ending at h
    dsimp only at h
    by_cases hc : (matchAll (endOf o) (rest (· == 61) r) (on (· == 61) r p)).1 = true ∧ (matchAll (endOf o) (rest (· == 61) r) (on (· == 61) r p)).2.1 = []
    · rw [if_pos hc] at h
      injection h with h1 h2
      injection h2 with h2 h3
      subst h1
      refine ⟨h2.symm, ?_⟩
      obtain ⟨fs, e1, e2, e3⟩ := lines_eq _ _ _ _ _ _ _ hL
      rw [List.nil_append] at e1
      subst e1
      have h61 : takes (· == 61) r = true := by
        cases r with
        | nil => exact absurd e3 (by decide)
        | cons b q => have : b = 61 := e3; subst this; rfl
      have m := matchAll_eq _ _ _ hc.1
      rw [hc.2, List.append_nil] at m
      unfold text
      rw [← m, ← takes_eq h61, ← e2]
    · rw [if_neg hc] at h
      have := congrArg (fun p => p.2.2) h
      cases this
theorem takes_cons (a : UInt8) (l : List UInt8) : takes (· == a) (a :: l) = true := by simp [takes]
theorem rest_cons (a : UInt8) (l : List UInt8) : rest (· == a) (a :: l) = l := if_pos (by simp)
theorem matchAll_self : ∀ (ws r : List UInt8) (k : Nat), matchAll ws (ws ++ r) k = (true, r, k + ws.length)
  | [], _, _ => rfl
  | a :: ws, r, k => by
    unfold matchAll
    rw [List.cons_append, if_pos (takes_cons _ _), rest_cons, matchAll_self ws]
    unfold on
    rw [if_pos (takes_cons _ _), List.length_cons]
    exact congrArg (fun n => (true, r, n)) (by omega)
theorem readNum_self {n : Nat} (h : n ≤ 40) (r : List UInt8) (k : Nat) : ∃ k', readNum (Lib.decDigits n ++ 58 :: r) k = (n, true, r, k') := by
  by_cases h1 : n < 10
  · rw [Lib.decDigits_one h1]
    have ht : (UInt8.ofNat (48 + n)).toNat = 48 + n := by
      rw [UInt8.toNat_ofNat']; omega
    have hd : isDig (UInt8.ofNat (48 + n)) = true := by simp [isDig, ht]; omega
    refine ⟨k + 1 + 1, ?_⟩
    unfold readNum
    simp only [List.cons_append, List.nil_append, hd, if_true]
    rw [if_neg (by rintro ⟨_, h, _⟩; exact absurd h (by show ¬ isDig 58 = true; decide)), takes_cons, rest_cons, ht]
    unfold on
    rw [if_pos (takes_cons _ _)]
    exact congrArg (fun m => (m, true, r, k + 1 + 1)) (by omega)
  · rw [Lib.decDigits_two h1 (by omega)]
    have ht : (UInt8.ofNat (48 + n / 10)).toNat = 48 + n / 10 := by
      rw [UInt8.toNat_ofNat']; omega
    have ht2 : (UInt8.ofNat (48 + n % 10)).toNat = 48 + n % 10 := by
      rw [UInt8.toNat_ofNat']; omega
    have hd : isDig (UInt8.ofNat (48 + n / 10)) = true := by simp [isDig, ht]; omega
    have hd2 : isDig (UInt8.ofNat (48 + n % 10)) = true := by simp [isDig, ht2]; omega
    refine ⟨k + 1 + 1 + 1, ?_⟩
    unfold readNum
    simp only [List.cons_append, List.nil_append, hd, if_true]
    rw [if_pos ⟨by omega, hd2, by show 10 * _ + ((UInt8.ofNat (48 + n % 10)).toNat - 48) ≤ 40; omega⟩]
    rw [show rest isDig (UInt8.ofNat (48 + n % 10) :: 58 :: r) = 58 :: r from if_pos hd2, takes_cons, rest_cons]
    rw [show nextB (UInt8.ofNat (48 + n % 10) :: 58 :: r) = UInt8.ofNat (48 + n % 10) from rfl, ht, ht2]
    rw [show on isDig (UInt8.ofNat (48 + n % 10) :: 58 :: r) (k + 1) = k + 1 + 1 from if_pos hd2]
    unfold on
    rw [if_pos (takes_cons _ _)]
    exact congrArg (fun m => (m, true, r, k + 1 + 1 + 1)) (by omega)
theorem takeN_self : ∀ (x r : List UInt8) (k : Nat), (∀ b ∈ x, okB b = true) → takeN x.length (x ++ r) k = (true, r, k + x.length)
  | [], _, _, _ => rfl
  | b :: x, r, k, h => by
    have hb : okB b = true := h b (by simp)
    rw [List.length_cons]
    unfold takeN
    rw [List.cons_append, if_pos (show takes okB (b :: (x ++ r)) = true from hb), show rest okB (b :: (x ++ r)) = x ++ r from if_pos hb, takeN_self x r _ (fun c hc => h c (List.mem_cons_of_mem _ hc))]
    rw [show on okB (b :: (x ++ r)) k = k + 1 from if_pos hb]
    exact congrArg (fun n => (true, r, n)) (by omega)
theorem readLine_self {x : List UInt8} (h : x.length ≤ 40) (hx : ∀ b ∈ x, okB b = true) (r : List UInt8) (k : Nat) : ∃ k', readLine (Lib.decDigits x.length ++ 58 :: (x ++ 10 :: r)) k = (some x, r, k') := by
  obtain ⟨k', h1⟩ := readNum_self h (x ++ 10 :: r) k
  unfold readLine
  rw [h1]
  simp only [runN, if_true]
  rw [takeN_self x _ _ hx]
  simp only [if_true, takes_cons, rest_cons]
  exact ⟨_, by rw [List.take_left]⟩
theorem dec_head {n : Nat} (h : n ≤ 40) (r : List UInt8) : nextB (Lib.decDigits n ++ r) ≠ 61 := by
  have : ∀ n : Fin 41, (Lib.decDigits n.val).head? ≠ none ∧ (Lib.decDigits n.val).head? ≠ some 61 := by
    intro n
    by_cases h1 : n.val < 10
    · rw [Lib.decDigits_one h1]
      refine ⟨by simp, fun e => ?_⟩
      have e : UInt8.ofNat (48 + n.val) = 61 := by simpa using e
      have := congrArg UInt8.toNat e
      rw [UInt8.toNat_ofNat'] at this
      have h61 : (61 : UInt8).toNat = 61 := rfl
      omega
    · rw [Lib.decDigits_two h1 (by omega)]
      refine ⟨by simp, fun e => ?_⟩
      have e : UInt8.ofNat (48 + n.val / 10) = 61 := by simpa using e
      have := congrArg UInt8.toNat e
      rw [UInt8.toNat_ofNat'] at this
      have h61 : (61 : UInt8).toNat = 61 := rfl
      omega
  obtain ⟨a, b⟩ := this ⟨n, by omega⟩
  dsimp only at a b
  cases hd : Lib.decDigits n with
  | nil => rw [hd] at a; exact absurd rfl a
  | cons c q =>
    rw [hd] at b
    intro e
    exact b (congrArg some e)
theorem lines_self : ∀ (fs : List ByteArray) (n : Nat) (out : List ByteArray) (r : List UInt8) (k : Nat), fs.length < n → out.length + fs.length ≤ 24 → (∀ s ∈ fs, s.size ≤ 40 ∧ okLine s = true) → ∃ k', lines n out (printed fs ++ 61 :: r) k = .inr (out ++ fs, 61 :: r, k')
  | [], n + 1, out, r, k, _, _, _ => ⟨k, by unfold lines; rw [if_pos (show nextB (printed [] ++ 61 :: r) = 61 from rfl), List.append_nil]; rfl⟩
  | s :: fs, n + 1, out, r, k, hn, hl, hs => by
    simp only [List.length_cons] at hn hl
    obtain ⟨w1, w2⟩ := hs s (by simp)
    have hsz : s.size = (bts s).length := by simp
    have hx : ∀ b ∈ bts s, okB b = true := fun b hb => List.all_eq_true.1 w2 b hb
    obtain ⟨k1, h1⟩ := readLine_self (by omega) hx (printed fs ++ 61 :: r) k
    have e : printed (s :: fs) ++ 61 :: r = Lib.decDigits (bts s).length ++ 58 :: (bts s ++ 10 :: (printed fs ++ 61 :: r)) := by simp [printed]
    obtain ⟨k', h2⟩ := lines_self fs n (out ++ [ba (bts s)]) r k1 (by omega) (by simp; omega) (fun t ht => hs t (List.mem_cons_of_mem _ ht))
    refine ⟨k', ?_⟩
    rw [e]
    unfold lines
    rw [if_neg (dec_head (by omega) _), if_neg (by omega), h1]
    dsimp only
    rw [h2]
    have hb : ba (bts s) = s := by apply ByteArray.ext; simp [ba]
    rw [hb, List.append_assoc]
    rfl
  | _, 0, _, _, _, h, _, _ => by omega
/-- What is printed is parsed to the same file. -/
theorem parse_self {f : List ByteArray} (h : f.length ≤ 24) (hs : ∀ s ∈ f, s.size ≤ 40 ∧ okLine s = true) : parse (text f) = (f, 0, 0) := by
  obtain ⟨k', h1⟩ := lines_self f 25 [] (endOf f) 0 (by omega) (by simpa using h) hs
  unfold parse text
  rw [h1]
  unfold ending
  dsimp only
  have m := matchAll_self (endOf f) [] (on (· == 61) (61 :: endOf f) k')
  rw [List.append_nil] at m
  rw [List.nil_append, rest_cons, m]
  simp
/-- An error of a text: there are no lines, and it is one of three, at a byte or at the end. -/
theorem rest_len (p : UInt8 → Bool) (l : List UInt8) (k : Nat) : on p l k + (rest p l).length = k + l.length := by
  cases l with
  | nil => rfl
  | cons b r =>
    unfold on rest takes
    by_cases h : p b = true
    · simp only [h, if_true, List.length_cons]; omega
    · simp only [h, if_false, Bool.false_eq_true]
theorem takeN_len : ∀ (n : Nat) (l : List UInt8) (k : Nat), (takeN n l k).2.2 + (takeN n l k).2.1.length = k + l.length
  | 0, _, _ => rfl
  | n + 1, l, k => by
    unfold takeN
    split
    · rw [takeN_len n, rest_len]
    · rfl
theorem readNum_len' (l : List UInt8) (k : Nat) : (readNum l k).2.2.2 + (readNum l k).2.2.1.length = k + l.length := by
  cases l with
  | nil => rfl
  | cons b r =>
    unfold readNum
    dsimp only
    split
    · split
      · dsimp only
        rw [rest_len, rest_len, List.length_cons]; omega
      · dsimp only
        rw [rest_len, List.length_cons]; omega
    · rfl
theorem readLine_len' (l : List UInt8) (k : Nat) : (readLine l k).2.2 + (readLine l k).2.1.length = k + l.length := by
  have h1 := readNum_len' l k
  unfold readLine
  dsimp only
  generalize readNum l k = q at *
  obtain ⟨n, s, l1, k1⟩ := q
  dsimp only at h1 ⊢
  have h2 : (runN s n l1 k1).2.2 + (runN s n l1 k1).2.1.length = k1 + l1.length := by
    unfold runN
    split
    · exact takeN_len _ _ _
    · rfl
  generalize runN s n l1 k1 = t at *
  split
  · split
    · dsimp only; rw [rest_len]; omega
    · dsimp only; omega
  · dsimp only; omega
theorem lines_len : ∀ (n : Nat) (out : List ByteArray) (l : List UInt8) (k : Nat), (∀ x, lines n out l k = .inl x → (x.1 = 2 ∨ x.1 = 11) ∧ x.2 ≤ k + l.length) ∧ (∀ o r p, lines n out l k = .inr (o, r, p) → p + r.length = k + l.length)
  | 0, _, _, _ => ⟨fun _ h => by injection h with h; subst h; exact ⟨.inr rfl, Nat.le_add_right _ _⟩, fun _ _ _ h => by cases h⟩
  | n + 1, out, l, k => by
    unfold lines
    split
    · exact ⟨fun _ h => (by cases h), fun o r p e => by injection e with e; injection e with e1 e2; injection e2 with e2 e3; subst e2; subst e3; rfl⟩
    · split
      · refine ⟨fun _ h => ?_, fun _ _ _ h => by cases h⟩
        injection h with h
        subst h
        refine ⟨?_, Nat.le_add_right _ _⟩
        dsimp only
        split
        · exact .inl rfl
        · exact .inr rfl
      · have hl := readLine_len' l k
        split
        · obtain ⟨h1, h2⟩ := lines_len n (out ++ [ba _]) (readLine l k).2.1 (readLine l k).2.2
          exact ⟨fun x h => ⟨(h1 x h).1, by have := (h1 x h).2; omega⟩, fun o r p h => by rw [h2 o r p h, hl]⟩
        · refine ⟨fun _ h => ?_, fun _ _ _ h => by cases h⟩
          injection h with h
          subst h
          exact ⟨.inr rfl, by dsimp only; omega⟩
theorem matchAll_len : ∀ (ws l : List UInt8) (k : Nat), (matchAll ws l k).2.2 + (matchAll ws l k).2.1.length = k + l.length
  | [], _, _ => rfl
  | a :: ws, l, k => by
    unfold matchAll
    split
    · rw [matchAll_len ws, rest_len]
    · rfl
theorem parse_err (t : List UInt8) (h : (parse t).2.2 ≠ 0) : (parse t).1 = [] ∧ (parse t).2.1 ≤ t.length ∧ ((parse t).2.2 = 2 ∨ (parse t).2.2 = 8 ∨ (parse t).2.2 = 11) := by
  obtain ⟨a1, a2⟩ := lines_len 25 [] t 0
  unfold parse at h ⊢
  cases hL : lines 25 [] t 0 with
  | inl x =>
    obtain ⟨b1, b2⟩ := a1 x hL
    refine ⟨rfl, ?_, ?_⟩
    · show x.2 ≤ t.length; omega
    · rcases b1 with b1 | b1
      · exact .inl b1
      · exact .inr (.inr b1)
  | inr x =>
    obtain ⟨o, r, p⟩ := x
    have b := a2 o r p hL
    rw [hL] at h
    unfold ending at h ⊢
    dsimp only at h ⊢
    have m := matchAll_len (endOf o) (rest (· == 61) r) (on (· == 61) r p)
    have q := rest_len (· == 61) r p
    split
    · rename_i hc; rw [if_pos hc] at h; exact absurd rfl h
    · refine ⟨rfl, ?_, .inr (.inl rfl)⟩
      dsimp only
      omega
end File
namespace File
theorem lines_good : ∀ (n : Nat) (out : List ByteArray) (l : List UInt8) (k : Nat) (o : List ByteArray) (r : List UInt8) (p : Nat), Fl.Good out → lines n out l k = .inr (o, r, p) → Fl.Good o
  | 0, _, _, _, _, _, _, _, h => by cases h
  | n + 1, out, l, k, o, r, p, hg, h => by
    unfold lines at h
    by_cases h1 : nextB l = 61
    · rw [if_pos h1] at h
      injection h with e
      injection e with e1 e2
      exact e1 ▸ hg
    · rw [if_neg h1] at h
      by_cases h2 : out.length = 24
      · rw [if_pos h2] at h; cases h
      · rw [if_neg h2] at h
        cases hx : (readLine l k).1 with
        | none => rw [hx] at h; cases h
        | some x =>
          simp only [hx] at h
          have hxg := Fl.readLine_good hx
          have := hg.many
          exact lines_good n _ _ _ _ _ _ (hg.snoc (by omega) hxg.1 hxg.2) h
theorem parse_good {t : List UInt8} {g : List ByteArray} {n : Nat} (h : parse t = (g, n, 0)) : check g = 0 := by
  by_cases he : (parse t).2.2 = 0
  · unfold parse at h he
    cases hL : lines 25 [] t 0 with
    | inl x =>
      rw [hL] at h he
      have := ((lines_len 25 [] t 0).1 x hL).1
      have he : x.1 = 0 := he
      omega
    | inr x =>
      obtain ⟨o, r, p⟩ := x
      rw [hL] at h he
      unfold ending at h he
      dsimp only at h he
      by_cases hc : (matchAll (endOf o) (rest (· == 61) r) (on (· == 61) r p)).1 = true ∧ (matchAll (endOf o) (rest (· == 61) r) (on (· == 61) r p)).2.1 = []
      · rw [if_pos hc] at h
        injection h with h1 h2
        rw [← h1]
        exact Fl.check_of_good (lines_good _ _ _ _ _ _ _ Fl.Good.nil hL)
      · rw [if_neg hc] at he
        exact absurd he (by decide : (8 : Int) ≠ 0)
  · rw [h] at he; exact absurd rfl he
/-- What FileTorn says of one text that begins as the text of a file does. -/
theorem torn {f : List ByteArray} (hf : check f = 0) {t : List UInt8} {i : Nat} (hi : i ≤ (text f).length) (ht : (text f).take i = t.take i) (hl : i ≤ t.length) :
    ((parse t).2.2 ≠ 0 → (parse t).1 = [] ∧ (parse t).2.1 ≤ t.length ∧ ((parse t).2.2 = 2 ∨ (parse t).2.2 = 8 ∨ (parse t).2.2 = 11) ∧ i ≤ (parse t).2.1) ∧
    ((parse t).2.2 = 0 → (parse t).2.1 = 0 ∧ check (parse t).1 = 0 ∧ text (parse t).1 = t ∧ (t = text f ↔ f = (parse t).1)) := by
  have hg := Fl.good_of_check hf
  have hs := parse_self hg.many fun s hs => ⟨hg.wide s hs, hg.ok s hs⟩
  refine ⟨fun he => ?_, fun he => ?_⟩
  · obtain ⟨h1, h2, h3⟩ := parse_err t he
    exact ⟨h1, h2, h3, parse_prefix hs ht he⟩
  · have e : parse t = ((parse t).1, (parse t).2.1, 0) := by rw [← he]
    obtain ⟨h1, h2⟩ := parse_text e
    refine ⟨h1, parse_good e, h2, fun h => ?_, fun h => ?_⟩
    · rw [h, hs]
    · rw [← h2, ← h]
end File
end Go.Proofs.YtekkhnjepcebkaaGreatDoor
