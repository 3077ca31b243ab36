/- Laws of joins: copies that are exchanged, one copy that is the base, or both the same; what a join has, and its conflicts. Plain laws. -/
import Derived.Test.YtkhmkpcihphkcaaDoorFileJoin
import Derived.Test.YtkhmkpcihphkcaaDoorFileAlk
set_option linter.unusedVariables false
set_option linter.unusedSimpArgs false
namespace Go.Proofs.YtkhmkpcihphkcaaDoor
namespace File
set_option linter.unusedSectionVars false
section
variable {α : Type} [DecidableEq α]
def Block.swap (b : Block α) : Block α := ⟨b.lo, b.hi, b.e1, b.e0⟩
theorem swap_add (b : Block α) (k : Bool) (x : Edit α) : (b.add k x).swap = b.swap.add (!k) x := by cases k <;> rfl
theorem swap_new (k : Bool) (x : Edit α) : (Block.new k x).swap = Block.new (!k) x := by cases k <;> rfl
theorem add_add (b : Block α) (x y : Edit α) : (b.add false x).add true y = (b.add true y).add false x := by
  simp [Block.add, Nat.max_assoc, Nat.max_comm x.hi y.hi]
theorem new_add {x y : Edit α} (h : x.lo = y.lo) : (Block.new false x).add true y = (Block.new true y).add false x := by
  simp [Block.add, Block.new, Nat.max_comm x.hi y.hi, h]
theorem merge_tie {n : Nat} {x y : Edit α} {c d : List (Edit α)} {lo : Nat} (h : x.at_ = y.at_) (hc : Chain lo (x :: c)) : mergeGo (n + 2) (x :: c) (y :: d) = (false, x) :: (true, y) :: mergeGo n c d := by
  have h1 : ¬ y.at_ < x.at_ := by omega
  have : mergeGo (n + 2) (x :: c) (y :: d) = (false, x) :: mergeGo (n + 1) c (y :: d) := by
    show (if y.at_ < x.at_ then _ else _) = _
    rw [if_neg h1]
  rw [this]
  congr 1
  cases c with
  | nil => rfl
  | cons z c =>
    have h2 : y.at_ < z.at_ := by
      have := hc.2.1
      have h3 := hc.1
      unfold Edit.hi at this
      omega
    show (if y.at_ < z.at_ then _ else _) = _
    rw [if_pos h2]
theorem grow_swap : ∀ (n : Nat) (c d : List (Edit α)) (b : Block α) (lo : Nat), c.length + d.length ≤ n → Chain lo c → Chain lo d → (grow b (mergeGo n c d)).map Block.swap = grow b.swap (mergeGo n d c) := by
  intro n
  induction n using Nat.strongRecOn with
  | ind n ih =>
    intro c d b lo hl hc hd
    have step : ∀ (m : Nat) (c' d' : List (Edit α)) (k : Bool) (x : Edit α), m < n → c'.length + d'.length ≤ m → (∃ lo, Chain lo c' ∧ Chain lo d') → (grow b ((k, x) :: mergeGo m c' d')).map Block.swap = grow b.swap ((!k, x) :: mergeGo m d' c') := by
      intro m c' d' k x hm hl' ⟨lo', h1, h2⟩
      simp only [grow]
      show List.map _ (if x.lo ≤ b.hi then _ else _) = if x.lo ≤ b.hi then _ else _
      split
      · rw [ih m hm c' d' _ lo' hl' h1 h2, swap_add]
      · rw [List.map_cons, ih m hm c' d' _ lo' hl' h1 h2, swap_new]
    cases n with
    | zero =>
      have h1 : c = [] := List.eq_nil_of_length_eq_zero (by omega)
      have h2 : d = [] := List.eq_nil_of_length_eq_zero (by omega)
      subst h1 h2
      rfl
    | succ n =>
      cases c with
      | nil =>
        cases d with
        | nil => rfl
        | cons y d =>
          exact step n [] d true y (by omega) (by simp at hl ⊢; omega) ⟨y.hi + 1, trivial, hd.2⟩
      | cons x c =>
        cases d with
        | nil => exact step n c [] false x (by omega) (by simp at hl ⊢; omega) ⟨x.hi + 1, hc.2, trivial⟩
        | cons y d =>
          have c2 := (Chain.suf (c := []) hc).2
          have d2 := (Chain.suf (c := []) hd).2
          have hx0 := hc.1
          have hy0 := hd.1
          rcases Int.lt_trichotomy y.at_ x.at_ with h | h | h
          · have e1 : mergeGo (n + 1) (x :: c) (y :: d) = (true, y) :: mergeGo n (x :: c) d := by
              show (if y.at_ < x.at_ then _ else _) = _
              rw [if_pos h]
            have e2 : mergeGo (n + 1) (y :: d) (x :: c) = (false, y) :: mergeGo n d (x :: c) := by
              show (if x.at_ < y.at_ then _ else _) = _
              rw [if_neg (by omega)]
            rw [e1, e2]
            exact step n (x :: c) d true y (by omega) (by simp at hl ⊢; omega) ⟨lo, hc, hd.2.weaken (by unfold Edit.hi; omega)⟩
          · obtain ⟨m, rfl⟩ : ∃ m, n = m + 1 := ⟨n - 1, by simp at hl; omega⟩
            rw [merge_tie h.symm hc, merge_tie h hd]
            have hlo : x.lo = y.lo := by unfold Edit.lo; omega
            have hm : c.length + d.length ≤ m := by simp at hl; omega
            have hcc : Chain lo c := hc.2.weaken (by unfold Edit.hi; omega)
            have hdd : Chain lo d := hd.2.weaken (by unfold Edit.hi; omega)
            have m1 : ∀ b' : Block α, b'.hi ≤ (b'.add false x).hi ∧ b'.hi ≤ (b'.add false y).hi := fun b' => ⟨Nat.le_max_left _ _, Nat.le_max_left _ _⟩
            simp only [grow]
            by_cases hb : x.lo ≤ b.hi
            · have hb' : y.lo ≤ b.swap.hi := by rw [← hlo]; exact hb
              rw [if_pos hb, if_pos (by have := (m1 b).1; omega), if_pos hb', if_pos (by have := (m1 b.swap).2; omega)]
              rw [ih m (by omega) c d _ lo hm hcc hdd, swap_add, swap_add]
              congr 1
              exact (add_add b.swap y x).symm
            · have hb' : ¬ y.lo ≤ b.swap.hi := by rw [← hlo]; exact hb
              rw [if_neg hb, if_pos (by show y.lo ≤ x.hi; have := x.lo_hi; omega), if_neg hb', if_pos (by show x.lo ≤ y.hi; have := y.lo_hi; omega)]
              rw [List.map_cons, ih m (by omega) c d _ lo hm hcc hdd, swap_add, swap_new]
              congr 2
              exact (new_add hlo.symm).symm
          · have e1 : mergeGo (n + 1) (x :: c) (y :: d) = (false, x) :: mergeGo n c (y :: d) := by
              show (if y.at_ < x.at_ then _ else _) = _
              rw [if_neg (by omega)]
            have e2 : mergeGo (n + 1) (y :: d) (x :: c) = (true, x) :: mergeGo n (y :: d) c := by
              show (if x.at_ < y.at_ then _ else _) = _
              rw [if_pos h]
            rw [e1, e2]
            exact step n c (y :: d) false x (by omega) (by simp at hl ⊢; omega) ⟨lo, hc.2.weaken (by unfold Edit.hi; omega), hd⟩
/-- The same, from the first edit on: a block that no edit meets stands ahead. -/
theorem grow_ahead (b : Block α) (l : List (Bool × Edit α)) (h : ∀ p ∈ l, b.hi < p.2.lo) : grow b l = b :: blocksOf l := by
  cases l with
  | nil => rfl
  | cons p r =>
    have := h p List.mem_cons_self
    simp only [grow, blocksOf]
    rw [if_neg (by omega)]
/-- Edits moved down the list by one line. -/
def Edit.down (x : Edit α) : Edit α := ⟨x.at_ + 1, x.old, x.new⟩
def Block.down (b : Block α) : Block α := ⟨b.lo + 1, b.hi + 1, b.e0, b.e1⟩
theorem blocks_swap {c d : List (Edit α)} (hc : Chain 0 c) (hd : Chain 0 d) : (blocks c d).map Block.swap = blocks d c := by
  have key : ∀ (n : Nat) (c d : List (Edit α)), c.length + d.length ≤ n → Chain 0 c → Chain 0 d → (blocksOf (mergeGo n c d)).map Block.swap = blocksOf (mergeGo n d c) := by
    intro n c d hl hc hd
    cases n with
    | zero => rfl
    | succ n =>
      cases c with
      | nil =>
        cases d with
        | nil => rfl
        | cons y d =>
          show (grow _ (mergeGo n [] d)).map _ = grow _ (mergeGo n d [])
          rw [grow_swap n [] d _ (y.hi + 1) (by simp at hl ⊢; omega) trivial hd.2, swap_new]
          rfl
      | cons x c =>
        cases d with
        | nil =>
          show (grow _ (mergeGo n c [])).map _ = grow _ (mergeGo n [] c)
          rw [grow_swap n c [] _ (x.hi + 1) (by simp at hl ⊢; omega) hc.2 trivial, swap_new]
          rfl
        | cons y d =>
          rcases Int.lt_trichotomy y.at_ x.at_ with h | h | h
          · have e1 : mergeGo (n + 1) (x :: c) (y :: d) = (true, y) :: mergeGo n (x :: c) d := by
              show (if y.at_ < x.at_ then _ else _) = _
              rw [if_pos h]
            have e2 : mergeGo (n + 1) (y :: d) (x :: c) = (false, y) :: mergeGo n d (x :: c) := by
              show (if x.at_ < y.at_ then _ else _) = _
              rw [if_neg (by omega)]
            rw [e1, e2]
            show (grow _ _).map _ = grow _ _
            rw [grow_swap n (x :: c) d _ 0 (by simp at hl ⊢; omega) hc (hd.2.weaken (Nat.zero_le _)), swap_new]
            rfl
          · obtain ⟨m, rfl⟩ : ∃ m, n = m + 1 := ⟨n - 1, by simp at hl; omega⟩
            have hlo : x.lo = y.lo := by unfold Edit.lo; omega
            rw [merge_tie h.symm hc, merge_tie h hd]
            show (grow _ ((true, y) :: _)).map _ = grow _ ((true, x) :: _)
            simp only [grow]
            rw [if_pos (by show y.lo ≤ x.hi; have := x.lo_hi; omega), if_pos (by show x.lo ≤ y.hi; have := y.lo_hi; omega)]
            rw [grow_swap m c d _ 0 (by simp at hl ⊢; omega) (hc.2.weaken (Nat.zero_le _)) (hd.2.weaken (Nat.zero_le _)), swap_add, swap_new]
            congr 1
            exact (new_add hlo.symm).symm
          · have e1 : mergeGo (n + 1) (x :: c) (y :: d) = (false, x) :: mergeGo n c (y :: d) := by
              show (if y.at_ < x.at_ then _ else _) = _
              rw [if_neg (by omega)]
            have e2 : mergeGo (n + 1) (y :: d) (x :: c) = (true, x) :: mergeGo n (y :: d) c := by
              show (if x.at_ < y.at_ then _ else _) = _
              rw [if_pos h]
            rw [e1, e2]
            show (grow _ _).map _ = grow _ _
            rw [grow_swap n c (y :: d) _ 0 (by simp at hl ⊢; omega) (hc.2.weaken (Nat.zero_le _)) hd, swap_new]
            rfl
  unfold blocks merge
  rw [Nat.add_comm d.length c.length]
  exact key _ c d (Nat.le_refl _) hc hd
theorem joinGo_swap (base : List α) : ∀ (l : List (Block α)) (i : Nat), joinGo base i (l.map Block.swap) = joinGo base i l
  | [], _ => rfl
  | b :: r, i => by
    have ih := joinGo_swap base r b.hi
    simp only [List.map_cons, joinGo]
    show (if b.e0 = [] ∨ hasGo base b.hi b.lo b.e1 = hasGo base b.hi b.lo b.e0 then (cut base i b.lo ++ (hasGo base b.hi b.lo b.e1 ++ (joinGo base b.hi (r.map Block.swap)).1), (joinGo base b.hi (r.map Block.swap)).2)
      else if b.e1 = [] then (cut base i b.lo ++ (hasGo base b.hi b.lo b.e0 ++ (joinGo base b.hi (r.map Block.swap)).1), (joinGo base b.hi (r.map Block.swap)).2)
      else (cut base i b.lo ++ (cut base b.lo b.hi ++ (joinGo base b.hi (r.map Block.swap)).1), (b.lo, b.hi) :: (joinGo base b.hi (r.map Block.swap)).2)) = _
    rw [ih]
    by_cases h1 : b.e1 = []
    · by_cases h0 : b.e0 = []
      · rw [h1, h0]
      · by_cases h : hasGo base b.hi b.lo b.e0 = hasGo base b.hi b.lo b.e1
        · rw [if_pos (.inr h.symm), if_pos (.inl h1), h]
        · rw [if_neg (by rintro (h2 | h2); exact h0 h2; exact h h2.symm), if_pos h1, if_pos (.inl h1)]
    · by_cases h : hasGo base b.hi b.lo b.e0 = hasGo base b.hi b.lo b.e1
      · rw [if_pos (.inr h.symm), if_pos (.inr h), h]
      · by_cases h0 : b.e0 = []
        · rw [if_pos (.inl h0), if_neg (by rintro (h2 | h2); exact h1 h2; exact h h2), if_pos h0]
        · rw [if_neg (by rintro (h2 | h2); exact h0 h2; exact h h2.symm), if_neg h1, if_neg (by rintro (h2 | h2); exact h1 h2; exact h h2), if_neg h0]
/-- Copies are joined in either order to the same. -/
theorem join_swap (base a b : List α) : join base a b = join base b a := by
  unfold join
  rw [← blocks_swap (chain_diff base a) (chain_diff base b), joinGo_swap]
/-- What a change makes, told from its start on. -/
theorem make_has {f : List α} : ∀ {c : List (Edit α)} {lo : Nat}, Chain lo c → Within f.length c → make f c = f.take lo ++ hasGo f f.length lo c
  | [], lo, _, _ => by
    simp only [make, List.foldr_nil, hasGo, cut]
    rw [List.take_of_length_le (l := f.drop lo) (by simp), List.take_append_drop]
  | x :: r, lo, ⟨h1, h2⟩, hw => by
    have hx := hw x List.mem_cons_self
    have hr : Within f.length r := fun y hy => hw y (List.mem_cons_of_mem _ hy)
    have hlh := x.lo_hi
    have hlo : lo ≤ x.lo := by unfold Edit.lo; omega
    have ih := make_has (f := f) (h2.weaken (Nat.le_succ x.hi)) hr
    show made (make f r) x = _
    rw [ih]
    simp only [made, hasGo]
    have e1 : x.at_.toNat = x.lo := rfl
    have e2 : x.at_.toNat + x.old.length = x.hi := rfl
    have hl : (f.take x.hi).length = x.hi := by rw [List.length_take]; omega
    rw [e2, e1, List.take_append_of_le_length (by omega), List.take_take, Nat.min_eq_left hlh]
    have e3 : (f.take x.hi ++ hasGo f f.length x.hi r).drop x.hi = hasGo f f.length x.hi r := by
      rw [List.drop_append_of_le_length (by omega), List.drop_of_length_le (by omega), List.nil_append]
    rw [e3, ← List.append_assoc (f.take lo)]
    congr 1
    unfold cut
    have : f.take x.lo = f.take lo ++ (f.drop lo).take (x.lo - lo) := by
      rw [← List.take_add]
      congr 1
      omega
    rw [this]
theorem has_diff (a b : List α) : hasGo a a.length 0 (diff a b) = b := by
  have := make_has (chain_diff a b) (within_diff a b)
  rw [make_diff] at this
  simpa using this.symm
theorem diffGo_some {a b : List α} : ∀ (l : List (Nat × Nat)) (i j : Nat), Pairs a b i j l → i ≤ a.length → j ≤ b.length → ∀ x ∈ diffGo a b i j (l ++ [(a.length, b.length)]), 0 < x.old.length + x.new.length
  | [], i, j, _, hi, hj, x, hx => by
    simp only [List.nil_append, diffGo, List.append_nil] at hx
    split at hx
    · cases hx
    · simp only [List.mem_singleton] at hx
      subst hx
      simp only [cut_length (Nat.le_refl a.length) hi, cut_length (Nat.le_refl b.length) hj]
      rename_i hn
      omega
  | p :: r, i, j, ⟨h1, h2, ⟨h3, h4, h5⟩, h6⟩, hi, hj, x, hx => by
    simp only [List.cons_append, diffGo] at hx
    rcases List.mem_append.1 hx with hx | hx
    · split at hx
      · cases hx
      · simp only [List.mem_singleton] at hx
        subst hx
        simp only [cut_length (Nat.le_of_lt h3) h1, cut_length (Nat.le_of_lt h4) h2]
        rename_i hn
        omega
    · exact diffGo_some r _ _ h6 (by omega) (by omega) x hx
theorem diff_some {a b : List α} {x : Edit α} (h : x ∈ diff a b) : 0 < x.old.length + x.new.length := diffGo_some (common a b) 0 0 (common_pairs a b) (Nat.zero_le _) (Nat.zero_le _) x h
theorem diff_self (a : List α) : diff a a = [] := by
  have h := cost_diff a a
  rw [common_length, lcs_self] at h
  cases hd : diff a a with
  | nil => rfl
  | cons x r =>
    have h1 : x ∈ diff a a := by rw [hd]; exact List.mem_cons_self
    have h2 := diff_some h1
    have h3 := cost_mem h1
    omega
/-- Blocks of one edit each. -/
theorem blocks_none : ∀ (c : List (Edit α)) (lo : Nat), Chain lo c → blocksOf (mergeGo c.length c []) = c.map fun x => ⟨x.lo, x.hi, [x], []⟩
  | [], _, _ => rfl
  | x :: c, lo, ⟨h1, h2⟩ => by
    show grow (Block.new false x) (mergeGo c.length c []) = _
    rw [grow_ahead, blocks_none c _ h2]
    · rfl
    · intro p hp
      obtain ⟨k1, k2⟩ := merge_filt c.length c [] (by simp)
      have hm := filt_mem hp
      cases hb : p.1 with
      | false =>
        rw [hb, k1] at hm
        have := h2.pos _ hm
        show x.hi < p.2.at_.toNat
        omega
      | true => rw [hb, k2] at hm; cases hm
theorem blocks_same : ∀ (c : List (Edit α)) (lo : Nat), Chain lo c → blocksOf (mergeGo (c.length + c.length) c c) = c.map fun x => ⟨x.lo, x.hi, [x], [x]⟩
  | [], _, _ => rfl
  | x :: c, lo, ⟨h1, h2⟩ => by
    rw [show (x :: c).length + (x :: c).length = (c.length + c.length) + 2 by simp only [List.length_cons]; omega, merge_tie rfl ⟨h1, h2⟩]
    show grow (Block.new false x) ((true, x) :: _) = _
    simp only [grow]
    rw [if_pos (by exact x.lo_hi), grow_ahead, blocks_same c _ h2]
    · simp [Block.add, Block.new]
    · intro p hp
      obtain ⟨k1, k2⟩ := merge_filt (c.length + c.length) c c (Nat.le_refl _)
      have hm := filt_mem hp
      have hh : ((Block.new false x).add true x).hi = x.hi := by simp [Block.add, Block.new]
      rw [hh]
      have : p.2 ∈ c := by
        cases hb : p.1 with
        | false => rw [hb, k1] at hm; exact hm
        | true => rw [hb, k2] at hm; exact hm
      have := h2.pos _ this
      show x.hi < p.2.at_.toNat
      omega
theorem cut_self (a : List α) (i : Nat) : cut a i i = [] := by unfold cut; simp
theorem join_each {base : List α} {f : Edit α → List (Edit α)} (hf : ∀ x, f x = [] ∨ f x = [x]) : ∀ {c : List (Edit α)} {lo : Nat}, Chain lo c → Within base.length c → joinGo base lo (c.map fun x => ⟨x.lo, x.hi, [x], f x⟩) = (hasGo base base.length lo c, [])
  | [], lo, _, _ => by
    simp only [List.map_nil, joinGo, hasGo, cut]
    rw [List.take_of_length_le (by simp)]
  | x :: r, lo, ⟨h1, h2⟩, hw => by
    have hr : Within base.length r := fun y hy => hw y (List.mem_cons_of_mem _ hy)
    have ih := join_each hf (h2.weaken (Nat.le_succ x.hi)) hr
    simp only [List.map_cons, joinGo]
    rw [if_pos (by rcases hf x with h | h; exact .inl h; exact .inr (by rw [h])), ih]
    simp only [hasGo, cut_self, List.nil_append, List.append_nil, List.append_assoc]
theorem join_base (base a : List α) : join base a base = (a, []) := by
  unfold join blocks merge
  rw [diff_self, List.length_nil, Nat.add_zero, blocks_none _ 0 (chain_diff base a), join_each (f := fun _ => []) (fun _ => .inl rfl) (chain_diff base a) (within_diff base a), has_diff]
theorem join_same (base a : List α) : join base a a = (a, []) := by
  unfold join blocks merge
  rw [blocks_same _ 0 (chain_diff base a), join_each (f := fun x => [x]) (fun _ => .inr rfl) (chain_diff base a) (within_diff base a), has_diff]
/-- Conflicts lie one behind the other, with a line between them. -/
def Parts (n : Nat) : Nat → List (Nat × Nat) → Prop
  | _, [] => True
  | i, p :: r => i ≤ p.1 ∧ p.1 ≤ p.2 ∧ p.2 ≤ n ∧ Parts n (p.2 + 1) r
theorem Parts.weaken {n : Nat} : ∀ {l : List (Nat × Nat)} {i i' : Nat}, Parts n i l → i' ≤ i → Parts n i' l
  | [], _, _, _, _ => trivial
  | _ :: _, _, _, ⟨h1, h2⟩, h => ⟨Nat.le_trans h h1, h2⟩
theorem joinGo_parts {base : List α} {n : Nat} : ∀ {l : List (Block α)} {i j : Nat}, BlocksOk n i l → Parts n i (joinGo base j l).2
  | [], _, _, _ => trivial
  | b :: r, i, j, ⟨h1, h2, h3, _, _, _, _, h8⟩ => by
    have ih : Parts n (b.hi + 1) (joinGo base b.hi r).2 := joinGo_parts h8
    simp only [joinGo]
    split
    · exact ih.weaken (by omega)
    · split
      · exact ih.weaken (by omega)
      · exact ⟨h1, h2, h3, ih⟩
theorem join_parts (base a b : List α) : Parts base.length 0 (join base a b).2 := joinGo_parts (blocks_ok (chain_diff base a) (chain_diff base b) (within_diff base a) (within_diff base b))
theorem mem_cut {a : List α} {i k : Nat} {s : α} (h : s ∈ cut a i k) : s ∈ a := List.mem_of_mem_drop (List.mem_of_mem_take h)
theorem mem_has {base : List α} {hi : Nat} {s : α} : ∀ {c : List (Edit α)} {i : Nat}, s ∈ hasGo base hi i c → s ∈ base ∨ ∃ x ∈ c, s ∈ x.new
  | [], _, h => .inl (mem_cut h)
  | x :: r, i, h => by
    simp only [hasGo] at h
    rcases List.mem_append.1 h with h | h
    · exact .inl (mem_cut h)
    · rcases List.mem_append.1 h with h | h
      · exact .inr ⟨x, List.mem_cons_self, h⟩
      · rcases mem_has h with h | ⟨y, hy, h⟩
        · exact .inl h
        · exact .inr ⟨y, List.mem_cons_of_mem _ hy, h⟩
theorem mem_joinGo {base : List α} {s : α} : ∀ {l : List (Block α)} {i : Nat}, s ∈ (joinGo base i l).1 → s ∈ base ∨ (∃ b ∈ l, ∃ x ∈ b.e0, s ∈ x.new) ∨ ∃ b ∈ l, ∃ x ∈ b.e1, s ∈ x.new
  | [], _, h => .inl (List.mem_of_mem_drop h)
  | b :: r, i, h => by
    have key : s ∈ (joinGo base b.hi r).1 → s ∈ base ∨ (∃ b' ∈ b :: r, ∃ x ∈ b'.e0, s ∈ x.new) ∨ ∃ b' ∈ b :: r, ∃ x ∈ b'.e1, s ∈ x.new := fun h => by
      rcases mem_joinGo h with h | ⟨b', hb, h⟩ | ⟨b', hb, h⟩
      · exact .inl h
      · exact .inr (.inl ⟨b', List.mem_cons_of_mem _ hb, h⟩)
      · exact .inr (.inr ⟨b', List.mem_cons_of_mem _ hb, h⟩)
    simp only [joinGo] at h
    split at h
    · rcases List.mem_append.1 h with h | h
      · exact .inl (mem_cut h)
      · rcases List.mem_append.1 h with h | h
        · rcases mem_has h with h | ⟨x, hx, h⟩
          · exact .inl h
          · exact .inr (.inl ⟨b, List.mem_cons_self, x, hx, h⟩)
        · exact key h
    · split at h
      · rcases List.mem_append.1 h with h | h
        · exact .inl (mem_cut h)
        · rcases List.mem_append.1 h with h | h
          · rcases mem_has h with h | ⟨x, hx, h⟩
            · exact .inl h
            · exact .inr (.inr ⟨b, List.mem_cons_self, x, hx, h⟩)
          · exact key h
      · rcases List.mem_append.1 h with h | h
        · exact .inl (mem_cut h)
        · rcases List.mem_append.1 h with h | h
          · exact .inl (mem_cut h)
          · exact key h
theorem new_mem {a b : List α} {s : α} : ∀ {l : List (Nat × Nat)} {i j : Nat} {x : Edit α}, x ∈ diffGo a b i j l → s ∈ x.new → s ∈ b
  | [], _, _, _, h, _ => by cases h
  | p :: r, i, j, x, h, hs => by
    simp only [diffGo] at h
    rcases List.mem_append.1 h with h | h
    · split at h
      · cases h
      · simp only [List.mem_singleton] at h
        subst h
        exact mem_cut hs
    · exact new_mem h hs
theorem old_mem {a b : List α} {s : α} : ∀ {l : List (Nat × Nat)} {i j : Nat} {x : Edit α}, x ∈ diffGo a b i j l → s ∈ x.old → s ∈ a
  | [], _, _, _, h, _ => by cases h
  | p :: r, i, j, x, h, hs => by
    simp only [diffGo] at h
    rcases List.mem_append.1 h with h | h
    · split at h
      · cases h
      · simp only [List.mem_singleton] at h
        subst h
        exact mem_cut hs
    · exact old_mem h hs
/-- A join has lines of the base and of the copies. -/
theorem join_mem {base a b : List α} {s : α} (h : s ∈ (join base a b).1) : s ∈ base ∨ s ∈ a ∨ s ∈ b := by
  rcases mem_joinGo h with h | ⟨k, hk, x, hx, h⟩ | ⟨k, hk, x, hx, h⟩
  · exact .inl h
  · exact .inr (.inl (new_mem ((mem_block0 hk).1.subset hx) h))
  · exact .inr (.inr (new_mem ((mem_block0 hk).2.subset hx) h))
/-- The join of two copies of an empty list. -/
theorem diff_nil_left (a : List α) : diff [] a = if a = [] then [] else [⟨0, [], a⟩] := by
  cases a with
  | nil => exact diff_self []
  | cons x a =>
    rw [if_neg (by simp)]
    simp [diff, diffGo, common, commonGo, first, firstGo, cut]
theorem join_nil (a b : List α) : join ([] : List α) a b = if a = [] ∨ a = b then (b, []) else if b = [] then (a, []) else ([], [(0, 0)]) := by
  unfold join
  rw [diff_nil_left, diff_nil_left]
  by_cases ha : a = []
  · subst ha
    rw [if_pos rfl, if_pos (Or.inl rfl)]
    by_cases hb : b = []
    · subst hb; rw [if_pos rfl]; rfl
    · rw [if_neg hb]
      show joinGo [] 0 [⟨0, 0, [], [⟨0, [], b⟩]⟩] = _
      have e0 : hasGo ([] : List α) 0 0 [] = [] := rfl
      have e1 : hasGo ([] : List α) 0 0 [⟨0, [], b⟩] = b := by
        show ([] : List α) ++ (b ++ []) = b
        simp
      simp only [joinGo, e0, e1]
      rw [if_neg (by simp; exact fun h => hb h)]
      simp [cut]
  · rw [if_neg ha]
    have e1 : hasGo ([] : List α) 0 0 [⟨0, [], a⟩] = a := by
      show ([] : List α) ++ (a ++ []) = a
      simp
    by_cases hb : b = []
    · subst hb
      rw [if_pos rfl, if_neg (by simp [ha]), if_pos rfl]
      show joinGo [] 0 [⟨0, 0, [⟨0, [], a⟩], []⟩] = _
      have e0 : hasGo ([] : List α) 0 0 [] = [] := rfl
      simp only [joinGo, e0, e1]
      simp [cut]
    · rw [if_neg hb]
      show joinGo [] 0 [⟨0, 0, [⟨0, [], a⟩], [⟨0, [], b⟩]⟩] = _
      have e0 : hasGo ([] : List α) 0 0 [⟨0, [], b⟩] = b := by
        show ([] : List α) ++ (b ++ []) = b
        simp
      simp only [joinGo, e0, e1]
      by_cases h : a = b
      · rw [if_pos (.inr h), if_pos (.inr h)]
        simp [cut, h]
      · rw [if_neg (by simp [h]), if_neg (by simp), if_neg (by simp [ha, h]), if_neg hb]
        simp [cut]
end
end File
end Go.Proofs.YtkhmkpcihphkcaaDoor
