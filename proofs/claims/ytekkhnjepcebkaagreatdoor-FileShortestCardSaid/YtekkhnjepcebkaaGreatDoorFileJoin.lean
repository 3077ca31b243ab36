/- Joins of lists: the edits of two changes in their order, blocks of those that meet, what a copy has in a block, and the join. Plain laws. -/
import Derived.Test.YtekkhnjepcebkaaGreatDoorFileDiff
set_option linter.unusedVariables false
set_option linter.unusedSimpArgs false
namespace Go.Proofs.YtekkhnjepcebkaaGreatDoor
namespace File
set_option linter.unusedSectionVars false
section
variable {α : Type} [DecidableEq α]
def Edit.lo (x : Edit α) : Nat := x.at_.toNat
def Edit.hi (x : Edit α) : Nat := x.at_.toNat + x.old.length
theorem Edit.lo_hi (x : Edit α) : x.lo ≤ x.hi := Nat.le_add_right _ _
/-- Edits that lie one behind the other, from a position on, with a line between them. -/
def Chain : Nat → List (Edit α) → Prop
  | _, [] => True
  | lo, x :: r => (lo : Int) ≤ x.at_ ∧ Chain (x.hi + 1) r
def Within (hi : Nat) (c : List (Edit α)) : Prop := ∀ x ∈ c, x.hi ≤ hi
theorem Chain.weaken : ∀ {c : List (Edit α)} {lo lo' : Nat}, Chain lo c → lo' ≤ lo → Chain lo' c
  | [], _, _, _, _ => trivial
  | _ :: _, _, _, ⟨h1, h2⟩, h => ⟨by omega, h2⟩
theorem Chain.pre : ∀ {c d : List (Edit α)} {lo : Nat}, Chain lo (c ++ d) → Chain lo c
  | [], _, _, _ => trivial
  | _ :: _, _, _, ⟨h1, h2⟩ => ⟨h1, Chain.pre h2⟩
theorem Chain.suf : ∀ {c : List (Edit α)} {x : Edit α} {r : List (Edit α)} {lo : Nat}, Chain lo (c ++ x :: r) → (lo : Int) ≤ x.at_ ∧ Chain x.lo (x :: r)
  | [], x, _, lo, ⟨h1, h2⟩ => ⟨h1, by show ((x.at_.toNat : Nat) : Int) ≤ x.at_; omega, h2⟩
  | y :: c, x, _, lo, ⟨h1, h2⟩ => by
    obtain ⟨h3, h4⟩ := Chain.suf (c := c) h2
    refine ⟨?_, h4⟩
    have : lo ≤ y.hi + 1 := by unfold Edit.hi; omega
    omega
theorem Chain.pos : ∀ {c : List (Edit α)} {lo : Nat}, Chain lo c → ∀ x ∈ c, (lo : Int) ≤ x.at_
  | y :: c, lo, ⟨h1, h2⟩, x, h => by
    rcases List.mem_cons.1 h with rfl | h
    · exact h1
    · have := Chain.pos h2 x h
      have : lo ≤ y.hi + 1 := by unfold Edit.hi; omega
      omega
theorem Within.mono {hi hi' : Nat} {c : List (Edit α)} (h : Within hi c) (hh : hi ≤ hi') : Within hi' c := fun x hx => Nat.le_trans (h x hx) hh
theorem chain_go {a b : List α} : ∀ (l : List (Nat × Nat)) (i j : Nat), Pairs a b i j l → i ≤ a.length → j ≤ b.length → Chain i (diffGo a b i j (l ++ [(a.length, b.length)])) ∧ Within a.length (diffGo a b i j (l ++ [(a.length, b.length)])) := by
  intro l
  induction l with
  | nil =>
    intro i j _ hi hj
    simp only [List.nil_append, diffGo, List.append_nil]
    split
    · exact ⟨trivial, fun x hx => by cases hx⟩
    · refine ⟨⟨by simp, trivial⟩, fun x hx => ?_⟩
      simp only [List.mem_singleton] at hx
      subst hx
      unfold Edit.hi
      simp only [Int.toNat_natCast, cut_length (Nat.le_refl a.length) hi]
      omega
  | cons p r ih =>
    intro i j ⟨h1, h2, ⟨h3, h4, h5⟩, h6⟩ hi hj
    obtain ⟨k1, k2⟩ := ih (p.1 + 1) (p.2 + 1) h6 (by omega) (by omega)
    simp only [List.cons_append, diffGo]
    split
    · exact ⟨by simpa using k1.weaken (by omega), by simpa using k2⟩
    · have hh : (Edit.mk (i : Int) (cut a i p.1) (cut b j p.2)).hi = p.1 := by
        unfold Edit.hi
        simp only [Int.toNat_natCast, cut_length (Nat.le_of_lt h3) h1]
        omega
      refine ⟨⟨by simp, ?_⟩, fun x hx => ?_⟩
      · rw [hh]; exact k1
      · rcases List.mem_cons.1 hx with rfl | hx
        · rw [hh]; omega
        · exact k2 x hx
theorem chain_diff (a b : List α) : Chain 0 (diff a b) := (chain_go (common a b) 0 0 (common_pairs a b) (Nat.zero_le _) (Nat.zero_le _)).1
theorem within_diff (a b : List α) : Within a.length (diff a b) := (chain_go (common a b) 0 0 (common_pairs a b) (Nat.zero_le _) (Nat.zero_le _)).2
theorem diffGo_len {a b : List α} : ∀ (l : List (Nat × Nat)) (i j : Nat), (diffGo a b i j l).length ≤ l.length
  | [], _, _ => Nat.le_refl _
  | p :: r, i, j => by
    have := diffGo_len (a := a) (b := b) r (p.1 + 1) (p.2 + 1)
    simp only [diffGo, List.length_append, List.length_cons]
    split <;> simp <;> omega
theorem diff_len (a b : List α) : (diff a b).length ≤ a.length + 1 := by
  have h := diffGo_len (a := a) (b := b) (common a b ++ [(a.length, b.length)]) 0 0
  rw [List.length_append, common_length] at h
  have := lcs_most a b
  simp only [List.length_singleton] at h
  exact Nat.le_trans h (by omega)
theorem cost_mem : ∀ {c : List (Edit α)} {x : Edit α}, x ∈ c → x.old.length + x.new.length ≤ cost c
  | y :: c, x, h => by
    simp only [cost]
    rcases List.mem_cons.1 h with rfl | h
    · omega
    · have := cost_mem h; omega
theorem diff_mem {a b : List α} {x : Edit α} (h : x ∈ diff a b) : x.old.length + x.new.length ≤ a.length + b.length := by
  have := cost_mem h
  have := cost_diff a b
  omega

/-- The edits of two changes, in their order, each with its copy (true: the second one). -/
def mergeGo : Nat → List (Edit α) → List (Edit α) → List (Bool × Edit α)
  | 0, _, _ => []
  | _ + 1, [], [] => []
  | n + 1, [], y :: d => (true, y) :: mergeGo n [] d
  | n + 1, x :: c, [] => (false, x) :: mergeGo n c []
  | n + 1, x :: c, y :: d => if y.at_ < x.at_ then (true, y) :: mergeGo n (x :: c) d else (false, x) :: mergeGo n c (y :: d)
def merge (c d : List (Edit α)) : List (Bool × Edit α) := mergeGo (c.length + d.length) c d
/-- Those of one copy. -/
def filt (k : Bool) : List (Bool × Edit α) → List (Edit α)
  | [] => []
  | p :: r => if p.1 = k then p.2 :: filt k r else filt k r
theorem merge_filt : ∀ (n : Nat) (c d : List (Edit α)), c.length + d.length ≤ n → filt false (mergeGo n c d) = c ∧ filt true (mergeGo n c d) = d := by
  intro n
  induction n with
  | zero =>
    intro c d h
    have h1 : c = [] := List.eq_nil_of_length_eq_zero (by omega)
    have h2 : d = [] := List.eq_nil_of_length_eq_zero (by omega)
    subst h1 h2
    exact ⟨rfl, rfl⟩
  | succ n ih =>
    intro c d h
    cases c with
    | nil =>
      cases d with
      | nil => exact ⟨rfl, rfl⟩
      | cons y d =>
        obtain ⟨h1, h2⟩ := ih [] d (by simp at h ⊢; omega)
        simp only [mergeGo, filt]
        exact ⟨by simpa using h1, by simpa using h2⟩
    | cons x c =>
      cases d with
      | nil =>
        obtain ⟨h1, h2⟩ := ih c [] (by simp at h ⊢; omega)
        simp only [mergeGo, filt]
        exact ⟨by simpa using h1, by simpa using h2⟩
      | cons y d =>
        simp only [mergeGo]
        split
        · obtain ⟨h1, h2⟩ := ih (x :: c) d (by simp at h ⊢; omega)
          simp only [filt]
          exact ⟨by simpa using h1, by simpa using h2⟩
        · obtain ⟨h1, h2⟩ := ih c (y :: d) (by simp at h ⊢; omega)
          simp only [filt]
          exact ⟨by simpa using h1, by simpa using h2⟩
theorem filt_mem {l : List (Bool × Edit α)} {p : Bool × Edit α} (h : p ∈ l) : p.2 ∈ filt p.1 l := by
  induction l with
  | nil => cases h
  | cons q r ih =>
    simp only [filt]
    rcases List.mem_cons.1 h with rfl | h
    · simp
    · split
      · exact List.mem_cons_of_mem _ (ih h)
      · exact ih h
theorem mem_filt {k : Bool} {l : List (Bool × Edit α)} {x : Edit α} (h : x ∈ filt k l) : (k, x) ∈ l := by
  induction l with
  | nil => cases h
  | cons q r ih =>
    simp only [filt] at h
    split at h
    · rename_i hk
      rcases List.mem_cons.1 h with rfl | h
      · rw [← hk]; exact List.mem_cons_self
      · exact List.mem_cons_of_mem _ (ih h)
    · exact List.mem_cons_of_mem _ (ih h)
def Sorted (l : List (Bool × Edit α)) : Prop := l.Pairwise fun p q => p.2.lo ≤ q.2.lo
theorem merge_sorted : ∀ (n lo : Nat) (c d : List (Edit α)), c.length + d.length ≤ n → Chain lo c → Chain lo d → Sorted (mergeGo n c d) := by
  intro n
  induction n with
  | zero => intro lo c d _ _ _; exact List.Pairwise.nil
  | succ n ih =>
    intro lo c d h hc hd
    have key : ∀ (c d : List (Edit α)) (x : Edit α), c.length + d.length ≤ n → Chain x.lo c → Chain x.lo d → ∀ p ∈ mergeGo n c d, x.lo ≤ p.2.lo := by
      intro c d x hl h1 h2 p hp
      obtain ⟨k1, k2⟩ := merge_filt n c d hl
      have hm := filt_mem hp
      have : (x.lo : Int) ≤ p.2.at_ := by
        cases hb : p.1 with
        | false => rw [hb, k1] at hm; exact h1.pos _ hm
        | true => rw [hb, k2] at hm; exact h2.pos _ hm
      show _ ≤ p.2.at_.toNat
      omega
    cases c with
    | nil =>
      cases d with
      | nil => exact List.Pairwise.nil
      | cons y d =>
        have h1 := (Chain.suf (c := []) hd).2
        exact List.Pairwise.cons (key [] d y (by simp at h ⊢; omega) trivial (h1.2.weaken (Nat.le_succ_of_le y.lo_hi))) (ih y.lo [] d (by simp at h ⊢; omega) trivial (h1.2.weaken (Nat.le_succ_of_le y.lo_hi)))
    | cons x c =>
      cases d with
      | nil =>
        have h1 := (Chain.suf (c := []) hc).2
        exact List.Pairwise.cons (key c [] x (by simp at h ⊢; omega) (h1.2.weaken (Nat.le_succ_of_le x.lo_hi)) trivial) (ih x.lo c [] (by simp at h ⊢; omega) (h1.2.weaken (Nat.le_succ_of_le x.lo_hi)) trivial)
      | cons y d =>
        have h1 := (Chain.suf (c := []) hc).2
        have h2 := (Chain.suf (c := []) hd).2
        simp only [mergeGo]
        split
        · rename_i hlt
          have hw : Chain y.lo (x :: c) := ⟨by have := h2.1; unfold Edit.lo; have := hd.1; omega, hc.2⟩
          exact List.Pairwise.cons (key (x :: c) d y (by simp at h ⊢; omega) hw (h2.2.weaken (Nat.le_succ_of_le y.lo_hi))) (ih y.lo (x :: c) d (by simp at h ⊢; omega) hw (h2.2.weaken (Nat.le_succ_of_le y.lo_hi)))
        · rename_i hlt
          have hw : Chain x.lo (y :: d) := ⟨by unfold Edit.lo; have := hc.1; omega, hd.2⟩
          exact List.Pairwise.cons (key c (y :: d) x (by simp at h ⊢; omega) (h1.2.weaken (Nat.le_succ_of_le x.lo_hi)) hw) (ih x.lo c (y :: d) (by simp at h ⊢; omega) (h1.2.weaken (Nat.le_succ_of_le x.lo_hi)) hw)
/-- Edits of two copies that meet, and the positions that they cover. -/
structure Block (α : Type) where
  lo : Nat
  hi : Nat
  e0 : List (Edit α)
  e1 : List (Edit α)
deriving DecidableEq
def Block.new (k : Bool) (x : Edit α) : Block α := ⟨x.lo, x.hi, if k then [] else [x], if k then [x] else []⟩
def Block.add (b : Block α) (k : Bool) (x : Edit α) : Block α := ⟨b.lo, max b.hi x.hi, if k then b.e0 else b.e0 ++ [x], if k then b.e1 ++ [x] else b.e1⟩
def grow (b : Block α) : List (Bool × Edit α) → List (Block α)
  | [] => [b]
  | p :: r => if p.2.lo ≤ b.hi then grow (b.add p.1 p.2) r else b :: grow (Block.new p.1 p.2) r
def blocksOf : List (Bool × Edit α) → List (Block α)
  | [] => []
  | p :: r => grow (Block.new p.1 p.2) r
def blocks (c d : List (Edit α)) : List (Block α) := blocksOf (merge c d)
/-- What a copy has between two positions. -/
def hasGo (base : List α) (hi : Nat) : Nat → List (Edit α) → List α
  | at_, [] => cut base at_ hi
  | at_, x :: r => cut base at_ x.lo ++ (x.new ++ hasGo base hi x.hi r)
def joinGo (base : List α) : Nat → List (Block α) → List α × List (Nat × Nat)
  | at_, [] => (base.drop at_, [])
  | at_, b :: r =>
    if b.e1 = [] ∨ hasGo base b.hi b.lo b.e0 = hasGo base b.hi b.lo b.e1 then (cut base at_ b.lo ++ (hasGo base b.hi b.lo b.e0 ++ (joinGo base b.hi r).1), (joinGo base b.hi r).2)
    else if b.e0 = [] then (cut base at_ b.lo ++ (hasGo base b.hi b.lo b.e1 ++ (joinGo base b.hi r).1), (joinGo base b.hi r).2)
    else (cut base at_ b.lo ++ (cut base b.lo b.hi ++ (joinGo base b.hi r).1), (b.lo, b.hi) :: (joinGo base b.hi r).2)
def join (base a b : List α) : List α × List (Nat × Nat) := joinGo base 0 (blocks (diff base a) (diff base b))
/-- Blocks that lie one behind the other, with a line between them. -/
def BlocksOk (n : Nat) : Nat → List (Block α) → Prop
  | _, [] => True
  | at_, b :: r => at_ ≤ b.lo ∧ b.lo ≤ b.hi ∧ b.hi ≤ n ∧ Chain b.lo b.e0 ∧ Within b.hi b.e0 ∧ Chain b.lo b.e1 ∧ Within b.hi b.e1 ∧ BlocksOk n (b.hi + 1) r
theorem BlocksOk.weaken {n : Nat} : ∀ {l : List (Block α)} {i i' : Nat}, BlocksOk n i l → i' ≤ i → BlocksOk n i' l
  | [], _, _, _, _ => trivial
  | _ :: _, _, _, ⟨h1, h2⟩, h => ⟨Nat.le_trans h h1, h2⟩
theorem within_snoc {hi : Nat} {c : List (Edit α)} {x : Edit α} (h : Within hi c) : Within (max hi x.hi) (c ++ [x]) := fun y hy => by
  rcases List.mem_append.1 hy with hy | hy
  · exact Nat.le_trans (h y hy) (Nat.le_max_left _ _)
  · simp only [List.mem_singleton] at hy
    subst hy
    exact Nat.le_max_right _ _
theorem chain_other {lo n : Nat} {c d : List (Edit α)} (h : Chain lo (c ++ d)) (hd : ∀ y ∈ d, n ≤ y.lo) : Chain n d := by
  cases d with
  | nil => trivial
  | cons y d =>
    have := (Chain.suf h).2
    have h1 := hd y List.mem_cons_self
    exact this.weaken h1
theorem grow_ok {n : Nat} : ∀ (l : List (Bool × Edit α)) (b : Block α) (at_ : Nat), at_ ≤ b.lo → b.lo ≤ b.hi → b.hi ≤ n → Within b.hi b.e0 → Within b.hi b.e1 → Chain b.lo (b.e0 ++ filt false l) → Chain b.lo (b.e1 ++ filt true l) → Sorted l → (∀ p ∈ l, p.2.hi ≤ n) →
    BlocksOk n at_ (grow b l) := by
  intro l
  induction l with
  | nil =>
    intro b at_ h1 h2 h3 h4 h5 h6 h7 _ _
    exact ⟨h1, h2, h3, h6.pre, h4, h7.pre, h5, trivial⟩
  | cons p r ih =>
    intro b at_ h1 h2 h3 h4 h5 h6 h7 h8 h9
    obtain ⟨k, x⟩ := p
    have hx : x.hi ≤ n := h9 (k, x) List.mem_cons_self
    have hr : ∀ p ∈ r, p.2.hi ≤ n := fun p hp => h9 p (List.mem_cons_of_mem _ hp)
    obtain ⟨s1, s2⟩ := List.pairwise_cons.1 h8
    simp only [grow]
    split
    · cases k with
      | false =>
        refine ih (b.add false x) at_ h1 (Nat.le_trans h2 (Nat.le_max_left _ _)) (Nat.max_le.2 ⟨h3, hx⟩) ?_ ?_ ?_ ?_ s2 hr
        · exact within_snoc h4
        · exact h5.mono (Nat.le_max_left _ _)
        · simpa [Block.add, filt] using h6
        · simpa [Block.add, filt] using h7
      | true =>
        refine ih (b.add true x) at_ h1 (Nat.le_trans h2 (Nat.le_max_left _ _)) (Nat.max_le.2 ⟨h3, hx⟩) ?_ ?_ ?_ ?_ s2 hr
        · exact h4.mono (Nat.le_max_left _ _)
        · exact within_snoc h5
        · simpa [Block.add, filt] using h6
        · simpa [Block.add, filt] using h7
    · rename_i hgt
      refine ⟨h1, h2, h3, h6.pre, h4, h7.pre, h5, ?_⟩
      cases k with
      | false =>
        refine ih (Block.new false x) (b.hi + 1) (Nat.succ_le_of_lt (Nat.lt_of_not_le hgt)) x.lo_hi hx ?_ ?_ ?_ ?_ s2 hr
        · intro y hy; simp [Block.new] at hy; subst hy; exact Nat.le_refl _
        · intro y hy; simp [Block.new] at hy
        · simp only [filt, if_pos] at h6
          simpa [Block.new] using (Chain.suf h6).2
        · simp only [filt] at h7
          simpa [Block.new] using chain_other (by simpa using h7) (fun y hy => s1 _ (mem_filt hy))
      | true =>
        refine ih (Block.new true x) (b.hi + 1) (Nat.succ_le_of_lt (Nat.lt_of_not_le hgt)) x.lo_hi hx ?_ ?_ ?_ ?_ s2 hr
        · intro y hy; simp [Block.new] at hy
        · intro y hy; simp [Block.new] at hy; subst hy; exact Nat.le_refl _
        · simp only [filt] at h6
          simpa [Block.new] using chain_other (by simpa using h6) (fun y hy => s1 _ (mem_filt hy))
        · simp only [filt, if_pos] at h7
          simpa [Block.new] using (Chain.suf h7).2
theorem blocks_ok {n : Nat} {c d : List (Edit α)} (hc : Chain 0 c) (hd : Chain 0 d) (wc : Within n c) (wd : Within n d) : BlocksOk n 0 (blocks c d) := by
  obtain ⟨k1, k2⟩ := merge_filt (c.length + d.length) c d (Nat.le_refl _)
  have hs := merge_sorted (c.length + d.length) 0 c d (Nat.le_refl _) hc hd
  have hw : ∀ p ∈ mergeGo (c.length + d.length) c d, p.2.hi ≤ n := by
    intro p hp
    have hm := filt_mem hp
    cases hb : p.1 with
    | false => rw [hb, k1] at hm; exact wc _ hm
    | true => rw [hb, k2] at hm; exact wd _ hm
  unfold blocks merge
  generalize mergeGo (c.length + d.length) c d = l at *
  cases l with
  | nil => trivial
  | cons p r =>
    obtain ⟨k, x⟩ := p
    obtain ⟨s1, s2⟩ := List.pairwise_cons.1 hs
    have hx : x.hi ≤ n := hw (k, x) List.mem_cons_self
    have hr : ∀ p ∈ r, p.2.hi ≤ n := fun p hp => hw p (List.mem_cons_of_mem _ hp)
    rw [← k1] at hc
    rw [← k2] at hd
    show BlocksOk n 0 (grow (Block.new k x) r)
    cases k with
    | false =>
      refine grow_ok r (Block.new false x) 0 (Nat.zero_le _) x.lo_hi hx ?_ ?_ ?_ ?_ s2 hr
      · intro y hy; simp [Block.new] at hy; subst hy; exact Nat.le_refl _
      · intro y hy; simp [Block.new] at hy
      · simp only [filt, if_pos] at hc
        simpa [Block.new] using (Chain.suf (c := []) hc).2
      · simp only [filt] at hd
        simpa [Block.new] using chain_other (c := []) (by simpa using hd) (fun y hy => s1 _ (mem_filt hy))
    | true =>
      refine grow_ok r (Block.new true x) 0 (Nat.zero_le _) x.lo_hi hx ?_ ?_ ?_ ?_ s2 hr
      · intro y hy; simp [Block.new] at hy
      · intro y hy; simp [Block.new] at hy; subst hy; exact Nat.le_refl _
      · simp only [filt] at hc
        simpa [Block.new] using chain_other (c := []) (by simpa using hc) (fun y hy => s1 _ (mem_filt hy))
      · simp only [filt, if_pos] at hd
        simpa [Block.new] using (Chain.suf (c := []) hd).2
theorem grow_flat : ∀ (l : List (Bool × Edit α)) (b : Block α), ((grow b l).flatMap fun b => b.e0) = b.e0 ++ filt false l ∧ ((grow b l).flatMap fun b => b.e1) = b.e1 ++ filt true l ∧ (grow b l).length ≤ l.length + 1 := by
  intro l
  induction l with
  | nil => intro b; simp [grow, filt]
  | cons p r ih =>
    intro b
    obtain ⟨k, x⟩ := p
    simp only [grow]
    split
    · obtain ⟨h1, h2, h3⟩ := ih (b.add k x)
      rw [h1, h2]
      cases k <;> refine ⟨?_, ?_, by simp only [List.length_cons]; omega⟩ <;> simp [Block.add, filt]
    · obtain ⟨h1, h2, h3⟩ := ih (Block.new k x)
      simp only [List.flatMap_cons, h1, h2]
      cases k <;> refine ⟨?_, ?_, by simp only [List.length_cons]; omega⟩ <;> simp [Block.new, filt]
theorem merge_len (n : Nat) (c d : List (Edit α)) : (mergeGo n c d).length ≤ n := by
  induction n generalizing c d with
  | zero => exact Nat.le_refl _
  | succ n ih =>
    cases c <;> cases d <;> simp only [mergeGo]
    · exact Nat.zero_le _
    · simpa using ih _ _
    · simpa using ih _ _
    · split <;> simpa using ih _ _
theorem blocks_flat (c d : List (Edit α)) : ((blocks c d).flatMap fun b => b.e0) = c ∧ ((blocks c d).flatMap fun b => b.e1) = d ∧ (blocks c d).length ≤ c.length + d.length := by
  obtain ⟨k1, k2⟩ := merge_filt (c.length + d.length) c d (Nat.le_refl _)
  have hl := merge_len (c.length + d.length) c d
  unfold blocks merge
  generalize hn : mergeGo (c.length + d.length) c d = l at *
  cases l with
  | nil => simp [filt] at k1 k2; subst k1 k2; simp [blocksOf]
  | cons p r =>
    obtain ⟨k, x⟩ := p
    obtain ⟨h1, h2, h3⟩ := grow_flat r (Block.new k x)
    simp only [blocksOf]
    rw [h1, h2]
    simp only [List.length_cons] at hl
    refine ⟨?_, ?_, by omega⟩
    · rw [← k1]; cases k <;> simp [Block.new, filt]
    · rw [← k2]; cases k <;> simp [Block.new, filt]
theorem mem_block0 {c d : List (Edit α)} {b : Block α} (h : b ∈ blocks c d) : b.e0.Sublist c ∧ b.e1.Sublist d := by
  obtain ⟨h1, h2, _⟩ := blocks_flat c d
  obtain ⟨s, t, hst⟩ := List.append_of_mem h
  rw [hst] at h1 h2
  simp only [List.flatMap_append, List.flatMap_cons] at h1 h2
  constructor
  · rw [← h1]; exact ((List.sublist_append_left _ _).trans (List.sublist_append_right _ _))
  · rw [← h2]; exact ((List.sublist_append_left _ _).trans (List.sublist_append_right _ _))
theorem cut_len (a : List α) (i k : Nat) : (cut a i k).length ≤ a.length := by
  unfold cut; rw [List.length_take, List.length_drop]; omega
theorem hasGo_len {base : List α} {hi M : Nat} : ∀ {c : List (Edit α)} {at_ : Nat}, (∀ x ∈ c, x.new.length ≤ M) → (hasGo base hi at_ c).length ≤ base.length + c.length * (base.length + M)
  | [], _, _ => by simp only [hasGo, List.length_nil, Nat.zero_mul, Nat.add_zero]; exact cut_len _ _ _
  | x :: r, at_, h => by
    have h1 := hasGo_len (base := base) (hi := hi) (at_ := x.hi) fun y hy => h y (List.mem_cons_of_mem x hy)
    have h2 := h x List.mem_cons_self
    have h3 := cut_len base at_ x.lo
    simp only [hasGo, List.length_append, List.length_cons, Nat.add_mul]
    omega
theorem cut_cut {a : List α} {i k m : Nat} (h1 : i ≤ k) (h2 : k ≤ m) : cut a i k ++ cut a k m = cut a i m := by
  unfold cut
  have e : a.drop k = (a.drop i).drop (k - i) := by rw [List.drop_drop]; congr 1; omega
  rw [e, show m - i = (k - i) + (m - k) by omega, List.take_add]
/-- One edit more, before those that were made. -/
theorem made_has {base : List α} {lo hi : Nat} {x : Edit α} {r : List (Edit α)} (h1 : (lo : Int) ≤ x.at_) (h2 : Chain (x.hi + 1) r) (h3 : Within hi r) (h4 : x.hi ≤ hi) (h5 : hi ≤ base.length) :
    x.hi - lo ≤ (hasGo base hi lo r).length ∧ made (hasGo base hi lo r) ⟨x.at_ - lo, x.old, x.new⟩ = hasGo base hi lo (x :: r) := by
  have hlo : lo ≤ x.lo := by unfold Edit.lo; omega
  have hlh := x.lo_hi
  obtain ⟨s, hs⟩ : ∃ s, hasGo base hi lo r = cut base lo x.hi ++ s ∧ hasGo base hi x.hi r = s := by
    cases r with
    | nil => exact ⟨cut base x.hi hi, by simp only [hasGo]; rw [cut_cut (by omega) h4], rfl⟩
    | cons y r =>
      have : x.hi ≤ y.lo := by have := h2.1; unfold Edit.lo; omega
      exact ⟨cut base x.hi y.lo ++ (y.new ++ hasGo base hi y.hi r), by simp only [hasGo]; rw [← cut_cut (by omega : lo ≤ x.hi) this, List.append_assoc], rfl⟩
  have hcl : (cut base lo x.hi).length = x.hi - lo := cut_length (by omega) (by omega)
  have e1 : (x.at_ - lo).toNat = x.lo - lo := by unfold Edit.lo; omega
  have e2 : (x.at_ - lo).toNat + x.old.length = x.hi - lo := by unfold Edit.hi; omega
  refine ⟨by rw [hs.1, List.length_append, hcl]; omega, ?_⟩
  simp only [made, hasGo]
  rw [e2, e1, hs.1, hs.2, List.drop_append_of_le_length (by omega), List.drop_of_length_le (by omega), List.nil_append, List.take_append_of_le_length (by omega)]
  congr 1
  unfold cut
  rw [List.take_take]
  congr 1
  omega
end
end File
end Go.Proofs.YtekkhnjepcebkaaGreatDoor
