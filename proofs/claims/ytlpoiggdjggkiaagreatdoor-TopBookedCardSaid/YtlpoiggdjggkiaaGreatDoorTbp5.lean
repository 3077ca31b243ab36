/- What the proof of the claim's theorem uses, part 5. The conditions stand in each statement. -/
import Derived.WalkKit
import Derived.WalkSpells
import Derived.WalkLawsBesides
import Derived.WalkSmall
import Derived.Lib.Hide
import Derived.Laws.OwnMore
import Derived.Laws.CopyOwn
import Derived.Deep.Draws
import Derived.Laws.AppendOwnNone
import Derived.Test.YtlpoiggdjggkiaaGreatDoorProg
import Derived.Outline
import Derived.BigQuiet
import Derived.Deep.QuietTactic
import Derived.Lib.OthersKept
import Derived.Laws.EntriesVeiled
import Derived.Shelf.Strings.Builder1
import Derived.Shelf.LaysM
import Derived.Shelf.Strconv.Itoa3
import Derived.Orders
import Derived.RegionTactic
import Derived.BigRegion
import Derived.Deep.DeepCutAuto
import Derived.Maps.OwnRows
import Derived.Maps.GroupsBeside
import Derived.Deep.RegionHeld3
import Derived.Lib.SliceRun
import Derived.RangeFuncNested
import Derived.RangeFuncBound
import Derived.RangeFuncCalls
import Derived.RangeFuncLeaves
import Derived.Shelf.Abstract
import Derived.Shelf.RegionOpen
import Derived.OwnWalkIn
import Derived.TacticsInMore
import Derived.LoopNIn
import Derived.LoopIn
import Derived.Sort.QuietIn
import Derived.Deep.Quiet
import Derived.Maps.AppendAt
import Derived.Test.YtlpoiggdjggkiaaGreatDoorCards
import Derived.Test.YtlpoiggdjggkiaaGreatDoorTie
import Derived.ProofKit
import Derived.Deep.DeepHandedRow
import Derived.Lib.LaidTab
import Derived.Stop.LaidErr
import Derived.ChangeSame
import Derived.RowKit3
import Derived.ReadAgain
import Derived.OpenShut
import Derived.ChangeSlices
import Derived.WalkMore
import Derived.Maps.Own
import Derived.Maps.OwnOps
import Derived.Maps.OwnSet
import Derived.Shelf.Spec.SlicesInsert
import Derived.Shelf.Spec.SlicesInsertGrow
import Derived.Shelf.Bits.Mul64
import Derived.Deep.RegionLaw
import Derived.ChangeKeysEq
import Derived.Lib.Atoi
import Derived.Lib.Fields
import Derived.Shelf.Strings.SplitShaped
import Derived.Shelf.Strconv.Atoi
import Derived.Lay
import Derived.MakeChecks
import Derived.Deep.DeepWitnessRowRef
import Derived.Test.YtlpoiggdjggkiaaGreatDoorTbp4
set_option linter.unusedVariables false
set_option linter.unusedSimpArgs false
section
namespace Go.Proofs.YtlpoiggdjggkiaaGreatDoor
namespace File
set_option linter.unusedSectionVars false
section
variable {α : Type} [DecidableEq α]
def Block.swap (b : Block α) : Block α := ⟨b.lo, b.hi, b.e1, b.e0⟩
theorem swap_add (b : Block α) (k : Bool) (x : Edit α) : (b.add k x).swap = b.swap.add (!k) x := by cases k <;> rfl
theorem swap_new (k : Bool) (x : Edit α) : (Block.new k x).swap = Block.new (!k) x := by cases k <;> rfl
theorem add_add (b : Block α) (x y : Edit α) : (b.add false x).add true y = (b.add true y).add false x := by
  simp [Block.add, Nat.max_assoc, Nat.max_comm x.hi y.hi]
theorem new_add {x y : Edit α} (h : x.lo = y.lo) : (Block.new false x).add true y = (Block.new true y).add false x := by
  simp [Block.add, Block.new, Nat.max_comm x.hi y.hi, h]
theorem merge_tie {n : Nat} {x y : Edit α} {c d : List (Edit α)} {lo : Nat} (h : x.at_ = y.at_) (hc : Chain lo (x :: c)) : mergeGo (n + 2) (x :: c) (y :: d) = (false, x) :: (true, y) :: mergeGo n c d := by
  have h1 : ¬ y.at_ < x.at_ := by omega
  have : mergeGo (n + 2) (x :: c) (y :: d) = (false, x) :: mergeGo (n + 1) c (y :: d) := by
    show (if y.at_ < x.at_ then _ else _) = _
    rw [if_neg h1]
  rw [this]
  congr 1
  cases c with
  | nil => rfl
  | cons z c =>
    have h2 : y.at_ < z.at_ := by
      have := hc.2.1
      have h3 := hc.1
      unfold Edit.hi at this
      omega
    show (if y.at_ < z.at_ then _ else _) = _
    rw [if_pos h2]
theorem grow_swap : ∀ (n : Nat) (c d : List (Edit α)) (b : Block α) (lo : Nat), c.length + d.length ≤ n → Chain lo c → Chain lo d → (grow b (mergeGo n c d)).map Block.swap = grow b.swap (mergeGo n d c) := by
  intro n
  induction n using Nat.strongRecOn with
  | ind n ih =>
    intro c d b lo hl hc hd
    have step : ∀ (m : Nat) (c' d' : List (Edit α)) (k : Bool) (x : Edit α), m < n → c'.length + d'.length ≤ m → (∃ lo, Chain lo c' ∧ Chain lo d') → (grow b ((k, x) :: mergeGo m c' d')).map Block.swap = grow b.swap ((!k, x) :: mergeGo m d' c') := by
      intro m c' d' k x hm hl' ⟨lo', h1, h2⟩
      simp only [grow]
      show List.map _ (if x.lo ≤ b.hi then _ else _) = if x.lo ≤ b.hi then _ else _
      split
      · rw [ih m hm c' d' _ lo' hl' h1 h2, swap_add]
      · rw [List.map_cons, ih m hm c' d' _ lo' hl' h1 h2, swap_new]
    cases n with
    | zero =>
      have h1 : c = [] := List.eq_nil_of_length_eq_zero (by omega)
      have h2 : d = [] := List.eq_nil_of_length_eq_zero (by omega)
      subst h1 h2
      rfl
    | succ n =>
      cases c with
      | nil =>
        cases d with
        | nil => rfl
        | cons y d =>
          exact step n [] d true y (by omega) (by simp at hl ⊢; omega) ⟨y.hi + 1, trivial, hd.2⟩
      | cons x c =>
        cases d with
        | nil => exact step n c [] false x (by omega) (by simp at hl ⊢; omega) ⟨x.hi + 1, hc.2, trivial⟩
        | cons y d =>
          have c2 := (Chain.suf (c := []) hc).2
          have d2 := (Chain.suf (c := []) hd).2
          have hx0 := hc.1
          have hy0 := hd.1
          rcases Int.lt_trichotomy y.at_ x.at_ with h | h | h
          · have e1 : mergeGo (n + 1) (x :: c) (y :: d) = (true, y) :: mergeGo n (x :: c) d := by
              show (if y.at_ < x.at_ then _ else _) = _
              rw [if_pos h]
            have e2 : mergeGo (n + 1) (y :: d) (x :: c) = (false, y) :: mergeGo n d (x :: c) := by
              show (if x.at_ < y.at_ then _ else _) = _
              rw [if_neg (by omega)]
            rw [e1, e2]
            exact step n (x :: c) d true y (by omega) (by simp at hl ⊢; omega) ⟨lo, hc, hd.2.weaken (by unfold Edit.hi; omega)⟩
          · obtain ⟨m, rfl⟩ : ∃ m, n = m + 1 := ⟨n - 1, by simp at hl; omega⟩
            rw [merge_tie h.symm hc, merge_tie h hd]
            have hlo : x.lo = y.lo := by unfold Edit.lo; omega
            have hm : c.length + d.length ≤ m := by simp at hl; omega
            have hcc : Chain lo c := hc.2.weaken (by unfold Edit.hi; omega)
            have hdd : Chain lo d := hd.2.weaken (by unfold Edit.hi; omega)
            have m1 : ∀ b' : Block α, b'.hi ≤ (b'.add false x).hi ∧ b'.hi ≤ (b'.add false y).hi := fun b' => ⟨Nat.le_max_left _ _, Nat.le_max_left _ _⟩
            simp only [grow]
            by_cases hb : x.lo ≤ b.hi
            · have hb' : y.lo ≤ b.swap.hi := by rw [← hlo]; exact hb
              rw [if_pos hb, if_pos (by have := (m1 b).1; omega), if_pos hb', if_pos (by have := (m1 b.swap).2; omega)]
              rw [ih m (by omega) c d _ lo hm hcc hdd, swap_add, swap_add]
              congr 1
              exact (add_add b.swap y x).symm
            · have hb' : ¬ y.lo ≤ b.swap.hi := by rw [← hlo]; exact hb
              rw [if_neg hb, if_pos (by show y.lo ≤ x.hi; have := x.lo_hi; omega), if_neg hb', if_pos (by show x.lo ≤ y.hi; have := y.lo_hi; omega)]
              rw [List.map_cons, ih m (by omega) c d _ lo hm hcc hdd, swap_add, swap_new]
              congr 2
              exact (new_add hlo.symm).symm
          · have e1 : mergeGo (n + 1) (x :: c) (y :: d) = (false, x) :: mergeGo n c (y :: d) := by
              show (if y.at_ < x.at_ then _ else _) = _
              rw [if_neg (by omega)]
            have e2 : mergeGo (n + 1) (y :: d) (x :: c) = (true, x) :: mergeGo n (y :: d) c := by
              show (if x.at_ < y.at_ then _ else _) = _
              rw [if_pos h]
            rw [e1, e2]
            exact step n c (y :: d) false x (by omega) (by simp at hl ⊢; omega) ⟨lo, hc.2.weaken (by unfold Edit.hi; omega), hd⟩
/-- The same, from the first edit on: a block that no edit meets stands ahead. -/
theorem grow_ahead (b : Block α) (l : List (Bool × Edit α)) (h : ∀ p ∈ l, b.hi < p.2.lo) : grow b l = b :: blocksOf l := by
  cases l with
  | nil => rfl
  | cons p r =>
    have := h p List.mem_cons_self
    simp only [grow, blocksOf]
    rw [if_neg (by omega)]
theorem blocks_swap {c d : List (Edit α)} (hc : Chain 0 c) (hd : Chain 0 d) : (blocks c d).map Block.swap = blocks d c := by
  have key : ∀ (n : Nat) (c d : List (Edit α)), c.length + d.length ≤ n → Chain 0 c → Chain 0 d → (blocksOf (mergeGo n c d)).map Block.swap = blocksOf (mergeGo n d c) := by
    intro n c d hl hc hd
    cases n with
    | zero => rfl
    | succ n =>
      cases c with
      | nil =>
        cases d with
        | nil => rfl
        | cons y d =>
          show (grow _ (mergeGo n [] d)).map _ = grow _ (mergeGo n d [])
          rw [grow_swap n [] d _ (y.hi + 1) (by simp at hl ⊢; omega) trivial hd.2, swap_new]
          rfl
      | cons x c =>
        cases d with
        | nil =>
          show (grow _ (mergeGo n c [])).map _ = grow _ (mergeGo n [] c)
          rw [grow_swap n c [] _ (x.hi + 1) (by simp at hl ⊢; omega) hc.2 trivial, swap_new]
          rfl
        | cons y d =>
          rcases Int.lt_trichotomy y.at_ x.at_ with h | h | h
          · have e1 : mergeGo (n + 1) (x :: c) (y :: d) = (true, y) :: mergeGo n (x :: c) d := by
              show (if y.at_ < x.at_ then _ else _) = _
              rw [if_pos h]
            have e2 : mergeGo (n + 1) (y :: d) (x :: c) = (false, y) :: mergeGo n d (x :: c) := by
              show (if x.at_ < y.at_ then _ else _) = _
              rw [if_neg (by omega)]
            rw [e1, e2]
            show (grow _ _).map _ = grow _ _
            rw [grow_swap n (x :: c) d _ 0 (by simp at hl ⊢; omega) hc (hd.2.weaken (Nat.zero_le _)), swap_new]
            rfl
          · obtain ⟨m, rfl⟩ : ∃ m, n = m + 1 := ⟨n - 1, by simp at hl; omega⟩
            have hlo : x.lo = y.lo := by unfold Edit.lo; omega
            rw [merge_tie h.symm hc, merge_tie h hd]
            show (grow _ ((true, y) :: _)).map _ = grow _ ((true, x) :: _)
            simp only [grow]
            rw [if_pos (by show y.lo ≤ x.hi; have := x.lo_hi; omega), if_pos (by show x.lo ≤ y.hi; have := y.lo_hi; omega)]
            rw [grow_swap m c d _ 0 (by simp at hl ⊢; omega) (hc.2.weaken (Nat.zero_le _)) (hd.2.weaken (Nat.zero_le _)), swap_add, swap_new]
            congr 1
            exact (new_add hlo.symm).symm
          · have e1 : mergeGo (n + 1) (x :: c) (y :: d) = (false, x) :: mergeGo n c (y :: d) := by
              show (if y.at_ < x.at_ then _ else _) = _
              rw [if_neg (by omega)]
            have e2 : mergeGo (n + 1) (y :: d) (x :: c) = (true, x) :: mergeGo n (y :: d) c := by
              show (if x.at_ < y.at_ then _ else _) = _
              rw [if_pos h]
            rw [e1, e2]
            show (grow _ _).map _ = grow _ _
            rw [grow_swap n c (y :: d) _ 0 (by simp at hl ⊢; omega) (hc.2.weaken (Nat.zero_le _)) hd, swap_new]
            rfl
  unfold blocks merge
  rw [Nat.add_comm d.length c.length]
  exact key _ c d (Nat.le_refl _) hc hd
theorem joinGo_swap (base : List α) : ∀ (l : List (Block α)) (i : Nat), joinGo base i (l.map Block.swap) = joinGo base i l
  | [], _ => rfl
  | b :: r, i => by
    have ih := joinGo_swap base r b.hi
    simp only [List.map_cons, joinGo]
    show (if b.e0 = [] ∨ hasGo base b.hi b.lo b.e1 = hasGo base b.hi b.lo b.e0 then (cut base i b.lo ++ (hasGo base b.hi b.lo b.e1 ++ (joinGo base b.hi (r.map Block.swap)).1), (joinGo base b.hi (r.map Block.swap)).2)
      else if b.e1 = [] then (cut base i b.lo ++ (hasGo base b.hi b.lo b.e0 ++ (joinGo base b.hi (r.map Block.swap)).1), (joinGo base b.hi (r.map Block.swap)).2)
      else (cut base i b.lo ++ (cut base b.lo b.hi ++ (joinGo base b.hi (r.map Block.swap)).1), (b.lo, b.hi) :: (joinGo base b.hi (r.map Block.swap)).2)) = _
    rw [ih]
    by_cases h1 : b.e1 = []
    · by_cases h0 : b.e0 = []
      · rw [h1, h0]
      · by_cases h : hasGo base b.hi b.lo b.e0 = hasGo base b.hi b.lo b.e1
        · rw [if_pos (.inr h.symm), if_pos (.inl h1), h]
        · rw [if_neg (by rintro (h2 | h2); exact h0 h2; exact h h2.symm), if_pos h1, if_pos (.inl h1)]
    · by_cases h : hasGo base b.hi b.lo b.e0 = hasGo base b.hi b.lo b.e1
      · rw [if_pos (.inr h.symm), if_pos (.inr h), h]
      · by_cases h0 : b.e0 = []
        · rw [if_pos (.inl h0), if_neg (by rintro (h2 | h2); exact h1 h2; exact h h2), if_pos h0]
        · rw [if_neg (by rintro (h2 | h2); exact h0 h2; exact h h2.symm), if_neg h1, if_neg (by rintro (h2 | h2); exact h1 h2; exact h h2), if_neg h0]
/-- Copies are joined in either order to the same. -/
theorem join_swap (base a b : List α) : join base a b = join base b a := by
  unfold join
  rw [← blocks_swap (chain_diff base a) (chain_diff base b), joinGo_swap]
/-- What a change makes, told from its start on. -/
theorem make_has {f : List α} : ∀ {c : List (Edit α)} {lo : Nat}, Chain lo c → Within f.length c → make f c = f.take lo ++ hasGo f f.length lo c
  | [], lo, _, _ => by
    simp only [make, List.foldr_nil, hasGo, cut]
    rw [List.take_of_length_le (l := f.drop lo) (by simp), List.take_append_drop]
  | x :: r, lo, ⟨h1, h2⟩, hw => by
    have hx := hw x List.mem_cons_self
    have hr : Within f.length r := fun y hy => hw y (List.mem_cons_of_mem _ hy)
    have hlh := x.lo_hi
    have hlo : lo ≤ x.lo := by unfold Edit.lo; omega
    have ih := make_has (f := f) (h2.weaken (Nat.le_succ x.hi)) hr
    show made (make f r) x = _
    rw [ih]
    simp only [made, hasGo]
    have e1 : x.at_.toNat = x.lo := rfl
    have e2 : x.at_.toNat + x.old.length = x.hi := rfl
    have hl : (f.take x.hi).length = x.hi := by rw [List.length_take]; omega
    rw [e2, e1, List.take_append_of_le_length (by omega), List.take_take, Nat.min_eq_left hlh]
    have e3 : (f.take x.hi ++ hasGo f f.length x.hi r).drop x.hi = hasGo f f.length x.hi r := by
      rw [List.drop_append_of_le_length (by omega), List.drop_of_length_le (by omega), List.nil_append]
    rw [e3, ← List.append_assoc (f.take lo)]
    congr 1
    unfold cut
    have : f.take x.lo = f.take lo ++ (f.drop lo).take (x.lo - lo) := by
      rw [← List.take_add]
      congr 1
      omega
    rw [this]
theorem has_diff (a b : List α) : hasGo a a.length 0 (diff a b) = b := by
  have := make_has (chain_diff a b) (within_diff a b)
  rw [make_diff] at this
  simpa using this.symm
theorem blocks_same : ∀ (c : List (Edit α)) (lo : Nat), Chain lo c → blocksOf (mergeGo (c.length + c.length) c c) = c.map fun x => ⟨x.lo, x.hi, [x], [x]⟩
  | [], _, _ => rfl
  | x :: c, lo, ⟨h1, h2⟩ => by
    rw [show (x :: c).length + (x :: c).length = (c.length + c.length) + 2 by simp only [List.length_cons]; omega, merge_tie rfl ⟨h1, h2⟩]
    show grow (Block.new false x) ((true, x) :: _) = _
    simp only [grow]
    rw [if_pos (by exact x.lo_hi), grow_ahead, blocks_same c _ h2]
    · simp [Block.add, Block.new]
    · intro p hp
      obtain ⟨k1, k2⟩ := merge_filt (c.length + c.length) c c (Nat.le_refl _)
      have hm := filt_mem hp
      have hh : ((Block.new false x).add true x).hi = x.hi := by simp [Block.add, Block.new]
      rw [hh]
      have : p.2 ∈ c := by
        cases hb : p.1 with
        | false => rw [hb, k1] at hm; exact hm
        | true => rw [hb, k2] at hm; exact hm
      have := h2.pos _ this
      show x.hi < p.2.at_.toNat
      omega
theorem cut_self (a : List α) (i : Nat) : cut a i i = [] := by unfold cut; simp
theorem join_each {base : List α} {f : Edit α → List (Edit α)} (hf : ∀ x, f x = [] ∨ f x = [x]) : ∀ {c : List (Edit α)} {lo : Nat}, Chain lo c → Within base.length c → joinGo base lo (c.map fun x => ⟨x.lo, x.hi, [x], f x⟩) = (hasGo base base.length lo c, [])
  | [], lo, _, _ => by
    simp only [List.map_nil, joinGo, hasGo, cut]
    rw [List.take_of_length_le (by simp)]
  | x :: r, lo, ⟨h1, h2⟩, hw => by
    have hr : Within base.length r := fun y hy => hw y (List.mem_cons_of_mem _ hy)
    have ih := join_each hf (h2.weaken (Nat.le_succ x.hi)) hr
    simp only [List.map_cons, joinGo]
    rw [if_pos (by rcases hf x with h | h; exact .inl h; exact .inr (by rw [h])), ih]
    simp only [hasGo, cut_self, List.nil_append, List.append_nil, List.append_assoc]
theorem join_same (base a : List α) : join base a a = (a, []) := by
  unfold join blocks merge
  rw [blocks_same _ 0 (chain_diff base a), join_each (f := fun x => [x]) (fun _ => .inr rfl) (chain_diff base a) (within_diff base a), has_diff]
end
end File
end Go.Proofs.YtlpoiggdjggkiaaGreatDoor
namespace Go.Proofs.YtlpoiggdjggkiaaGreatDoor
namespace File
/-- How many lines more a change makes. -/
def more : List (Edit ByteArray) → Int
  | [] => 0
  | x :: r => (x.new.length : Int) - (x.old.length : Int) + more r
end File
end Go.Proofs.YtlpoiggdjggkiaaGreatDoor
namespace Go.Proofs.YtlpoiggdjggkiaaGreatDoor
namespace File
theorem text_len {f : List ByteArray} (h : Fl.Good f) : (text f).length ≤ 1000000000 := by
  have h2 := Fl.sum_bounds f
  have h3 := Fl.dec_len 5 (File.sum f).toNat (by omega)
  have : ∀ (f : List ByteArray), (∀ s ∈ f, s.size ≤ 40) → (printed f).length ≤ f.length * 50 := by
    intro f
    induction f with
    | nil => intro _; exact Nat.zero_le _
    | cons s f ih =>
      intro h
      have h1 := ih fun t ht => h t (List.mem_cons_of_mem _ ht)
      have h2 := h s (by simp)
      have h3 := Fl.dec_len 5 s.size (by omega)
      have h4 : (bts s).length = s.size := by simp
      simp only [printed, List.length_append, List.length_cons]
      omega
  have h1 := this f h.wide
  have := h.many
  unfold text endOf
  simp only [List.length_append, List.length_cons, List.length_nil]
  omega
end File
end Go.Proofs.YtlpoiggdjggkiaaGreatDoor
namespace Go.Proofs.YtlpoiggdjggkiaaGreatDoor
namespace File
/-- Where reading stands. -/
def posOf : (Int × Nat) ⊕ (List ByteArray × List UInt8 × Nat) → Nat
  | .inl x => x.2
  | .inr x => x.2.2
theorem takes_cons (a : UInt8) (l : List UInt8) : takes (· == a) (a :: l) = true := by simp [takes]
theorem rest_cons (a : UInt8) (l : List UInt8) : rest (· == a) (a :: l) = l := if_pos (by simp)
theorem matchAll_self : ∀ (ws r : List UInt8) (k : Nat), matchAll ws (ws ++ r) k = (true, r, k + ws.length)
  | [], _, _ => rfl
  | a :: ws, r, k => by
    unfold matchAll
    rw [List.cons_append, if_pos (takes_cons _ _), rest_cons, matchAll_self ws]
    unfold on
    rw [if_pos (takes_cons _ _), List.length_cons]
    exact congrArg (fun n => (true, r, n)) (by omega)
theorem readNum_self {n : Nat} (h : n ≤ 40) (r : List UInt8) (k : Nat) : ∃ k', readNum (Lib.decDigits n ++ 58 :: r) k = (n, true, r, k') := by
  by_cases h1 : n < 10
  · rw [Lib.decDigits_one h1]
    have ht : (UInt8.ofNat (48 + n)).toNat = 48 + n := by
      rw [UInt8.toNat_ofNat']; omega
    have hd : isDig (UInt8.ofNat (48 + n)) = true := by simp [isDig, ht]; omega
    refine ⟨k + 1 + 1, ?_⟩
    unfold readNum
    simp only [List.cons_append, List.nil_append, hd, if_true]
    rw [if_neg (by rintro ⟨_, h, _⟩; exact absurd h (by show ¬ isDig 58 = true; decide)), takes_cons, rest_cons, ht]
    unfold on
    rw [if_pos (takes_cons _ _)]
    exact congrArg (fun m => (m, true, r, k + 1 + 1)) (by omega)
  · rw [Lib.decDigits_two h1 (by omega)]
    have ht : (UInt8.ofNat (48 + n / 10)).toNat = 48 + n / 10 := by
      rw [UInt8.toNat_ofNat']; omega
    have ht2 : (UInt8.ofNat (48 + n % 10)).toNat = 48 + n % 10 := by
      rw [UInt8.toNat_ofNat']; omega
    have hd : isDig (UInt8.ofNat (48 + n / 10)) = true := by simp [isDig, ht]; omega
    have hd2 : isDig (UInt8.ofNat (48 + n % 10)) = true := by simp [isDig, ht2]; omega
    refine ⟨k + 1 + 1 + 1, ?_⟩
    unfold readNum
    simp only [List.cons_append, List.nil_append, hd, if_true]
    rw [if_pos ⟨by omega, hd2, by show 10 * _ + ((UInt8.ofNat (48 + n % 10)).toNat - 48) ≤ 40; omega⟩]
    rw [show rest isDig (UInt8.ofNat (48 + n % 10) :: 58 :: r) = 58 :: r from if_pos hd2, takes_cons, rest_cons]
    rw [show nextB (UInt8.ofNat (48 + n % 10) :: 58 :: r) = UInt8.ofNat (48 + n % 10) from rfl, ht, ht2]
    rw [show on isDig (UInt8.ofNat (48 + n % 10) :: 58 :: r) (k + 1) = k + 1 + 1 from if_pos hd2]
    unfold on
    rw [if_pos (takes_cons _ _)]
    exact congrArg (fun m => (m, true, r, k + 1 + 1 + 1)) (by omega)
theorem takeN_self : ∀ (x r : List UInt8) (k : Nat), (∀ b ∈ x, okB b = true) → takeN x.length (x ++ r) k = (true, r, k + x.length)
  | [], _, _, _ => rfl
  | b :: x, r, k, h => by
    have hb : okB b = true := h b (by simp)
    rw [List.length_cons]
    unfold takeN
    rw [List.cons_append, if_pos (show takes okB (b :: (x ++ r)) = true from hb), show rest okB (b :: (x ++ r)) = x ++ r from if_pos hb, takeN_self x r _ (fun c hc => h c (List.mem_cons_of_mem _ hc))]
    rw [show on okB (b :: (x ++ r)) k = k + 1 from if_pos hb]
    exact congrArg (fun n => (true, r, n)) (by omega)
theorem readLine_self {x : List UInt8} (h : x.length ≤ 40) (hx : ∀ b ∈ x, okB b = true) (r : List UInt8) (k : Nat) : ∃ k', readLine (Lib.decDigits x.length ++ 58 :: (x ++ 10 :: r)) k = (some x, r, k') := by
  obtain ⟨k', h1⟩ := readNum_self h (x ++ 10 :: r) k
  unfold readLine
  rw [h1]
  simp only [runN, if_true]
  rw [takeN_self x _ _ hx]
  simp only [if_true, takes_cons, rest_cons]
  exact ⟨_, by rw [List.take_left]⟩
theorem dec_head {n : Nat} (h : n ≤ 40) (r : List UInt8) : nextB (Lib.decDigits n ++ r) ≠ 61 := by
  have : ∀ n : Fin 41, (Lib.decDigits n.val).head? ≠ none ∧ (Lib.decDigits n.val).head? ≠ some 61 := by
    intro n
    by_cases h1 : n.val < 10
    · rw [Lib.decDigits_one h1]
      refine ⟨by simp, fun e => ?_⟩
      have e : UInt8.ofNat (48 + n.val) = 61 := by simpa using e
      have := congrArg UInt8.toNat e
      rw [UInt8.toNat_ofNat'] at this
      have h61 : (61 : UInt8).toNat = 61 := rfl
      omega
    · rw [Lib.decDigits_two h1 (by omega)]
      refine ⟨by simp, fun e => ?_⟩
      have e : UInt8.ofNat (48 + n.val / 10) = 61 := by simpa using e
      have := congrArg UInt8.toNat e
      rw [UInt8.toNat_ofNat'] at this
      have h61 : (61 : UInt8).toNat = 61 := rfl
      omega
  obtain ⟨a, b⟩ := this ⟨n, by omega⟩
  dsimp only at a b
  cases hd : Lib.decDigits n with
  | nil => rw [hd] at a; exact absurd rfl a
  | cons c q =>
    rw [hd] at b
    intro e
    exact b (congrArg some e)
theorem lines_self : ∀ (fs : List ByteArray) (n : Nat) (out : List ByteArray) (r : List UInt8) (k : Nat), fs.length < n → out.length + fs.length ≤ 24 → (∀ s ∈ fs, s.size ≤ 40 ∧ okLine s = true) → ∃ k', lines n out (printed fs ++ 61 :: r) k = .inr (out ++ fs, 61 :: r, k')
  | [], n + 1, out, r, k, _, _, _ => ⟨k, by unfold lines; rw [if_pos (show nextB (printed [] ++ 61 :: r) = 61 from rfl), List.append_nil]; rfl⟩
  | s :: fs, n + 1, out, r, k, hn, hl, hs => by
    simp only [List.length_cons] at hn hl
    obtain ⟨w1, w2⟩ := hs s (by simp)
    have hsz : s.size = (bts s).length := by simp
    have hx : ∀ b ∈ bts s, okB b = true := fun b hb => List.all_eq_true.1 w2 b hb
    obtain ⟨k1, h1⟩ := readLine_self (by omega) hx (printed fs ++ 61 :: r) k
    have e : printed (s :: fs) ++ 61 :: r = Lib.decDigits (bts s).length ++ 58 :: (bts s ++ 10 :: (printed fs ++ 61 :: r)) := by simp [printed]
    obtain ⟨k', h2⟩ := lines_self fs n (out ++ [ba (bts s)]) r k1 (by omega) (by simp; omega) (fun t ht => hs t (List.mem_cons_of_mem _ ht))
    refine ⟨k', ?_⟩
    rw [e]
    unfold lines
    rw [if_neg (dec_head (by omega) _), if_neg (by omega), h1]
    dsimp only
    rw [h2]
    have hb : ba (bts s) = s := by apply ByteArray.ext; simp [ba]
    rw [hb, List.append_assoc]
    rfl
  | _, 0, _, _, _, h, _, _ => by omega
/-- What is printed is parsed to the same file. -/
theorem parse_self {f : List ByteArray} (h : f.length ≤ 24) (hs : ∀ s ∈ f, s.size ≤ 40 ∧ okLine s = true) : parse (text f) = (f, 0, 0) := by
  obtain ⟨k', h1⟩ := lines_self f 25 [] (endOf f) 0 (by omega) (by simpa using h) hs
  unfold parse text
  rw [h1]
  unfold ending
  dsimp only
  have m := matchAll_self (endOf f) [] (on (· == 61) (61 :: endOf f) k')
  rw [List.append_nil] at m
  rw [List.nil_append, rest_cons, m]
  simp
end File
end Go.Proofs.YtlpoiggdjggkiaaGreatDoor
end
section
namespace Go.Proofs.YtlpoiggdjggkiaaGreatDoor
namespace File
section
variable {α : Type}
theorem pairsLen {a b : List α} : ∀ {l : List (Nat × Nat)} {i j : Nat}, Pairs a b i j l → l.length ≤ a.length - i
  | [], _, _, _ => Nat.zero_le _
  | q :: r, i, j, ⟨h1, h2, ⟨h3, _⟩, h4⟩ => by
    have := pairsLen h4
    simp only [List.length_cons]
    omega
/-- The pairs of a list with that which has one line more at m. -/
def putP (m i n : Nat) : List (Nat × Nat) := (List.range' i n).map fun k => (k, if k < m then k else k + 1)
theorem putP_succ (m i n : Nat) : putP m i (n + 1) = (i, if i < m then i else i + 1) :: putP m (i + 1) n := by
  unfold putP
  rw [List.range'_succ, List.map_cons]
theorem put_at {p q : List α} {x : α} {i : Nat} : (p ++ q)[i]? = (p ++ x :: q)[if i < p.length then i else i + 1]? := by
  by_cases h : i < p.length
  · rw [if_pos h, List.getElem?_append_left h, List.getElem?_append_left h]
  · rw [if_neg h, List.getElem?_append_right (by omega), List.getElem?_append_right (by omega), show i + 1 - p.length = (i - p.length) + 1 by omega, List.getElem?_cons_succ]
theorem putP_pairs {p q : List α} {x : α} : ∀ (n i : Nat), n = (p ++ q).length - i → i ≤ (p ++ q).length → Pairs (p ++ q) (p ++ x :: q) i (if i ≤ p.length then i else i + 1) (putP p.length i n)
  | 0, _, _, _ => trivial
  | n + 1, i, hn, hi => by
    rw [putP_succ]
    have hl : (p ++ x :: q).length = (p ++ q).length + 1 := by simp; omega
    have h1 : i < (p ++ q).length := by omega
    have h2 : (if i < p.length then i else i + 1) < (p ++ x :: q).length := by split <;> omega
    refine ⟨Nat.le_refl _, by show _ ≤ (if i < p.length then i else i + 1); split <;> split <;> omega, ⟨h1, h2, ?_⟩, ?_⟩
    · have := put_at (p := p) (q := q) (x := x) (i := i)
      rw [List.getElem?_eq_getElem h1, List.getElem?_eq_getElem h2] at this
      exact Option.some.inj this
    · have := putP_pairs (p := p) (q := q) (x := x) n (i + 1) (by omega) (by omega)
      have e : (if i + 1 ≤ p.length then i + 1 else i + 1 + 1) = (if i < p.length then i else i + 1) + 1 := by split <;> split <;> omega
      rw [e] at this
      exact this
theorem putP_only {p q : List α} {x : α} (hx : q.head? ≠ some x) : ∀ (n i : Nat) (l : List (Nat × Nat)), n = (p ++ q).length - i → i ≤ (p ++ q).length → Pairs (p ++ q) (p ++ x :: q) i (if i ≤ p.length then i else i + 1) l → l.length = n → lexLe l (putP p.length i n) → l = putP p.length i n
  | 0, _, l, _, _, _, hl, _ => by rw [List.length_eq_zero_iff.1 hl]; rfl
  | n + 1, i, [], _, _, _, hl, _ => by simp at hl
  | n + 1, i, t :: r, hn, hi, ⟨h1, h2, ⟨h3, h4, h5⟩, h6⟩, hl, hx' => by
    rw [putP_succ] at hx' ⊢
    have hr := pairsLen h6
    simp only [List.length_cons] at hl
    have ht : t.1 = i := by omega
    have ht2 : t.2 = (if i < p.length then i else i + 1) ∧ lexLe r (putP p.length (i + 1) n) := by
      unfold lexLe at hx'
      rcases hx' with h | ⟨_, h | h⟩
      · exact absurd (show t.1 < i from h) (by omega)
      · exfalso
        have h : t.2 < (if i < p.length then i else i + 1) := h
        have hip : i = p.length ∧ t.2 = p.length := by split at h <;> split at h2 <;> omega
        obtain ⟨e1, e2⟩ := hip
        have h7 : (p ++ q)[t.1]? = (p ++ x :: q)[t.2]? := by rw [List.getElem?_eq_getElem h3, List.getElem?_eq_getElem h4, h5]
        rw [ht, e1, e2, List.getElem?_append_right (Nat.le_refl _), List.getElem?_append_right (Nat.le_refl _), Nat.sub_self, List.getElem?_cons_zero, ← List.head?_eq_getElem?] at h7
        exact hx h7
      · exact h
    obtain ⟨ht2, hlex⟩ := ht2
    have e : (if i + 1 ≤ p.length then i + 1 else i + 1 + 1) = t.2 + 1 := by rw [ht2]; split <;> split <;> omega
    rw [putP_only hx n (i + 1) r (by omega) (by omega) (by rw [e, ← ht]; exact h6) (by omega) hlex]
    obtain ⟨t1, t2⟩ := t
    simp only at ht ht2
    rw [ht, ht2]
end
section
variable {α : Type} [DecidableEq α]
theorem common_put {p q : List α} {x : α} (hx : q.head? ≠ some x) : common (p ++ q) (p ++ x :: q) = putP p.length 0 (p ++ q).length := by
  have h1 := putP_pairs (p := p) (q := q) (x := x) (p ++ q).length 0 (by omega) (Nat.zero_le _)
  rw [if_pos (Nat.zero_le _)] at h1
  have h2 := pairs_most h1
  have hc := common_pairs (p ++ q) (p ++ x :: q)
  have h3 := pairsLen hc
  have hl : (putP p.length 0 (p ++ q).length).length = (p ++ q).length := by unfold putP; rw [List.length_map, List.length_range']
  rw [hl] at h2
  refine putP_only hx _ 0 _ (by omega) (Nat.zero_le _) (by rw [if_pos (Nat.zero_le _)]; exact hc) (by omega) ?_
  exact common_first h1 (by rw [hl]; omega)
end
section
variable {α : Type}
theorem diffGo_diag {a b : List α} {m : Nat} (l : List (Nat × Nat)) : ∀ (n i : Nat), i + n ≤ m → diffGo a b i i (putP m i n ++ l) = diffGo a b (i + n) (i + n) l
  | 0, i, _ => rfl
  | n + 1, i, h => by
    rw [putP_succ, if_pos (by omega), List.cons_append]
    show (if i = i ∧ i = i then [] else _) ++ diffGo a b (i + 1) (i + 1) _ = _
    rw [if_pos ⟨rfl, rfl⟩, List.nil_append, diffGo_diag l n (i + 1) (by omega)]
    congr 1 <;> omega
theorem diffGo_off {a b : List α} {m : Nat} : ∀ (n i : Nat), m ≤ i → diffGo a b i (i + 1) (putP m i n) = []
  | 0, i, _ => rfl
  | n + 1, i, h => by
    rw [putP_succ, if_neg (by omega)]
    show (if i = i ∧ i + 1 = i + 1 then [] else _) ++ diffGo a b (i + 1) (i + 1 + 1) _ = _
    rw [if_pos ⟨rfl, rfl⟩, List.nil_append, diffGo_off n (i + 1) (by omega)]
theorem putP_add (m i n k : Nat) : putP m i (n + k) = putP m i n ++ putP m (i + n) k := by
  unfold putP
  rw [← List.map_append]
  congr 1
  have := List.range'_append (s := i) (m := n) (n := k) (step := 1)
  rw [Nat.one_mul] at this
  exact this.symm
end
section
variable {α : Type} [DecidableEq α]
theorem diff_put {p q : List α} {x : α} (hx : q.head? ≠ some x) : diff (p ++ q) (p ++ x :: q) = [⟨(p.length : Int), [], [x]⟩] := by
  have hl : (p ++ x :: q).length = (p ++ q).length + 1 := by simp; omega
  have hl2 : (p ++ q).length = p.length + q.length := List.length_append
  unfold diff
  rw [common_put hx]
  have e : putP p.length 0 (p ++ q).length ++ [((p ++ q).length, (p ++ x :: q).length)] = putP p.length 0 (p.length + (q.length + 1)) := by
    rw [← Nat.add_assoc, ← hl2, putP_add p.length 0 (p ++ q).length 1, putP_succ, if_neg (by omega), hl]
    simp [putP]
  rw [e, putP_add, diffGo_diag _ _ _ (by omega), Nat.zero_add, putP_succ, if_neg (by omega)]
  show (if p.length = p.length ∧ p.length + 1 = p.length then [] else [(⟨(p.length : Int), cut (p ++ q) p.length p.length, cut (p ++ x :: q) p.length (p.length + 1)⟩ : Edit α)]) ++ diffGo _ _ (p.length + 1) (p.length + 1 + 1) _ = _
  rw [if_neg (by omega), diffGo_off _ _ (by omega), List.append_nil]
  unfold cut
  simp
/-- Two copies with one line more each, at the same place. -/
theorem join_putSame {p q : List α} {x y : α} (hx : q.head? ≠ some x) (hy : q.head? ≠ some y) : join (p ++ q) (p ++ x :: q) (p ++ y :: q) = if x = y then (p ++ x :: q, []) else (p ++ q, [(p.length, p.length)]) := by
  unfold join
  rw [diff_put hx, diff_put hy]
  have hm : blocks [(⟨(p.length : Int), [], [x]⟩ : Edit α)] [⟨(p.length : Int), [], [y]⟩] = [⟨p.length, p.length, [⟨(p.length : Int), [], [x]⟩], [⟨(p.length : Int), [], [y]⟩]⟩] := by
    unfold blocks merge
    show blocksOf (if (p.length : Int) < p.length then _ else _) = _
    rw [if_neg (by omega)]
    show (if (p.length : Int).toNat ≤ (p.length : Int).toNat + 0 then _ else _) = _
    rw [if_pos (by omega)]
    simp [grow, Block.add, Block.new, Edit.lo, Edit.hi, mergeGo]
  rw [hm]
  simp only [joinGo, hasGo, Edit.lo, Edit.hi, Int.toNat_natCast, List.length_nil, Nat.add_zero, cut_self, List.nil_append, List.append_nil]
  have c1 : cut (p ++ q) 0 p.length = p := by unfold cut; simp
  have c2 : (p ++ q).drop p.length = q := by simp
  rw [c1, c2]
  by_cases h : x = y
  · subst h
    rw [if_pos (Or.inr rfl), if_pos rfl]
    rfl
  · rw [if_neg (by simp [h]), if_neg (by simp), if_neg h]
/-- At different places. -/
theorem join_putTwo {p q r : List α} {x y : α} (hq : q ≠ []) (hx : q.head? ≠ some x) (hy : r.head? ≠ some y) : join (p ++ (q ++ r)) (p ++ x :: (q ++ r)) (p ++ (q ++ y :: r)) = (p ++ x :: (q ++ y :: r), []) := by
  have hx' : (q ++ r).head? ≠ some x := by
    cases q with
    | nil => exact absurd rfl hq
    | cons z q => exact hx
  unfold join
  rw [diff_put hx']
  rw [show p ++ (q ++ r) = (p ++ q) ++ r by simp, show p ++ (q ++ y :: r) = (p ++ q) ++ y :: r by simp, diff_put hy]
  have hq1 : 0 < q.length := List.length_pos_iff.2 hq
  have hl : (p ++ q).length = p.length + q.length := List.length_append
  have hm : blocks [(⟨(p.length : Int), [], [x]⟩ : Edit α)] [⟨((p ++ q).length : Int), [], [y]⟩] = [⟨p.length, p.length, [⟨(p.length : Int), [], [x]⟩], []⟩, ⟨(p ++ q).length, (p ++ q).length, [], [⟨((p ++ q).length : Int), [], [y]⟩]⟩] := by
    unfold blocks merge
    show blocksOf (if ((p ++ q).length : Int) < p.length then _ else _) = _
    rw [if_neg (by omega)]
    show (if ((p ++ q).length : Int).toNat ≤ (p.length : Int).toNat + 0 then _ else _) = _
    rw [if_neg (by omega)]
    rw [hl]
    simp [grow, Block.new, Edit.lo, Edit.hi, mergeGo]
    omega
  rw [hm]
  simp only [joinGo, hasGo, Edit.lo, Edit.hi, Int.toNat_natCast, List.length_nil, Nat.add_zero, cut_self, List.nil_append, List.append_nil]
  have c1 : cut (p ++ q ++ r) 0 p.length = p := by unfold cut; rw [List.append_assoc]; simp
  have c2 : (p ++ q ++ r).drop (p ++ q).length = r := by simp
  have c3 : cut (p ++ q ++ r) p.length (p ++ q).length = q := by
    unfold cut
    rw [List.append_assoc, List.drop_left, hl, show p.length + q.length - p.length = q.length by omega, List.take_left]
  rw [c1, c2, c3]
  simp
end
end File
end Go.Proofs.YtlpoiggdjggkiaaGreatDoor
end
section
namespace Go.Proofs.YtlpoiggdjggkiaaGreatDoor
structure Piece where
  b : Int
  s : Int
  e : Int
  deriving DecidableEq, Repr, Inhabited
structure Rule where
  b : Int
  s : Int
  e : Int
  p : Int
  deriving DecidableEq, Repr, Inhabited
namespace Price
def inB (n lo hi : Int) : Bool := decide (lo ≤ n) && decide (n ≤ hi)
def allowed (r : Rule) : Bool := inB r.b (-1) 3 && (inB r.s (-1) 4 && (inB r.e (-1) 2 && inB r.p 0 500))
def fits (n h : Int) : Bool := decide (n = -1) || decide (n = h)
def holds (r : Rule) (p : Piece) : Bool := fits r.b p.b && (fits r.s p.s && fits r.e p.e)
def one (n : Int) : Int := if n = -1 then 0 else 1
def many (r : Rule) : Int := one r.b + one r.s + one r.e
def greatest (l : List Int) : Int := l.foldl max 0
/-- Does the rule stand among those ahead of it? -/
def dupIn (pre l : List Rule) : Bool := match l with
  | [] => false
  | r :: l => pre.contains r || dupIn (pre ++ [r]) l
def check (l : List Rule) : Int :=
  if l.length > 8 then 2 else if l.all allowed then (if dupIn [] l then 5 else 0) else 3
def held (l : List Rule) (p : Piece) : List Int := (l.filter (holds · p)).map many
def countsFrom (most : Int) (p : Piece) (l : List Rule) (i : Int) : List Int := match l with
  | [] => []
  | r :: l => if holds r p && decide (many r = most) then i :: countsFrom most p l (i + 1) else countsFrom most p l (i + 1)
def counts (l : List Rule) (p : Piece) : List Int := countsFrom (greatest (held l p)) p l 0
def prices (l : List Rule) (p : Piece) : List Int := (counts l p).map fun i => (l.getD i.toNat default).p
end Price
end Go.Proofs.YtlpoiggdjggkiaaGreatDoor
end
section
namespace Go.Proofs.YtlpoiggdjggkiaaGreatDoor
open Go.RowKit
def pieceE : Enc Piece := ⟨fun p => [iv p.b, iv p.s, iv p.e], 3, fun _ => rfl, fun _ u h => by simp at h; rcases h with rfl | rfl | rfl <;> rfl, by decide⟩
abbrev Piece.v (p : Piece) : Value := .agg #[iv p.b, iv p.s, iv p.e]
abbrev Rule.v (r : Rule) : Value := .agg #[iv r.b, iv r.s, iv r.e, iv r.p]
theorem tyInts : SlTy Tryz.prog 29 3 1 := slTy_of (z := iv 0) (bytes := 8) Tryz.underlying29 (by kernel_rfl) rfl (by decide)
end Go.Proofs.YtlpoiggdjggkiaaGreatDoor
namespace Go.Proofs.YtlpoiggdjggkiaaGreatDoor
open Go.RowKit
theorem three (a x : Int) (P : Prop) (h1 : a = -1 → P) (h2 : a = x → (a != -1) = true → P) (h3 : (a != -1) = true → (a != x) = true → P) : P := by
  by_cases h : a = -1
  · exact h1 h
  · by_cases h' : a = x
    · exact h2 h' (by simpa using h)
    · exact h3 (by simpa using h) (by simpa using h')
end Go.Proofs.YtlpoiggdjggkiaaGreatDoor
end
section
namespace Go.Proofs.YtlpoiggdjggkiaaGreatDoor
open Go.RowKit
set_option maxRecDepth 100000
structure Weigh where
  lot : Int
  reads : Int
  lo : Int
  hi : Int
structure SLot where
  fr : Int
  kind : Int
def weighE : Enc Weigh := ⟨fun p => [iv p.lot, iv p.reads, iv p.lo, iv p.hi], 4, fun _ => rfl, fun _ u h => by simp at h; rcases h with rfl | rfl | rfl | rfl <;> rfl, by decide⟩
def lotE : Enc SLot := ⟨fun p => [iv p.fr, iv p.kind], 2, fun _ => rfl, fun _ u h => by simp at h; rcases h with rfl | rfl <;> rfl, by decide⟩
abbrev Weigh.v (p : Weigh) : Value := .agg #[iv p.lot, iv p.reads, iv p.lo, iv p.hi]
abbrev SLot.v (p : SLot) : Value := .agg #[iv p.fr, iv p.kind]
theorem Sl.atW {w : World} {A : Option Addr} {xs : List Weigh} {k : Nat} (h : Sl weighE w A xs) (hk : k < xs.length) :
    ∃ b off x, A = some ⟨b, off, none⟩ ∧ b < w.heap.size ∧ xs[k]? = some x ∧ w.cell? ⟨b, off + k * 4, none⟩ = some (iv x.lot) ∧ w.cell? ⟨b, off + k * 4 + 1, none⟩ = some (iv x.reads) ∧
      w.cell? ⟨b, off + k * 4 + 2, none⟩ = some (iv x.lo) ∧ w.cell? ⟨b, off + k * 4 + 3, none⟩ = some (iv x.hi) := by
  obtain ⟨b, off, x, hA, hb, hx, hc⟩ := h.at_ hk
  exact ⟨b, off, x, hA, hb, hx, hc 0 _ rfl, hc 1 _ rfl, hc 2 _ rfl, hc 3 _ rfl⟩
theorem Sl.atL {w : World} {A : Option Addr} {xs : List SLot} {k : Nat} (h : Sl lotE w A xs) (hk : k < xs.length) :
    ∃ b off x, A = some ⟨b, off, none⟩ ∧ b < w.heap.size ∧ xs[k]? = some x ∧ w.cell? ⟨b, off + k * 2, none⟩ = some (iv x.fr) ∧ w.cell? ⟨b, off + k * 2 + 1, none⟩ = some (iv x.kind) := by
  obtain ⟨b, off, x, hA, hb, hx, hc⟩ := h.at_ hk
  exact ⟨b, off, x, hA, hb, hx, hc 0 _ rfl, hc 1 _ rfl⟩
theorem sin_spec (n lo hi : Int) (w : World) : Calls Tryz.prog 44 #[iv n, iv lo, iv hi] w
    fun e w' => e = .returned (.bool (Price.inB n lo hi)) ∧ w = w' := by
  by_cases h1 : lo ≤ n <;> by_cases h2 : n ≤ hi
  all_goals
    go_enter Tryz.func44, Tryz.ntmps44
    go_wp2
    go_ret
    exact ⟨by simp [Price.inB, *], rfl⟩
theorem sallowed_spec (n : Int) (w : World) : Calls Tryz.prog 49 #[iv n] w fun e w' => e = .returned (.bool (Price.inB n 0 3)) ∧ w = w' := by
  by_cases h1 : 0 ≤ n <;> by_cases h2 : n ≤ 3
  all_goals
    go_enter Tryz.func49, Tryz.ntmps49
    go_wp2
    go_ret
    exact ⟨by simp [Price.inB, *], rfl⟩
/-- A weighing that is right, of the first lot. -/
structure Weigh.Ok (x : Weigh) : Prop where
  lot : x.lot = 0
  reads : 0 ≤ x.reads ∧ x.reads ≤ 10000
  lo : 0 ≤ x.lo
  mid : x.lo ≤ x.hi
  hi : x.hi ≤ 60
set_option maxRecDepth 100000 in
theorem indexW (A : Option Addr) (l : List Weigh) (c : Nat) (K : Nat) (cap : Array Value) (p : Weigh → Bool) (w : World) (hm : l.length ≤ big) (hs : Sl weighE w A l)
    (hf : IsPred Tryz.prog w K cap Weigh.v l p) :
    Calls Tryz.prog 93 #[.slice A l.length c, .func (.func K) #[] cap] w
    fun e w' => e = .returned (iv (findFrom p l 0)) ∧ Below w.heap.size w w' := by
  unfold big at hm
  obtain ⟨hK, hf⟩ := hf
  have HF := Lib.hid hf
  clear hf
  go_enter Tryz.func93, Tryz.ntmps93
  go_wp2
  go_loopw [5, 8] (fun u i wr => ∃ (k : Nat), k ≤ l.length ∧ i = iv k ∧ Hid (findFrom p (l.drop k) k = findFrom p l 0) ∧ Below w.heap.size w wr) (fun _ i _ => l.length - (intOf i).toNat)
  case atStart => exact ⟨0, by omega, rfl, rfl, Below.refl _ _⟩
  case round =>
    obtain ⟨k, hk, rfl, hr, hbw⟩ := hrel
    have hs1 := hs.below hbw
    by_cases hlt : k < l.length
    · obtain ⟨b, off, x, rfl, hb, hx, hc0, hc1, hc2, hc3⟩ := hs1.atW hlt
      have hd := hr.out
      rw [drop_at hx] at hd
      simp only [findFrom] at hd
      have HD := Lib.hid hd
      clear hd
      cases hp : p x
      · go_wp2_with fail
        refine (HF.out x (mem_at hx) wr hbw).mono ?_
        rintro e w1 ⟨rfl, hb1⟩
        rw [hp]
        go_wp2_with fail
        go_roundw
        case rel => exact ⟨k + 1, by omega, by go_num, by have := HD.out; rw [hp] at this; exact this, hbw.next hb1 (Nat.le_refl _)⟩
        case measure => simp [intOf]; omega
      · go_wp2_with fail
        refine (HF.out x (mem_at hx) wr hbw).mono ?_
        rintro e w1 ⟨rfl, hb1⟩
        rw [hp]
        go_wp2_with fail
        go_ret
        exact ⟨ret_eq (by have := HD.out; rw [hp] at this; rw [← this]; rfl), hbw.next hb1 (Nat.le_refl _)⟩
    · have hd := hr.out
      rw [drop_end hlt] at hd
      have HD := Lib.hid hd
      clear hd
      go_wp2
      go_ret
      exact ⟨ret_eq (by rw [← HD.out]; rfl), hbw⟩
set_option maxRecDepth 100000 in
theorem indexL (A : Option Addr) (l : List SLot) (c : Nat) (K : Nat) (cap : Array Value) (p : SLot → Bool) (w : World) (hm : l.length ≤ big) (hs : Sl lotE w A l)
    (hf : IsPred Tryz.prog w K cap SLot.v l p) :
    Calls Tryz.prog 72 #[.slice A l.length c, .func (.func K) #[] cap] w
    fun e w' => e = .returned (iv (findFrom p l 0)) ∧ Below w.heap.size w w' := by
  unfold big at hm
  obtain ⟨hK, hf⟩ := hf
  have HF := Lib.hid hf
  clear hf
  go_enter Tryz.func72, Tryz.ntmps72
  go_wp2
  go_loopw [5, 8] (fun u i wr => ∃ (k : Nat), k ≤ l.length ∧ i = iv k ∧ Hid (findFrom p (l.drop k) k = findFrom p l 0) ∧ Below w.heap.size w wr) (fun _ i _ => l.length - (intOf i).toNat)
  case atStart => exact ⟨0, by omega, rfl, rfl, Below.refl _ _⟩
  case round =>
    obtain ⟨k, hk, rfl, hr, hbw⟩ := hrel
    have hs1 := hs.below hbw
    by_cases hlt : k < l.length
    · obtain ⟨b, off, x, rfl, hb, hx, hc0, hc1⟩ := hs1.atL hlt
      have hd := hr.out
      rw [drop_at hx] at hd
      simp only [findFrom] at hd
      have HD := Lib.hid hd
      clear hd
      cases hp : p x
      · go_wp2_with fail
        refine (HF.out x (mem_at hx) wr hbw).mono ?_
        rintro e w1 ⟨rfl, hb1⟩
        rw [hp]
        go_wp2_with fail
        go_roundw
        case rel => exact ⟨k + 1, by omega, by go_num, by have := HD.out; rw [hp] at this; exact this, hbw.next hb1 (Nat.le_refl _)⟩
        case measure => simp [intOf]; omega
      · go_wp2_with fail
        refine (HF.out x (mem_at hx) wr hbw).mono ?_
        rintro e w1 ⟨rfl, hb1⟩
        rw [hp]
        go_wp2_with fail
        go_ret
        exact ⟨ret_eq (by have := HD.out; rw [hp] at this; rw [← this]; rfl), hbw.next hb1 (Nat.le_refl _)⟩
    · have hd := hr.out
      rw [drop_end hlt] at hd
      have HD := Lib.hid hd
      clear hd
      go_wp2
      go_ret
      exact ⟨ret_eq (by rw [← HD.out]; rfl), hbw⟩
theorem containsW (A : Option Addr) (l : List Weigh) (c : Nat) (K : Nat) (cap : Array Value) (p : Weigh → Bool) (w : World) (hm : l.length ≤ big) (hs : Sl weighE w A l)
    (hf : IsPred Tryz.prog w K cap Weigh.v l p) :
    Calls Tryz.prog 73 #[.slice A l.length c, .func (.func K) #[] cap] w
    fun e w' => e = .returned (.bool (l.any p)) ∧ Below w.heap.size w w' := by
  have HF := Lib.hid hf
  clear hf
  go_enter Tryz.func73, Tryz.ntmps73
  go_wp2_with (go_at_call 93; refine (indexW A l c K cap p _ hm hs HF.out).mono ?_; rintro e w1 ⟨rfl, hb1⟩)
  go_ret
  exact ⟨ret_eq (by rw [← findFrom_nonneg p l 0 (by omega)]; rfl), hb1⟩
theorem containsL (A : Option Addr) (l : List SLot) (c : Nat) (K : Nat) (cap : Array Value) (p : SLot → Bool) (w : World) (hm : l.length ≤ big) (hs : Sl lotE w A l)
    (hf : IsPred Tryz.prog w K cap SLot.v l p) :
    Calls Tryz.prog 42 #[.slice A l.length c, .func (.func K) #[] cap] w
    fun e w' => e = .returned (.bool (l.any p)) ∧ Below w.heap.size w w' := by
  have HF := Lib.hid hf
  clear hf
  go_enter Tryz.func42, Tryz.ntmps42
  go_wp2_with (go_at_call 72; refine (indexL A l c K cap p _ hm hs HF.out).mono ?_; rintro e w1 ⟨rfl, hb1⟩)
  go_ret
  exact ⟨ret_eq (by rw [← findFrom_nonneg p l 0 (by omega)]; rfl), hb1⟩
set_option maxRecDepth 100000 in
theorem notW (K : Nat) (cap : Array Value) (p : Weigh → Bool) (w0 w : World) (x : Weigh) (l : List Weigh) (g : Nat) (hx : x ∈ l) (hg : g < w.heap.size) (hc : w.cell? ⟨g, 0, none⟩ = some (.func (.func K) #[] cap)) (hb : Below w0.heap.size w0 w) (hf : IsPred Tryz.prog w0 K cap Weigh.v l p) :
    Calls Tryz.prog 74 #[Weigh.v x, .pointer (some ⟨g, 0, none⟩)] w fun e w' => e = .returned (.bool (!p x)) ∧ Below w.heap.size w w' := by
  obtain ⟨hK, hf⟩ := hf
  have HF := Lib.hid (fun w' (h : Below w.heap.size w w') => hf x hx w' (hb.next h (Nat.le_refl _)))
  clear hf hx
  obtain ⟨a, b, c, d⟩ := x
  go_enter Tryz.func74, Tryz.ntmps74
  go_wp2_with fail
  refine (HF.out _ ((Below.refl _ _).alloc (Nat.le_refl _) _)).mono ?_
  rintro e w1 ⟨rfl, hb1⟩
  go_wp2_with fail
  go_ret
  exact ⟨rfl, hb1.of_alloc⟩
set_option maxRecDepth 100000 in
theorem everyW (A : Option Addr) (l : List Weigh) (c : Nat) (K : Nat) (cap : Array Value) (p : Weigh → Bool) (w : World) (hm : l.length ≤ big) (hs : Sl weighE w A l)
    (hf : IsPred Tryz.prog w K cap Weigh.v l p) :
    Calls Tryz.prog 45 #[.slice A l.length c, .func (.func K) #[] cap] w
    fun e w' => e = .returned (.bool (l.all p)) ∧ Below w.heap.size w w' := by
  have HF := Lib.hid hf
  clear hf
  have hsf := fun (a : Addr) (c : Array Value) (w : World) => run_store Tryz.prog w a (.func (.func K) #[] c) .plain rfl
  have hmf : ∀ (fn : Fn) (first cap : Array Value) (w : World), (Instr.makeFunc fn first cap).run Tryz.prog w = .ok (.func fn first cap) w := fun _ _ _ _ => rfl
  go_enter Tryz.func45, Tryz.ntmps45
  go_wp2_with (go_at_call 73; refine (containsW A l c 74 #[.pointer (some ⟨w.heap.size, 0, none⟩)] (fun x => !p x) _ hm (hs.alloc _) ⟨callFunc_run (by kernel_rfl), fun x hx w' hw' => notW K cap p w w' x l w.heap.size hx (by have := hw'.size; simp at this; omega) ((hw'.cell (by simp)).trans (by simp [go_sem])) hw'.of_alloc HF.out⟩).mono ?_; rintro e w1 ⟨rfl, hb1⟩)
  go_ret
  exact ⟨ret_eq (by rw [List.not_any_eq_all_not]; simp), hb1.of_alloc⟩
set_option maxRecDepth 100000 in
theorem notL (K : Nat) (cap : Array Value) (p : SLot → Bool) (w0 w : World) (x : SLot) (l : List SLot) (g : Nat) (hx : x ∈ l) (hg : g < w.heap.size) (hc : w.cell? ⟨g, 0, none⟩ = some (.func (.func K) #[] cap)) (hb : Below w0.heap.size w0 w) (hf : IsPred Tryz.prog w0 K cap SLot.v l p) :
    Calls Tryz.prog 75 #[SLot.v x, .pointer (some ⟨g, 0, none⟩)] w fun e w' => e = .returned (.bool (!p x)) ∧ Below w.heap.size w w' := by
  obtain ⟨hK, hf⟩ := hf
  have HF := Lib.hid (fun w' (h : Below w.heap.size w w') => hf x hx w' (hb.next h (Nat.le_refl _)))
  clear hf hx
  obtain ⟨a, b⟩ := x
  go_enter Tryz.func75, Tryz.ntmps75
  go_wp2_with fail
  refine (HF.out _ ((Below.refl _ _).alloc (Nat.le_refl _) _)).mono ?_
  rintro e w1 ⟨rfl, hb1⟩
  go_wp2_with fail
  go_ret
  exact ⟨rfl, hb1.of_alloc⟩
set_option maxRecDepth 100000 in
theorem everyL (A : Option Addr) (l : List SLot) (c : Nat) (K : Nat) (cap : Array Value) (p : SLot → Bool) (w : World) (hm : l.length ≤ big) (hs : Sl lotE w A l)
    (hf : IsPred Tryz.prog w K cap SLot.v l p) :
    Calls Tryz.prog 47 #[.slice A l.length c, .func (.func K) #[] cap] w
    fun e w' => e = .returned (.bool (l.all p)) ∧ Below w.heap.size w w' := by
  have HF := Lib.hid hf
  clear hf
  have hsf := fun (a : Addr) (c : Array Value) (w : World) => run_store Tryz.prog w a (.func (.func K) #[] c) .plain rfl
  have hmf : ∀ (fn : Fn) (first cap : Array Value) (w : World), (Instr.makeFunc fn first cap).run Tryz.prog w = .ok (.func fn first cap) w := fun _ _ _ _ => rfl
  go_enter Tryz.func47, Tryz.ntmps47
  go_wp2_with (go_at_call 42; refine (containsL A l c 75 #[.pointer (some ⟨w.heap.size, 0, none⟩)] (fun x => !p x) _ hm (hs.alloc _) ⟨callFunc_run (by kernel_rfl), fun x hx w' hw' => notL K cap p w w' x l w.heap.size hx (by have := hw'.size; simp at this; omega) ((hw'.cell (by simp)).trans (by simp [go_sem])) hw'.of_alloc HF.out⟩).mono ?_; rintro e w1 ⟨rfl, hb1⟩)
  go_ret
  exact ⟨ret_eq (by rw [List.not_any_eq_all_not]; simp), hb1.of_alloc⟩
end Go.Proofs.YtlpoiggdjggkiaaGreatDoor
end
section
namespace Go.Proofs.YtlpoiggdjggkiaaGreatDoor
open Go.RowKit
set_option maxRecDepth 100000
abbrev millV (Al : Option Addr) (cl : Nat) (Aw : Option Addr) (n c : Nat) : Value := .agg #[iv 1, .slice Al 1 cl, .slice Aw n c]
theorem bounded_true (x : Weigh) (h : x.Ok) (w : World) : Calls Tryz.prog 46 #[x.v] w fun e w' => e = .returned (.bool true) ∧ Below w.heap.size w w' := by
  obtain ⟨a, b, c, d⟩ := x
  obtain ⟨h1, h2, h3, h4, h5⟩ := h
  dsimp only at h1 h2 h3 h4 h5
  have e1 : Price.inB b 0 10000 = true := by simp [Price.inB]; omega
  have e2 : Price.inB c 0 60 = true := by simp [Price.inB]; omega
  have e3 : Price.inB d 0 60 = true := by simp [Price.inB]; omega
  clear h1 h2 h3 h4 h5
  go_enter Tryz.func46, Tryz.ntmps46
  go_wp2_with (go_at_call 44; refine (sin_spec _ _ _ _).mono ?_; rintro e w' ⟨rfl, rfl⟩)
  go_ret
  exact ⟨by first | rfl | simp [e1, e2, e3], (Below.refl _ _).alloc (Nat.le_refl _) _⟩
theorem check1_true (x : SLot) (h : 0 ≤ x.kind ∧ x.kind ≤ 3) (w : World) : Calls Tryz.prog 48 #[x.v] w fun e w' => e = .returned (.bool true) ∧ Below w.heap.size w w' := by
  obtain ⟨a, b⟩ := x
  dsimp only at h
  have e1 : Price.inB b 0 3 = true := by simp [Price.inB]; omega
  clear h
  go_enter Tryz.func48, Tryz.ntmps48
  go_wp2_with (go_at_call 49; refine (sallowed_spec _ _).mono ?_; rintro e w' ⟨rfl, rfl⟩)
  go_ret
  exact ⟨by first | rfl | simp [e1], (Below.refl _ _).alloc (Nat.le_refl _) _⟩
theorem check3_true (x : Weigh) (h : x.Ok) (w : World) : Calls Tryz.prog 52 #[x.v] w fun e w' => e = .returned (.bool true) ∧ Below w.heap.size w w' := by
  obtain ⟨a, b, c, d⟩ := x
  have h4 := h.mid
  dsimp only at h4
  clear h
  go_enter Tryz.func52, Tryz.ntmps52
  go_wp2_with fail
  go_ret
  exact ⟨by first | rfl | simp [h4], (Below.refl _ _).alloc (Nat.le_refl _) _⟩
theorem slot_spec (Al : Option Addr) (cl : Nat) (Aw : Option Addr) (n c : Nat) (k : Int) (w : World) : Calls Tryz.prog 50 #[millV Al cl Aw n c, iv k] w fun e w' => e = .returned (.bool (Price.inB k 0 0)) ∧ Below w.heap.size w w' := by
  go_enter Tryz.func50, Tryz.ntmps50
  go_wp2_with (go_at_call 44; refine (sin_spec _ _ _ _).mono ?_; rintro e w' ⟨rfl, rfl⟩)
  go_ret
  exact ⟨rfl, (Below.refl _ _).alloc (Nat.le_refl _) _⟩
theorem check2_true (Al : Option Addr) (cl : Nat) (Aw : Option Addr) (n c : Nat) (x : Weigh) (h : x.Ok) (g : Nat) (w : World) (hg : g < w.heap.size) (hc : w.cell? ⟨g, 0, none⟩ = some (.func (.func 50) #[millV Al cl Aw n c] #[])) :
    Calls Tryz.prog 51 #[x.v, .pointer (some ⟨g, 0, none⟩)] w fun e w' => e = .returned (.bool true) ∧ Below w.heap.size w w' := by
  obtain ⟨a, b, cc, d⟩ := x
  have h1 := h.lot
  dsimp only at h1
  subst h1
  clear h
  have hcf := callFunc_run (P := Tryz.prog) (K := 50) (by kernel_rfl)
  have HL : Hid (∀ W : World, Calls Tryz.prog 50 #[millV Al cl Aw n c, iv 0] W fun e w' => e = .returned (.bool true) ∧ Below W.heap.size W w') := fun W => slot_spec Al cl Aw n c 0 W
  go_enter Tryz.func51, Tryz.ntmps51
  go_wp2_with (go_at_call 50; refine (HL.out _).mono ?_; rintro e w' ⟨rfl, hb⟩)
  go_ret
  exact ⟨rfl, hb.of_alloc⟩
set_option maxHeartbeats 4000000 in
theorem scheck_spec (Al : Option Addr) (cl : Nat) (Aw : Option Addr) (ws : List Weigh) (c : Nat) (w : World) (hl : Sl lotE w Al [⟨-1, 2⟩]) (hw : Sl weighE w Aw ws) (hn : ws.length ≤ 10) (hok : ∀ x ∈ ws, x.Ok) :
    Calls Tryz.prog 22 #[millV Al cl Aw ws.length c] w fun e w' => e = .returned (iv 0) ∧ Below w.heap.size w w' := by
  have hni : ¬ (10 : Int) < (ws.length : Int) := by omega
  have HOK := Lib.hid hok
  have hb0 : Below w.heap.size w (w.alloc (.cells #[iv 1, .slice Al 1 cl, .slice Aw ws.length c] 28)) := (Below.refl _ _).alloc (Nat.le_refl _) _
  have hB0 : Blk (w.alloc (.cells #[iv 1, .slice Al 1 cl, .slice Aw ws.length c] 28)) w.heap.size 28 #[iv 1, .slice Al 1 cl, .slice Aw ws.length c] := Blk.new _ _ _
  have HE1 : Hid (∀ W, Below w.heap.size w W → Calls Tryz.prog 45 #[.slice Aw ws.length c, .func (.func 46) #[] #[]] W fun e w' => e = .returned (.bool true) ∧ Below W.heap.size W w') := fun W h => by
    have := everyW Aw ws c 46 #[] (fun _ => true) W (by unfold big; omega) (hw.below h) ⟨callFunc_run (by kernel_rfl), fun x hx w' _ => bounded_true x (hok x hx) w'⟩
    rw [List.all_eq_true.2 (fun _ _ => rfl)] at this
    exact this
  have HE2 : Hid (∀ W, Below w.heap.size w W → Calls Tryz.prog 47 #[.slice Al 1 cl, .func (.func 48) #[] #[]] W fun e w' => e = .returned (.bool true) ∧ Below W.heap.size W w') := fun W h => by
    have := everyL Al [⟨-1, 2⟩] cl 48 #[] (fun _ => true) W (by simp [big]) (hl.below h) ⟨callFunc_run (by kernel_rfl), fun x hx w' _ => check1_true x (by rw [List.mem_singleton.1 hx]; decide) w'⟩
    rw [List.all_eq_true.2 (fun _ _ => rfl)] at this
    exact this
  have HE3 : Hid (∀ W g, Below w.heap.size w W → g < W.heap.size → W.cell? ⟨g, 0, none⟩ = some (.func (.func 50) #[millV Al cl Aw ws.length c] #[]) → Calls Tryz.prog 45 #[.slice Aw ws.length c, .func (.func 51) #[] #[.pointer (some ⟨g, 0, none⟩)]] W fun e w' => e = .returned (.bool true) ∧ Below W.heap.size W w') := fun W g h hg hc => by
    have := everyW Aw ws c 51 #[.pointer (some ⟨g, 0, none⟩)] (fun _ => true) W (by unfold big; omega) (hw.below h) ⟨callFunc_run (by kernel_rfl), fun x hx w' hb => check2_true Al cl Aw ws.length c x (hok x hx) g w' (Nat.lt_of_lt_of_le hg hb.size) ((hb.cell (p := ⟨g, 0, none⟩) hg).trans hc)⟩
    rw [List.all_eq_true.2 (fun _ _ => rfl)] at this
    exact this
  have HE4 : Hid (∀ W, Below w.heap.size w W → Calls Tryz.prog 45 #[.slice Aw ws.length c, .func (.func 52) #[] #[]] W fun e w' => e = .returned (.bool true) ∧ Below W.heap.size W w') := fun W h => by
    have := everyW Aw ws c 52 #[] (fun _ => true) W (by unfold big; omega) (hw.below h) ⟨callFunc_run (by kernel_rfl), fun x hx w' _ => check3_true x (hok x hx) w'⟩
    rw [List.all_eq_true.2 (fun _ _ => rfl)] at this
    exact this
  have i1 : Price.inB 1 1 12 = true := by decide
  have i2 : Price.inB 1 0 50 = true := by decide
  have i3 : Price.inB (-1) (-1) (-1) = true := by decide
  clear hok hw
  go_enter Tryz.func22, Tryz.ntmps22
  go_wp2_with fail
  generalize w.alloc (.cells #[iv 1, .slice Al 1 cl, .slice Aw ws.length c] 28) = w0 at *
  have c0 := hB0.cell
  have d0 := hB0.lt
  refine (sin_spec _ _ _ _).mono ?_
  rintro e w' ⟨rfl, rfl⟩
  go_wp2_with fail
  refine (sin_spec _ _ _ _).mono ?_
  rintro e w' ⟨rfl, rfl⟩
  have R1 := Lib.hid (HE1.out w0 hb0)
  go_wp2_with fail
  refine R1.out.mono ?_
  rintro e w1 ⟨rfl, hb1⟩
  have hb01 := hb0.next hb1 (Nat.le_refl _)
  have hB1 := hB0.under hb1
  have c1 := hB1.cell
  have d1 := hB1.lt
  have R2 := Lib.hid (HE2.out w1 hb01)
  clear R1 c0 d0
  go_wp2_with fail
  refine R2.out.mono ?_
  rintro e w2 ⟨rfl, hb2⟩
  have hb02 := hb01.next hb2 (Nat.le_refl _)
  have hB2 := hB1.under hb2
  have c2 := hB2.cell
  have d2 := hB2.lt
  clear R2 c1 d1
  go_wp2_with fail
  clear c2 d2
  go_loopw [3, 4, 36] (fun _ _ i wr => ∃ k : Nat, k ≤ 1 ∧ i = iv k ∧ Below w2.heap.size w2 wr) (fun _ _ i _ => 1 - (intOf i).toNat)
  case atStart => exact ⟨0, by omega, rfl, Below.refl _ _⟩
  case round =>
    obtain ⟨k, hk, rfl, hbw⟩ := hrel
    have hb0r := hb02.next hbw (Nat.le_refl _)
    by_cases hlt : k < 1
    · have hki : (k : Int) < 1 := by omega
      obtain ⟨b, off, x, rfl, hb, hx, hc0, hc1⟩ := (hl.below hb0r).atL (k := k) (by simpa using hlt)
      have hxe : x = ⟨-1, 2⟩ := by
        have : k = 0 := by omega
        subst this
        simpa using hx.symm
      subst hxe
      dsimp only at hc0 hc1
      have hkw : IntKind.i64.wrap ((k : Int) - 1) = -1 := by rw [show (k : Int) - 1 = -1 by omega]; rfl
      have HBR := Lib.hid (hbw.next ((Below.refl wr.heap.size wr).alloc (Nat.le_refl _) (.cells #[iv (-1), iv 2] 65)) (Nat.le_refl _))
      clear hx
      go_wp2_with fail
      refine (sin_spec _ _ _ _).mono ?_
      rintro e w' ⟨rfl, rfl⟩
      go_wp2_with fail
      go_roundw
      case rel => exact ⟨k + 1, by omega, by go_num, HBR.out⟩
      case measure => simp [intOf]; omega
    · have hki : ¬ (k : Int) < 1 := by omega
      have hB3 := hB2.under hbw
      have c3 := hB3.cell
      have d3 := hB3.lt
      have hba : Below wr.heap.size wr (wr.alloc (.cells #[.func (.func 50) #[millV Al cl Aw ws.length c] #[]] 62)) := (Below.refl _ _).alloc (Nat.le_refl _) _
      have hBf : Blk (wr.alloc (.cells #[.func (.func 50) #[millV Al cl Aw ws.length c] #[]] 62)) wr.heap.size 62 #[.func (.func 50) #[millV Al cl Aw ws.length c] #[]] := Blk.new _ _ _
      have R3 := Lib.hid (HE3.out _ wr.heap.size (hb0r.next hba (Nat.le_refl _)) hBf.lt (hBf.cell 0))
      have hB3a := hB3.under hba
      have c4 := hB3a.cell
      have d4 := hB3a.lt
      have hb0a := hb0r.next hba (Nat.le_refl _)
      clear hB2 hB1 hB0
      go_wp2_with fail
      refine R3.out.mono ?_
      generalize wr.alloc (.cells #[.func (.func 50) #[millV Al cl Aw ws.length c] #[]] 62) = w3 at *
      rintro e w4 ⟨rfl, hb4⟩
      have hb04 := hb0a.next hb4 (Nat.le_refl _)
      have hB4 := hB3a.under hb4
      clear c3 d3 c4 d4 R3
      have c5 := hB4.cell
      have d5 := hB4.lt
      have R4 := Lib.hid (HE4.out w4 hb04)
      go_wp2_with fail
      refine R4.out.mono ?_
      rintro e w5 ⟨rfl, hb5⟩
      go_wp2_with fail
      go_ret
      exact ⟨rfl, hb04.next hb5 (Nat.le_refl _)⟩
end Go.Proofs.YtlpoiggdjggkiaaGreatDoor
end
section
namespace Go.Proofs.YtlpoiggdjggkiaaGreatDoor
open Go.RowKit
set_option maxRecDepth 100000
/-- The desk: a block of the call's own that holds the sale, the stock, and the prices. -/
structure Desk (w : World) (g : Nat) (fall : Int) (bought : List Int) (stock : List Piece) (prices : List Int) (Ab : Option Addr) (cb : Nat) (As : Option Addr) (cs : Nat) (Ap : Option Addr) (cp : Nat) : Prop where
  lt : g < w.heap.size
  c0 : w.cell? ⟨g, 0, none⟩ = some (iv fall)
  c1 : w.cell? ⟨g, 1, none⟩ = some (.slice Ab bought.length cb)
  c2 : w.cell? ⟨g, 2, none⟩ = some (.slice As stock.length cs)
  c3 : w.cell? ⟨g, 3, none⟩ = some (.slice Ap prices.length cp)
  sb : Sl intE w Ab bought
  ss : Sl pieceE w As stock
  sp : Sl intE w Ap prices
theorem Desk.below {w w' : World} {g : Nat} {fall : Int} {bought : List Int} {stock : List Piece} {prices : List Int} {Ab : Option Addr} {cb : Nat} {As : Option Addr} {cs : Nat} {Ap : Option Addr} {cp : Nat}
    (h : Desk w g fall bought stock prices Ab cb As cs Ap cp) (hb : Below w.heap.size w w') : Desk w' g fall bought stock prices Ab cb As cs Ap cp :=
  have hc := fun o => hb.cell (p := ⟨g, o, none⟩) h.lt
  ⟨Nat.lt_of_lt_of_le h.lt hb.size, (hc 0).trans h.c0, (hc 1).trans h.c1, (hc 2).trans h.c2, (hc 3).trans h.c3, h.sb.below hb, h.ss.below hb, h.sp.below hb⟩
end Go.Proofs.YtlpoiggdjggkiaaGreatDoor
end
section
namespace Go.Proofs.YtlpoiggdjggkiaaGreatDoor
open Go.RowKit
set_option maxRecDepth 100000
theorem zero_int : ∃ i z, (Tryz.prog).info? 3 = some i ∧ i.zero = some z ∧ z.cells.toList = intE.cells 0 := by
  obtain ⟨i, h1, h2, _, _⟩ := info_parts (P := Tryz.prog) (e := 3) (z := .int .i64 0) (size := 1) (bytes := 8) (by kernel_rfl)
  exact ⟨i, _, h1, h2, rfl⟩
end Go.Proofs.YtlpoiggdjggkiaaGreatDoor
end
section
namespace Go.Proofs.YtlpoiggdjggkiaaGreatDoor
open Go.RowKit Go.Shelf
set_option maxRecDepth 100000
attribute [local go_sem] Oper.semAt_some
end Go.Proofs.YtlpoiggdjggkiaaGreatDoor
namespace Go.Proofs.YtlpoiggdjggkiaaGreatDoor
open Go.RowKit Go.Shelf
set_option maxRecDepth 100000
attribute [local go_sem] Oper.semAt_some
theorem Blk.putObj {W : World} {g D : Nat} {t : TypeId} {cs : Array Value} (h : Blk W g t cs) (hne : g ≠ D) (o : Obj) : Blk (W.putObj D o) g t cs := ((grownBy_putObj' W D o).block g h.lt (fun e => hne (by cases e; rfl))).trans h
end Go.Proofs.YtlpoiggdjggkiaaGreatDoor
namespace Go.Proofs.YtlpoiggdjggkiaaGreatDoor
open Go.RowKit Go.Shelf
set_option maxRecDepth 100000
attribute [local go_sem] Oper.semAt_some
end Go.Proofs.YtlpoiggdjggkiaaGreatDoor
end
section
namespace Go.Proofs.YtlpoiggdjggkiaaGreatDoor
open Go.RowKit Go.Shelf
set_option maxRecDepth 100000
theorem Sl.fresh {α : Type} (E : Enc α) (w : World) (t : TypeId) (arr : Array Value) (xs : List α) (h : arr.toList = xs.flatMap E.cells) (hm : xs.length ≤ maxLen) : Sl E (w.alloc (.cells arr t)) (some ⟨w.heap.size, 0, none⟩) xs := by
  have hb : Blk (w.alloc (.cells arr t)) w.heap.size t (xs.flatMap E.cells).toArray := by
    rw [← h]; exact Blk.new w t arr
  exact (Own.ofBlk (E := E) (B := 0) hb (Nat.zero_le _) hm).sl
end Go.Proofs.YtlpoiggdjggkiaaGreatDoor
end
section
namespace Go.Proofs.YtlpoiggdjggkiaaGreatDoor
open Go.RowKit Go.Shelf
set_option maxRecDepth 100000
theorem bits_mask (x : Int) : ∃ r : Nat, bits .and .i64 x 65535 = (r : Int) ∧ r ≤ 65535 := by
  have h : (BitVec.ofInt 64 x &&& BitVec.ofInt 64 65535).toNat ≤ 65535 := by
    rw [BitVec.toNat_and]
    exact Nat.le_trans Nat.and_le_right (by decide)
  refine ⟨(BitVec.ofInt 64 x &&& BitVec.ofInt 64 65535).toNat, ?_, h⟩
  show IntKind.i64.wrap (((BitVec.ofInt 64 x &&& BitVec.ofInt 64 65535).toNat : Nat) : Int) = _
  exact IntWalk.i64_in _ (by omega)
/-- Block g alone has turned. -/
structure Only (g : Nat) (w w' : World) : Prop where
  below : Below g w w'
  other : ∀ b, b < w.heap.size → b ≠ g → w'.heap[b]? = w.heap[b]?
theorem Only.refl (g : Nat) (w : World) : Only g w w := ⟨Below.refl _ _, fun _ _ _ => rfl⟩
theorem Only.trans {g : Nat} {a b c : World} (h : Only g a b) (k : Only g b c) : Only g a c := ⟨h.below.trans k.below, fun i hi hg => (k.other i (Nat.lt_of_lt_of_le hi h.below.size) hg).trans (h.other i hi hg)⟩
theorem Only.set_ (g o : Nat) (w : World) (v : Value) : Only g w (w.setCell ⟨g, o, none⟩ v) := ⟨(Below.refl g w).setCell (p := ⟨g, o, none⟩) (Nat.le_refl _) v, fun b _ hb => Below.heap_setCell w ⟨g, o, none⟩ v b hb⟩
theorem Only.drew {g : Nat} {w w' : World} (h : Only g w w') : Only g w w'.drew := ⟨h.below.drew, h.other⟩
theorem turn_nil (w : World) (g : Nat) (A : Option Addr) (c k : Nat) (st : Int) (h : Blk w g 60 #[.slice A 0 c, iv k, .int .u64 st]) (hk : k < 4611686018427387904) :
    Calls Tryz.prog 21 #[.pointer (some ⟨g, 0, none⟩)] w fun e w' => ∃ (r : Nat) (st' : Int), e = .returned (iv r) ∧ r ≤ 65535 ∧ Blk w' g 60 #[.slice A 0 c, iv (k + 1 : Nat), .int .u64 st'] ∧ Only g w w' := by
  have h0 := h.cell 0
  have h1 := h.cell 1
  have h2 := h.cell 2
  have f1 := h.frozen
  have hk1 : IntKind.i64.wrap ((k : Int) + 1) = ((k + 1 : Nat) : Int) := IntWalk.i64_in _ (by omega)
  have hk3 : (0 : Int) < (k : Int) + 1 := by omega
  have HH := Lib.hid h
  clear h
  go_enter Tryz.func21, Tryz.ntmps21
  go_wp2
  go_region
  go_wp2
  go_region
  go_wp2
  obtain ⟨r, hr, hr2⟩ := bits_mask (wrap64 (bits .xor .u64 (IntKind.u64.wrap (IntKind.u64.wrap (st * 1103515245) + 12345) / 8) (IntKind.u64.wrap (IntKind.u64.wrap (st * 1103515245) + 12345) / 524288)))
  rw [hr]
  go_ret
  refine ⟨r, _, rfl, hr2, (HH.out.set_ 1 (.int .i64 ((k : Int) + 1))).set_ 2 (.int .u64 (IntKind.u64.wrap (IntKind.u64.wrap (st * 1103515245) + 12345))), ((Only.set_ g 1 w _).trans (Only.set_ g 2 _ _)).drew.drew⟩
def byteE : Enc Int := ⟨fun x => [.int .u8 x], 1, fun _ => rfl, fun _ u h => by simp at h; subst h; rfl, by decide⟩
theorem turn_cons (w : World) (g : Nat) (b off n c k : Nat) (y st : Int) (h : Blk w g 60 #[.slice (some ⟨b, off, none⟩) n c, iv k, .int .u64 st]) (hk : k < 4611686018427387904) (hn : 0 < n) (hy : w.cell? ⟨b, off + k % n, none⟩ = some (.int .u8 y)) (hbg : b ≠ g) :
    Calls Tryz.prog 21 #[.pointer (some ⟨g, 0, none⟩)] w fun e w' => ∃ (r : Nat) (st' : Int), e = .returned (iv r) ∧ r ≤ 65535 ∧ Blk w' g 60 #[.slice (some ⟨b, off, none⟩) n c, iv (k + 1 : Nat), .int .u64 st'] ∧ Only g w w' := by
  have h0 := h.cell 0
  have h1 := h.cell 1
  have h2 := h.cell 2
  have f1 := h.frozen
  have hk1 : IntKind.i64.wrap ((k : Int) + 1) = ((k + 1 : Nat) : Int) := IntWalk.i64_in _ (by omega)
  have hn' : (0 : Int) < (n : Int) := by omega
  have hn0 : ¬ (n : Int) = 0 := by omega
  have hm : (k : Int).tmod (n : Int) = ((k % n : Nat) : Int) := by rw [Int.tmod_eq_emod_of_nonneg (by omega)]; rfl
  have hlt : k % n < n := Nat.mod_lt _ hn
  have hgb : ¬ g = b := fun e => hbg e.symm
  have HH := Lib.hid h
  clear h
  by_cases hkn : (n : Int) < (k : Int) + 1
  · go_enter Tryz.func21, Tryz.ntmps21
    go_wp2
    go_region
    go_wp2
    go_region
    go_wp2
    go_region
    go_wp2
    go_ret
    refine ⟨(bits_mask _).choose, IntKind.u64.wrap (IntKind.u64.wrap (IntKind.u64.wrap (st + IntKind.u64.wrap (IntKind.u64.wrap y * 977)) * 1103515245) + 12345), ret_eq (congrArg (Value.int .i64) (bits_mask _).choose_spec.1), (bits_mask _).choose_spec.2, ?b, ?o⟩
    case b => exact ((HH.out.set_ 2 (.int .u64 (IntKind.u64.wrap (st + IntKind.u64.wrap (IntKind.u64.wrap y * 977))))).set_ 1 (.int .i64 ((k : Int) + 1))).set_ 2 (.int .u64 (IntKind.u64.wrap (IntKind.u64.wrap (IntKind.u64.wrap (st + IntKind.u64.wrap (IntKind.u64.wrap y * 977)) * 1103515245) + 12345)))
    case o => exact (((Only.set_ g 2 w _).trans (Only.set_ g 1 _ _)).trans (Only.set_ g 2 _ _)).drew.drew.drew
  · have hkm : ¬ (n : Int) < ((k + 1 : Nat) : Int) := by omega
    go_enter Tryz.func21, Tryz.ntmps21
    go_wp2
    go_region
    go_wp2
    go_region
    go_wp2
    go_region
    go_wp2
    go_ret
    refine ⟨(bits_mask _).choose, IntKind.u64.wrap (st + IntKind.u64.wrap (IntKind.u64.wrap y * 977)), ret_eq (congrArg (Value.int .i64) (bits_mask _).choose_spec.1), (bits_mask _).choose_spec.2, ?b, ?o⟩
    case b => exact (HH.out.set_ 2 (.int .u64 (IntKind.u64.wrap (st + IntKind.u64.wrap (IntKind.u64.wrap y * 977))))).set_ 1 (.int .i64 ((k : Int) + 1))
    case o => exact ((Only.set_ g 2 w _).trans (Only.set_ g 1 _ _)).drew.drew.drew
/-- Block g is a spool that has given k numbers; it and its bytes lie below B. -/
def IsSpool (B : Nat) (w : World) (g k : Nat) : Prop := g < B ∧ B ≤ w.heap.size ∧ ∃ A n c st, Blk w g 60 #[.slice A n c, iv k, .int .u64 st] ∧ (0 < n → ∃ b off, A = some ⟨b, off, none⟩ ∧ b ≠ g ∧ b < B ∧ ∀ i, i < n → ∃ y, w.cell? ⟨b, off + i, none⟩ = some (.int .u8 y))
theorem IsSpool.keep {B : Nat} {w w' : World} {g k : Nat} (h : IsSpool B w g k) (hz : w.heap.size ≤ w'.heap.size) (hk : ∀ b, b < B → w'.heap[b]? = w.heap[b]?) : IsSpool B w' g k := by
  obtain ⟨hg, hB, A, n, c, st, hb, hs⟩ := h
  refine ⟨hg, Nat.le_trans hB hz, A, n, c, st, (hk g hg).trans hb, fun hn => ?_⟩
  obtain ⟨b, off, hA, hbg, hbl, hc⟩ := hs hn
  refine ⟨b, off, hA, hbg, hbl, fun i hi => ?_⟩
  obtain ⟨y, hy⟩ := hc i hi
  exact ⟨y, by rw [World.cell?_of_block (w := w) (hk b hbl)]; exact hy⟩
theorem IsSpool.below {B B' : Nat} {w w' : World} {g k : Nat} (h : IsSpool B w g k) (hb : Below B' w w') (hB : B ≤ B') : IsSpool B w' g k := h.keep hb.size fun b hl => hb.block b (by omega)
theorem Only.setCell {g : Nat} {w w' : World} (h : Only g w w') {p : Addr} (hg : g ≤ p.block) (hp : w.heap.size ≤ p.block) (v : Value) : Only g w (w'.setCell p v) :=
  ⟨h.below.setCell hg v, fun b hb hne => (Below.heap_setCell w' p v b (by omega)).trans (h.other b hb hne)⟩
theorem Only.next {g B : Nat} {w w1 w2 : World} (h : Only g w w1) (hb : Below B w1 w2) (hg : g ≤ B) (hB : w.heap.size ≤ B) : Only g w w2 :=
  ⟨h.below.trans (hb.mono hg), fun b hl hne => (hb.block b (by omega)).trans (h.other b hl hne)⟩
theorem turn_spec (B : Nat) (w : World) (g k : Nat) (h : IsSpool B w g k) (hk : k < 4611686018427387904) :
    Calls Tryz.prog 21 #[.pointer (some ⟨g, 0, none⟩)] w fun e w' => ∃ r : Nat, e = .returned (iv r) ∧ r ≤ 65535 ∧ IsSpool B w' g (k + 1) ∧ Only g w w' := by
  obtain ⟨hg, hB, A, n, c, st, hb, hs⟩ := h
  by_cases hn : n = 0
  · subst hn
    refine (turn_nil w g A c k st hb hk).mono ?_
    rintro e w' ⟨r, st', rfl, hr, hb', ho⟩
    exact ⟨r, rfl, hr, ⟨hg, Nat.le_trans hB ho.below.size, A, 0, c, st', hb', fun h => absurd h (by omega)⟩, ho⟩
  · have hn0 : 0 < n := Nat.pos_of_ne_zero hn
    obtain ⟨b, off, rfl, hbg, hbl, hc⟩ := hs hn0
    obtain ⟨y, hy⟩ := hc (k % n) (Nat.mod_lt _ hn0)
    refine (turn_cons w g b off n c k y st hb hk hn0 hy hbg).mono ?_
    rintro e w' ⟨r, st', rfl, hr, hb', ho⟩
    refine ⟨r, rfl, hr, ⟨hg, Nat.le_trans hB ho.below.size, _, n, c, st', hb', fun _ => ⟨b, off, rfl, hbg, hbl, fun i hi => ?_⟩⟩, ho⟩
    obtain ⟨y', hy'⟩ := hc i hi
    exact ⟨y', by rw [World.cell?_of_block (w := w) (ho.other b (by omega) hbg)]; exact hy'⟩
end Go.Proofs.YtlpoiggdjggkiaaGreatDoor
namespace Go.Proofs.YtlpoiggdjggkiaaGreatDoor
open Go.RowKit Go.Shelf
set_option maxRecDepth 100000
theorem upto_spec (B : Nat) (w : World) (g k : Nat) (n : Nat) (h : IsSpool B w g k) (hk : k < 4611686018427387904) (hn : n ≤ 1000000) :
    Calls Tryz.prog 7 #[.pointer (some ⟨g, 0, none⟩), iv n] w fun e w' => ∃ r : Nat, e = .returned (iv r) ∧ r ≤ n ∧ IsSpool B w' g (k + 1) ∧ Only g w w' := by
  have hn1 : IntKind.i64.wrap ((n : Int) + 1) = ((n + 1 : Nat) : Int) := IntWalk.i64_in _ (by omega)
  have hmx : max (1 : Int) ((n : Int) + 1) = ((n + 1 : Nat) : Int) := by omega
  have HT := Lib.hid (turn_spec B w g k h hk)
  go_enter Tryz.func7, Tryz.ntmps7
  go_wp2_with (go_at_call 21; refine HT.out.mono ?_; rintro e w1 ⟨r, rfl, hr, hsp, ho⟩; have hne : ¬ (n : Int) + 1 = 0 := by omega)
  go_ret
  have hm : (r : Int) % ((n : Int) + 1) = ((r % (n + 1) : Nat) : Int) := by push_cast; rfl
  exact ⟨r % (n + 1), ret_eq (congrArg (Value.int .i64) hm), by have := Nat.mod_lt r (show 0 < n + 1 by omega); omega, hsp, ho⟩
theorem from_spec (B : Nat) (w : World) (g k lo hi : Nat) (h : IsSpool B w g k) (hk : k < 4611686018427387904) (hl : lo ≤ hi) (hn : hi ≤ 1000000) :
    Calls Tryz.prog 16 #[.pointer (some ⟨g, 0, none⟩), iv lo, iv hi] w fun e w' => ∃ r : Nat, e = .returned (iv r) ∧ lo ≤ r ∧ r ≤ hi ∧ IsSpool B w' g (k + 1) ∧ Only g w w' := by
  have HU := Lib.hid (upto_spec B w g k (hi - lo) h hk (by omega))
  have hs : (hi : Int) - (lo : Int) = ((hi - lo : Nat) : Int) := by omega
  have hs1 : IntKind.i64.wrap ((hi : Int) - (lo : Int)) = ((hi - lo : Nat) : Int) := by rw [hs]; exact IntWalk.i64_in _ (by omega)
  go_enter Tryz.func16, Tryz.ntmps16
  go_wp2_with (go_at_call 7; (try rw [hs]); refine HU.out.mono ?_; rintro e w1 ⟨r, rfl, hr, hsp, ho⟩; have hs2 : IntKind.i64.wrap ((lo : Int) + (r : Int)) = ((lo + r : Nat) : Int) := IntWalk.i64_in _ (by omega))
  go_ret
  exact ⟨lo + r, by first | rfl | (push_cast; rfl), by omega, by omega, hsp, ho⟩
theorem once_spec (B : Nat) (w : World) (g k n : Nat) (h : IsSpool B w g k) (hk : k < 4611686018427387904) (hl : 1 ≤ n) (hn : n ≤ 1000000) :
    Calls Tryz.prog 17 #[.pointer (some ⟨g, 0, none⟩), iv n] w fun e w' => ∃ b : Bool, e = .returned (.bool b) ∧ IsSpool B w' g (k + 1) ∧ Only g w w' := by
  have HU := Lib.hid (upto_spec B w g k (n - 1) h hk (by omega))
  have hs : (n : Int) - 1 = ((n - 1 : Nat) : Int) := by omega
  go_enter Tryz.func17, Tryz.ntmps17
  go_wp2_with (go_at_call 7; (try rw [hs]); refine HU.out.mono ?_; rintro e w1 ⟨r, rfl, hr, hsp, ho⟩)
  go_ret
  exact ⟨_, rfl, hsp, ho⟩
theorem wound_spec (A : Option Addr) (bs : List Int) (c : Nat) (w : World) (hs : Sl byteE w A bs) :
    Calls Tryz.prog 4 #[.slice A bs.length c] w fun e w' => ∃ g, e = .returned (.pointer (some ⟨g, 0, none⟩)) ∧ g = w.heap.size ∧ IsSpool (g + 1) w' g 0 ∧ Below w.heap.size w w' := by
  go_enter Tryz.func4, Tryz.ntmps4
  go_wp2
  go_ret
  refine ⟨w.heap.size, rfl, rfl, ⟨by omega, by simp, A, bs.length, c, IntKind.u64.wrap bs.length, Blk.new _ _ _, fun hn => ?_⟩, (Below.refl _ _).alloc (Nat.le_refl _) _⟩
  have hne : bs ≠ [] := fun e => by rw [e] at hn; simp at hn
  obtain ⟨b, off, rfl, hb, hc⟩ := hs hne
  refine ⟨b, off, rfl, by omega, by omega, fun i hi => ⟨bs[i], ?_⟩⟩
  have := hc i bs[i] (List.getElem?_eq_getElem hi) 0 (.int .u8 bs[i]) rfl
  rw [World.cell?_of_block (w := w) (Below.heap_alloc w _ b hb)]
  simpa [byteE] using this
end Go.Proofs.YtlpoiggdjggkiaaGreatDoor
end
section
namespace Go.Proofs.YtlpoiggdjggkiaaGreatDoor
open Go.RowKit Go.Maps
set_option maxRecDepth 100000
theorem least_one (g : Nat) (m n : Int) (w : World) (hs : Sl intE w (some ⟨g, 0, none⟩) [m]) : Calls Tryz.prog 90 #[iv n, .slice (some ⟨g, 0, none⟩) 1 1] w fun e w' => e = .returned (iv (min n m)) ∧ w = w' := by
  go_enter Tryz.func90, Tryz.ntmps90
  go_wp2_with fail
  go_loopw [0, 6, 9] (fun v _ i wr => ∃ k : Nat, k ≤ 1 ∧ i = iv k ∧ v = iv (if k = 0 then n else min n m) ∧ wr = w) (fun _ _ i _ => 1 - (intOf i).toNat)
  case atStart => exact ⟨0, by omega, rfl, rfl, rfl⟩
  case round =>
    obtain ⟨k, hk, rfl, rfl, rfl⟩ := hrel
    by_cases hlt : k < 1
    · have hk0 : k = 0 := by omega
      subst hk0
      obtain ⟨b, off, x, hA, hb, hx, hc0⟩ := hs.atI (k := 0) (by simp)
      injection hA with hA
      injection hA with h1 h2
      subst h1 h2
      have hxe : x = m := by simpa using hx.symm
      subst hxe
      have hki : ((0 : Nat) : Int) < 1 := by omega
      simp only [Nat.zero_mul, Nat.add_zero] at hc0
      clear hx
      simp only [if_pos]
      go_wp2_with fail
      go_roundw
      case rel => exact ⟨1, by omega, rfl, rfl, trivial⟩
      case measure => simp [intOf]
    · have hki : ¬ (k : Int) < 1 := by omega
      have hk1 : k ≠ 0 := by omega
      simp only [if_neg hk1]
      go_wp2_with fail
      go_ret
      exact ⟨rfl, rfl⟩
def Weigh.sLo (x : Weigh) : Int := (100 * max 0 (x.reads - 1) + (100 + x.hi) - 1) / (100 + x.hi)
def Weigh.sHi (x : Weigh) : Int := min 10000 (100 * (x.reads + 1) / (100 + x.lo))
end Go.Proofs.YtlpoiggdjggkiaaGreatDoor
end
section
namespace Go.Proofs.YtlpoiggdjggkiaaGreatDoor
open Go.RowKit Go.Maps
set_option maxRecDepth 100000
def bndA (lo hi : Int) : Array Value := #[iv lo, iv hi, iv 0, iv 0, iv 0, iv 0, iv 0, iv 0, iv 0, iv 0, iv 0, iv 0, iv 0, iv 0, iv 0, iv 0, iv 0, iv 0, iv 0, iv 0, iv 0, iv 0, iv 0, iv 0]
abbrev zeroA : Array Value := #[iv 0, iv 0, iv 0, iv 0, iv 0, iv 0, iv 0, iv 0, iv 0, iv 0, iv 0, iv 0, iv 0, iv 0, iv 0, iv 0, iv 0, iv 0, iv 0, iv 0, iv 0, iv 0, iv 0, iv 0]
attribute [irreducible] bndA
abbrev bndV (lo hi : Int) : Value := .agg (bndA lo hi)
theorem fieldsSpan : ((Tryz.prog).fieldsOf 37).toList.map (fun f => (f.name, f.type, f.offset)) = [("Lo", 3, 0), ("Hi", 3, 1)] := by kernel_rfl
theorem eqSpan (a b : Int) (w : World) : (Op.equalIn 9999 37 (.agg #[iv a, iv b]) (.agg #[iv a, iv b])).run Tryz.prog w = .ok true w := by
  have h := run_equalIn_agg (P := Tryz.prog) w 9998 37 #[iv a, iv b] #[iv a, iv b] (by kernel_rfl) (by kernel_rfl)
  rw [h]
  have h3 : ∀ (x y : Int) (d : Nat), (Op.equalIn (d + 1) 3 (iv x) (iv y)).run Tryz.prog w = .ok (x == y) w := fun x y d => run_equalIn_int w d _ _ _ _ _ Tryz.underlying3
  have hf := fieldsSpan
  have hlen : ((Tryz.prog).fieldsOf 37).toList.length = 2 := by have := congrArg List.length hf; simpa using this
  obtain ⟨f0, f1, hl⟩ : ∃ a b, ((Tryz.prog).fieldsOf 37).toList = [a, b] := by
    match ((Tryz.prog).fieldsOf 37).toList, hlen with
    | [a, b], _ => exact ⟨a, b, rfl⟩
  rw [hl] at hf ⊢
  simp only [List.map_cons, List.map_nil, List.cons.injEq, Prod.mk.injEq, and_true] at hf
  obtain ⟨⟨n0, t0, o0⟩, n1, t1, o1⟩ := hf
  have hp0 : ∀ a b : Int, (part 3 #[iv a, iv b] 0).run Tryz.prog w = .ok (iv a) w := fun _ _ => by kernel_rfl
  have hp1 : ∀ a b : Int, (part 3 #[iv a, iv b] 1).run Tryz.prog w = .ok (iv b) w := fun _ _ => by kernel_rfl
  simp only [Op.eqFields, n0, n1, t0, t1, o0, o1]
  simp [hp0, hp1, h3, Result.andThen, Sem.run_bind]
theorem bnd_eq (lo hi : Int) (w : World) : (Op.equalIn 10000 110 (bndV lo hi) (bndV lo hi)).run Tryz.prog w = .ok true w := by
  obtain ⟨i, hi'⟩ : ∃ i, (Tryz.prog).info? 37 = some i := ⟨_, rfl⟩
  rw [run_equalIn_array w 9999 _ _ Tryz.underlying110 hi', show (Tryz.prog).cellsOf 37 = 2 by kernel_rfl]
  have hp0 : (part 37 (bndA lo hi) 0).run Tryz.prog w = .ok (.agg #[iv lo, iv hi]) w := by unfold bndA; kernel_rfl
  have q1 : (part 37 (bndA lo hi) 2).run Tryz.prog w = .ok (.agg #[iv 0, iv 0]) w := by unfold bndA; kernel_rfl
  have q2 : (part 37 (bndA lo hi) 4).run Tryz.prog w = .ok (.agg #[iv 0, iv 0]) w := by unfold bndA; kernel_rfl
  have q3 : (part 37 (bndA lo hi) 6).run Tryz.prog w = .ok (.agg #[iv 0, iv 0]) w := by unfold bndA; kernel_rfl
  have q4 : (part 37 (bndA lo hi) 8).run Tryz.prog w = .ok (.agg #[iv 0, iv 0]) w := by unfold bndA; kernel_rfl
  have q5 : (part 37 (bndA lo hi) 10).run Tryz.prog w = .ok (.agg #[iv 0, iv 0]) w := by unfold bndA; kernel_rfl
  have q6 : (part 37 (bndA lo hi) 12).run Tryz.prog w = .ok (.agg #[iv 0, iv 0]) w := by unfold bndA; kernel_rfl
  have q7 : (part 37 (bndA lo hi) 14).run Tryz.prog w = .ok (.agg #[iv 0, iv 0]) w := by unfold bndA; kernel_rfl
  have q8 : (part 37 (bndA lo hi) 16).run Tryz.prog w = .ok (.agg #[iv 0, iv 0]) w := by unfold bndA; kernel_rfl
  have q9 : (part 37 (bndA lo hi) 18).run Tryz.prog w = .ok (.agg #[iv 0, iv 0]) w := by unfold bndA; kernel_rfl
  have q10 : (part 37 (bndA lo hi) 20).run Tryz.prog w = .ok (.agg #[iv 0, iv 0]) w := by unfold bndA; kernel_rfl
  have q11 : (part 37 (bndA lo hi) 22).run Tryz.prog w = .ok (.agg #[iv 0, iv 0]) w := by unfold bndA; kernel_rfl
  rw [show List.range 12 = [0, 1, 2, 3, 4, 5, 6, 7, 8, 9, 10, 11] from rfl]
  simp [Op.eqItems, Sem.run_bind, hp0, q1, q2, q3, q4, q5, q6, q7, q8, q9, q10, q11, Result.andThen, eqSpan]
end Go.Proofs.YtlpoiggdjggkiaaGreatDoor
end
section
namespace Go.Proofs.YtlpoiggdjggkiaaGreatDoor
open Go.RowKit Go.Maps
set_option maxRecDepth 100000
theorem all1_spec (k : Int) (w : World) : Calls Tryz.prog 92 #[iv k] w fun e w' => e = .returned (.bool true) ∧ w = w' := by
  go_enter Tryz.func92, Tryz.ntmps92
  go_wp2
  go_ret
  exact ⟨rfl, rfl⟩
end Go.Proofs.YtlpoiggdjggkiaaGreatDoor
end
section
namespace Go.Proofs.YtlpoiggdjggkiaaGreatDoor
open Go.RowKit Go.Maps
set_option maxRecDepth 100000
theorem all_spec (w : World) : Calls Tryz.prog 71 #[] w fun e w' => e = .returned (.agg #[.func (.func 92) #[] #[]]) ∧ Below w.heap.size w w' := by
  go_enter Tryz.func71, Tryz.ntmps71
  go_wp2_with fail
  exact bodyPost_ret (results_cell_row (P := Tryz.prog) (fn := Tryz.f71) (p := 0) (ty := 146) (by kernel_rfl) _ _ w.heap.size 146 _ (0, 0) _ (by rfl) (Blk.new w _ _) Tryz.underlying146 (by rfl) (by kernel_rfl)) rfl ⟨rfl, (Below.refl _ _).alloc (Nat.le_refl _) _⟩
theorem results_tct {fn : Func} {t p u : Tmp} {ty : TypeId} (h : fn.results = #[.tmp t, .cell p ty, .tmp u]) (tmps : Array Value) (P : Program) (w : World) (g : Nat) (v : Value) (hp : tmps.getD p undef = .pointer (some ⟨g, 0, none⟩)) (hv : (loadVar ty ⟨g, 0, none⟩).run P w = .ok v w) :
    (results fn tmps).run P w = .ok (.tuple #[tmps.getD t undef, v, tmps.getD u undef]) w := by
  have hp' : tmps[p]?.getD undef = .pointer (some ⟨g, 0, none⟩) := by simpa using hp
  simp [results, h, hp', asAddr, hv]
theorem stepF_load_row {P : Program} {ops : Array Oper} {o : Oper} {a : Act} {K : Value → World → Prop} {w : World} (hw : Region.wanted o (yielded ops a.tmps) = true) (ty : TypeId) (x : Operand) (ho : o.op = .load ty x)
    (g : Nat) (hx : a.eval x = .pointer (some ⟨g, 0, none⟩)) (t : TypeId) (cs : Array Value) (fr : Nat × Nat) (d : TypeDesc) (hg : w.heap[g]? = some (.cells cs t fr))
    (hu : P.underlying ty = some d) (hd : (match d with | .struct _ | .array _ _ => true | _ => false) = true) (hi : (P.info? ty).map (·.size) = some cs.size) (hK : K (.agg cs) w) : StepF P ops o a w K := by
  refine stepF_val (u := .agg cs) hw ?_ hK
  unfold execOp
  simp only [ho, hx, Instr.loadAt, Instr.sureAddr, Sem.run_bind, Sem.run_pure, Result.andThen_ok, run_loadVar_row w g t ty cs fr d hg hu hd hi]
theorem Own.ne_blkS {α : Type} {E : Enc α} {e t : TypeId} {B : Nat} {w : World} {v : Value} {xs : List α} {g : Nat} {cs : Array Value} (h : Own E e B w v xs) (hb : Blk w g t cs) (ht : t ≠ e) : v.ownBlock ≠ some g := fun hv => by
  rcases h.2 with ⟨rfl, _⟩ | ⟨g', cap, cur, rfl, _, hg, _⟩
  · cases hv
  · have hg' : g' = g := by simpa [Value.ownBlock] using hv
    unfold Blk at hb
    rw [hg', hb] at hg
    injection hg with hg
    injection hg with _ h2 _
    exact ht h2
end Go.Proofs.YtlpoiggdjggkiaaGreatDoor
end
section
namespace Go.Proofs.YtlpoiggdjggkiaaGreatDoor
open Go.RowKit Go.Maps
set_option maxRecDepth 100000
theorem tyLots : SlTy Tryz.prog 25 65 2 := slTy_of (z := .agg #[iv 0, iv 0]) (bytes := 16) Tryz.underlying25 (by kernel_rfl) rfl (by decide)
theorem tyWs : SlTy Tryz.prog 26 39 4 := slTy_of (z := .agg #[iv 0, iv 0, iv 0, iv 0]) (bytes := 32) Tryz.underlying26 (by kernel_rfl) rfl (by decide)
theorem cloneL (A : Option Addr) (l : List SLot) (c : Nat) (w : World) (hm : l.length ≤ big) (hs : Sl lotE w A l) :
    Calls Tryz.prog 53 #[.slice A l.length c] w fun e w' => ∃ v, e = .returned v ∧ Own lotE 65 w.heap.size w' v l ∧ Below w.heap.size w w' := by
  cases A with
  | none =>
    have hl : l = [] := by
      by_cases h : l = []
      · exact h
      · obtain ⟨_, _, h, _⟩ := hs h; cases h
    subst hl
    have hnil := fun w => Lib.run_eql_slice_nil (P := Tryz.prog) w 25 65 none 0 c 0 0 Tryz.underlying25
    go_enter Tryz.func53, Tryz.ntmps53
    go_wp2
    go_ret
    exact ⟨_, rfl, Own.nil, Below.refl _ _⟩
  | some ad =>
    have hnil := fun w => Lib.run_eql_slice_nil (P := Tryz.prog) w 25 65 (some ad) l.length c 0 0 Tryz.underlying25
    go_enter Tryz.func53, Tryz.ntmps53
    go_wp2_with (at_builtin; refine wpAppS lotE tyLots rfl _ _ rfl (Own.empty (Nat.le_refl _)) (hs.alloc _) rfl rfl (by simp) (by simpa using hm) ?_; intro v1 w1 hown1 hb1 _)
    go_ret
    exact ⟨_, rfl, by simpa using hown1, ((Below.refl _ _).alloc (Nat.le_refl _) _).trans hb1⟩
theorem Own.apart5 {α β : Type} {E : Enc α} {E2 : Enc β} {e e2 : TypeId} {B B2 : Nat} {w : World} {v v2 : Value} {xs : List α} {ys : List β} (h : Own E e B w v xs) (h2 : Own E2 e2 B2 w v2 ys) (hne : e ≠ e2) {b : Nat} (hb : v.ownBlock = some b) : v2.ownBlock ≠ some b := fun hv => by
  rcases h.2 with ⟨rfl, _⟩ | ⟨g, cap, cur, rfl, _, hg, _⟩
  · cases hb
  · rcases h2.2 with ⟨rfl, _⟩ | ⟨g', cap', cur', rfl, _, hg', _⟩
    · cases hv
    · have e1 : g = b := by simpa [Value.ownBlock] using hb
      have e3 : g' = b := by simpa [Value.ownBlock] using hv
      rw [e1] at hg
      rw [e3, hg] at hg'
      injection hg' with hg'
      injection hg' with _ h3 _
      exact hne h3
end Go.Proofs.YtlpoiggdjggkiaaGreatDoor
end
section
namespace Go.Proofs.YtlpoiggdjggkiaaGreatDoor
namespace Sk
/-- Bounds of lots. -/
abbrev B := List (Int × Int)
def lo (b : B) (i : Nat) : Int := (b.getD i (0, 0)).1
def hi (b : B) (i : Nat) : Int := (b.getD i (0, 0)).2
/-- The places of a number in a list. -/
def pos (x : Int) : List Int → Nat → List Nat
  | [], _ => []
  | y :: l, i => if y = x then i :: pos x l (i + 1) else pos x l (i + 1)
def parts (fr : List Int) (i : Nat) : List Nat := pos (i : Int) fr 0
theorem mem_pos {x : Int} {p : Nat} : ∀ (l : List Int) (i : Nat), p ∈ pos x l i ↔ i ≤ p ∧ l[p - i]? = some x := by
  intro l
  induction l with
  | nil => intro i; simp [pos]
  | cons y l ih =>
    intro i
    unfold pos
    by_cases e : p = i
    · subst e
      have hn : p ∉ pos x l (p + 1) := fun h => by have := ((ih (p + 1)).1 h).1; omega
      split
      · rename_i h; simp [h]
      · rename_i h
        simp [hn, h]
    · have key : p ∈ pos x l (i + 1) ↔ i ≤ p ∧ (y :: l)[p - i]? = some x := by
        rw [ih (i + 1)]
        constructor
        · rintro ⟨h1, h2⟩
          refine ⟨by omega, ?_⟩
          rw [show p - i = (p - (i + 1)) + 1 by omega, List.getElem?_cons_succ]
          exact h2
        · rintro ⟨h1, h2⟩
          refine ⟨by omega, ?_⟩
          rw [show p - i = (p - (i + 1)) + 1 by omega, List.getElem?_cons_succ] at h2
          exact h2
      split
      · rw [List.mem_cons]
        constructor
        · rintro (h | h)
          · exact absurd h e
          · exact key.1 h
        · exact fun h => .inr (key.2 h)
      · exact key
theorem nodup_pos (x : Int) : ∀ (l : List Int) (i : Nat), (pos x l i).Nodup := by
  intro l
  induction l with
  | nil => intro i; simp [pos]
  | cons y l ih =>
    intro i
    unfold pos
    split
    · rw [List.nodup_cons]
      exact ⟨fun h => by have := ((mem_pos l (i + 1)).1 h).1; omega, ih _⟩
    · exact ih _
theorem pos_length (x : Int) : ∀ (l : List Int) (i : Nat), (pos x l i).length ≤ l.length := by
  intro l
  induction l with
  | nil => intro i; exact Nat.le_refl _
  | cons y l ih =>
    intro i
    unfold pos
    have := ih (i + 1)
    split
    · simpa using this
    · rw [List.length_cons]; omega
theorem pos_snoc (x y : Int) : ∀ (l : List Int) (i : Nat), pos x (l ++ [y]) i = pos x l i ++ (if y = x then [i + l.length] else []) := by
  intro l
  induction l with
  | nil => intro i; simp [pos]
  | cons z l ih =>
    intro i
    simp only [List.cons_append, pos, ih, List.length_cons]
    rw [show i + 1 + l.length = i + (l.length + 1) by omega]
    split <;> simp
def sumLo (b : B) (l : List Nat) : Int := (l.map (lo b)).sum
def sumHi (b : B) (l : List Nat) : Int := (l.map (hi b)).sum
/-- a lies within b. -/
def Sub (n : Nat) (a b : B) : Prop := ∀ i, i < n → lo b i ≤ lo a i ∧ hi a i ≤ hi b i
/-- What the sums ask of lot i. -/
def C (fr : List Int) (b : B) (i : Nat) : Prop := parts fr i ≠ [] → (sumLo b (parts fr i) ≤ lo b i ∧ hi b i ≤ sumHi b (parts fr i)) ∧
  ∀ p ∈ parts fr i, lo b i - (sumHi b (parts fr i) - hi b p) ≤ lo b p ∧ hi b p ≤ hi b i - (sumLo b (parts fr i) - lo b p)
def Fixd (fr : List Int) (n : Nat) (b : B) : Prop := ∀ i, i < n → C fr b i
/-- A narrowing at lot p. -/
def nar (b : B) (p : Nat) (l h : Int) : B := b.set p (max (lo b p) l, min (hi b p) h)
theorem Sub.refl (n : Nat) (b : B) : Sub n b b := fun _ _ => ⟨Int.le_refl _, Int.le_refl _⟩
theorem Sub.trans {n : Nat} {a b c : B} (h1 : Sub n a b) (h2 : Sub n b c) : Sub n a c := fun i hi' => ⟨Int.le_trans (h2 i hi').1 (h1 i hi').1, Int.le_trans (h1 i hi').2 (h2 i hi').2⟩
theorem lo_nar (b : B) (p : Nat) (l h : Int) (hp : p < b.length) (i : Nat) : lo (nar b p l h) i = if i = p then max (lo b p) l else lo b i := by
  unfold lo nar
  by_cases e : i = p
  · subst e; simp [List.getD_eq_getElem?_getD, hp, lo]
  · rw [if_neg e]
    simp [List.getD_eq_getElem?_getD, List.getElem?_set_ne (fun x => e x.symm)]
theorem hi_nar (b : B) (p : Nat) (l h : Int) (hp : p < b.length) (i : Nat) : hi (nar b p l h) i = if i = p then min (hi b p) h else hi b i := by
  unfold hi nar
  by_cases e : i = p
  · subst e; simp [List.getD_eq_getElem?_getD, hp, hi]
  · rw [if_neg e]
    simp [List.getD_eq_getElem?_getD, List.getElem?_set_ne (fun x => e x.symm)]
theorem nar_length (b : B) (p : Nat) (l h : Int) : (nar b p l h).length = b.length := by simp [nar]
theorem nar_sub (n : Nat) (b : B) (p : Nat) (l h : Int) (hp : p < b.length) : Sub n (nar b p l h) b := fun i _ => by
  rw [lo_nar b p l h hp, hi_nar b p l h hp]
  split
  · next e => subst e; constructor <;> omega
  · exact ⟨Int.le_refl _, Int.le_refl _⟩
theorem nar_keeps {n : Nat} {F b : B} {p : Nat} {l h : Int} (hp : p < b.length) (hF : Sub n F b) (h1 : l ≤ lo F p) (h2 : hi F p ≤ h) : Sub n F (nar b p l h) := fun i hi' => by
  rw [lo_nar b p l h hp, hi_nar b p l h hp]
  have := hF i hi'
  split
  · next e => subst e; constructor <;> omega
  · exact this
theorem sumLo_le {n : Nat} {F b : B} (hF : Sub n F b) : ∀ l : List Nat, (∀ p ∈ l, p < n) → sumLo b l ≤ sumLo F l := by
  intro l
  induction l with
  | nil => intro _; exact Int.le_refl _
  | cons x l ih =>
    intro h
    have h1 := (hF x (h x (by simp))).1
    have h2 := ih fun p hp => h p (by simp [hp])
    simp only [sumLo, List.map_cons, List.sum_cons] at *
    omega
theorem sumHi_le {n : Nat} {F b : B} (hF : Sub n F b) : ∀ l : List Nat, (∀ p ∈ l, p < n) → sumHi F l ≤ sumHi b l := by
  intro l
  induction l with
  | nil => intro _; exact Int.le_refl _
  | cons x l ih =>
    intro h
    have h1 := (hF x (h x (by simp))).2
    have h2 := ih fun p hp => h p (by simp [hp])
    simp only [sumHi, List.map_cons, List.sum_cons] at *
    omega
/-- With one of the list left out. -/
theorem sumHi_but {n : Nat} {F b : B} (hF : Sub n F b) : ∀ l : List Nat, (∀ p ∈ l, p < n) → ∀ p ∈ l, sumHi F l - hi F p ≤ sumHi b l - hi b p := by
  intro l
  induction l with
  | nil => intro _ p hp; simp at hp
  | cons x l ih =>
    intro h p hp
    simp only [sumHi, List.map_cons, List.sum_cons] at *
    rcases List.mem_cons.1 hp with rfl | hp
    · have := sumHi_le hF l fun q hq => h q (by simp [hq])
      simp only [sumHi] at this
      omega
    · have h1 := (hF x (h x (by simp))).2
      have h2 := ih (fun q hq => h q (by simp [hq])) p hp
      omega
theorem sumLo_but {n : Nat} {F b : B} (hF : Sub n F b) : ∀ l : List Nat, (∀ p ∈ l, p < n) → ∀ p ∈ l, sumLo b l - lo b p ≤ sumLo F l - lo F p := by
  intro l
  induction l with
  | nil => intro _ p hp; simp at hp
  | cons x l ih =>
    intro h p hp
    simp only [sumLo, List.map_cons, List.sum_cons] at *
    rcases List.mem_cons.1 hp with rfl | hp
    · have := sumLo_le hF l fun q hq => h q (by simp [hq])
      simp only [sumLo] at this
      omega
    · have h1 := (hF x (h x (by simp))).1
      have h2 := ih (fun q hq => h q (by simp [hq])) p hp
      omega
theorem mem_parts {fr : List Int} {i p : Nat} : p ∈ parts fr i ↔ p < fr.length ∧ fr.getD p (-1) = (i : Int) := by
  unfold parts
  rw [mem_pos, Nat.sub_zero]
  constructor
  · rintro ⟨_, h⟩
    refine ⟨(List.getElem?_eq_some_iff.1 h).1, ?_⟩
    rw [List.getD_eq_getElem?_getD, h]
    rfl
  · rintro ⟨h1, h2⟩
    refine ⟨Nat.zero_le _, ?_⟩
    rw [List.getD_eq_getElem?_getD, List.getElem?_eq_getElem h1] at h2
    rw [List.getElem?_eq_getElem h1]
    exact congrArg some h2
/-- Each lot came of one before it. -/
def Tree (fr : List Int) : Prop := ∀ p, p < fr.length → -1 ≤ fr.getD p (-1) ∧ fr.getD p (-1) < (p : Int)
theorem parts_lt {fr : List Int} {i p : Nat} (h : p ∈ parts fr i) : p < fr.length := (mem_parts.1 h).1
theorem parts_gt {fr : List Int} (ht : Tree fr) {i p : Nat} (h : p ∈ parts fr i) : i < p := by
  obtain ⟨h1, h2⟩ := mem_parts.1 h
  have := (ht p h1).2
  omega
/-- What is kept in all rounds: every fixed bounds within b0 lie within b; b lies within b0. -/
structure K (fr : List Int) (n : Nat) (b0 b : B) : Prop where
  len : b.length = 12
  sub : Sub n b b0
  all : ∀ F, Fixd fr n F → Sub n F b0 → Sub n F b
theorem K.start {fr : List Int} {n : Nat} {b0 : B} (h : b0.length = 12) : K fr n b0 b0 := ⟨h, Sub.refl _ _, fun _ _ h => h⟩
theorem K.nar {fr : List Int} {n : Nat} {b0 b : B} (hk : K fr n b0 b) {p : Nat} {l h : Int} (hp : p < 12) (hF : ∀ F, Fixd fr n F → Sub n F b0 → l ≤ lo F p ∧ hi F p ≤ h) : K fr n b0 (nar b p l h) :=
  ⟨by rw [nar_length]; exact hk.len, (nar_sub n b p l h (by rw [hk.len]; exact hp)).trans hk.sub, fun F h1 h2 => nar_keeps (by rw [hk.len]; exact hp) (hk.all F h1 h2) (hF F h1 h2).1 (hF F h1 h2).2⟩
/-- Within one round: the bounds at its start (s), those now (b), lots below k are done. -/
structure Rnd (fr : List Int) (n : Nat) (b0 s : B) (k : Nat) (b : B) : Prop where
  kk : K fr n b0 b
  below : Sub n b s
  old : ∀ p, k ≤ p → p < n → (k : Int) ≤ fr.getD p (-1) → lo b p = lo s p ∧ hi b p = hi s p
  done : Sub n s b → ∀ i, i < k → C fr s i
theorem Rnd.start {fr : List Int} {n : Nat} {b0 s : B} (h : K fr n b0 s) : Rnd fr n b0 s 0 s := ⟨h, Sub.refl _ _, fun _ _ _ _ => ⟨rfl, rfl⟩, fun _ i hi' => absurd hi' (Nat.not_lt_zero _)⟩
/-- Inside lot i: its parts below number j of the list are done. -/
structure Inn (fr : List Int) (n : Nat) (b0 s : B) (i : Nat) (L H : Int) (j : Nat) (b : B) : Prop where
  kk : K fr n b0 b
  below : Sub n b s
  old : ∀ p, i + 1 ≤ p → p < n → ((i : Int) + 1 ≤ fr.getD p (-1) ∨ ∃ m, j ≤ m ∧ (parts fr i)[m]? = some p) → lo b p = lo s p ∧ hi b p = hi s p
  done : Sub n s b → ∀ q, q < i → C fr s q
  sums : ∀ F, Fixd fr n F → Sub n F b0 → L ≤ sumLo F (parts fr i) ∧ sumHi F (parts fr i) ≤ H
  buts : ∀ F, Fixd fr n F → Sub n F b0 → ∀ p ∈ parts fr i, L - lo s p ≤ sumLo F (parts fr i) - lo F p ∧ sumHi F (parts fr i) - hi F p ≤ H - hi s p
  self : Sub n s b → L = sumLo s (parts fr i) ∧ H = sumHi s (parts fr i) ∧ L ≤ lo s i ∧ hi s i ≤ H
  part : Sub n s b → ∀ m p, m < j → (parts fr i)[m]? = some p → lo s i - (H - hi s p) ≤ lo s p ∧ hi s p ≤ hi s i - (L - lo s p)
theorem Sub.eqs {n : Nat} {a b : B} (h1 : Sub n a b) (h2 : Sub n b a) {i : Nat} (hi' : i < n) : lo a i = lo b i ∧ hi a i = hi b i := by
  have := h1 i hi'; have := h2 i hi'
  constructor <;> omega
theorem sum_eq {n : Nat} {a b : B} (l : List Nat) (hl : ∀ p ∈ l, p < n) (h : ∀ p ∈ l, lo a p = lo b p ∧ hi a p = hi b p) : sumLo a l = sumLo b l ∧ sumHi a l = sumHi b l := by
  unfold sumLo sumHi
  rw [List.map_congr_left fun p hp => (h p hp).1, List.map_congr_left fun p hp => (h p hp).2]
  exact ⟨rfl, rfl⟩
theorem Rnd.skip {fr : List Int} {n : Nat} {b0 s b : B} {i : Nat} (h : Rnd fr n b0 s i b) (hp : parts fr i = []) : Rnd fr n b0 s (i + 1) b where
  kk := h.kk
  below := h.below
  old p h1 h2 h3 := h.old p (by omega) h2 (by omega)
  done hs q hq := by
    by_cases e : q = i
    · subst e; intro hne; exact absurd hp hne
    · exact h.done hs q (by omega)
/-- The lot's own narrowing. -/
theorem Rnd.own {fr : List Int} {n : Nat} {b0 s b : B} {i : Nat} (h : Rnd fr n b0 s i b) (ht : Tree fr) (hn : fr.length = n) (hn12 : n ≤ 12) (hin : i < n) (hne : parts fr i ≠ []) :
    Inn fr n b0 s i (sumLo b (parts fr i)) (sumHi b (parts fr i)) 0 (nar b i (sumLo b (parts fr i)) (sumHi b (parts fr i))) := by
  have hlt : ∀ p ∈ parts fr i, p < n := fun p hp => hn ▸ parts_lt hp
  have hi12 : i < b.length := by rw [h.kk.len]; omega
  have hold : ∀ p ∈ parts fr i, lo b p = lo s p ∧ hi b p = hi s p := fun p hp => h.old p (Nat.le_of_lt (parts_gt ht hp)) (hlt p hp) (by rw [(mem_parts.1 hp).2]; exact Int.le_refl _)
  have hsum := sum_eq (n := n) (parts fr i) hlt hold
  have hF : ∀ F, Fixd fr n F → Sub n F b0 → sumLo b (parts fr i) ≤ sumLo F (parts fr i) ∧ sumHi F (parts fr i) ≤ sumHi b (parts fr i) := fun F h1 h2 => ⟨sumLo_le (h.kk.all F h1 h2) _ hlt, sumHi_le (h.kk.all F h1 h2) _ hlt⟩
  refine ⟨h.kk.nar (by omega) fun F h1 h2 => ?_, (nar_sub n b i _ _ hi12).trans h.below, fun p hp1 hp2 hp3 => ?_, fun hs q hq => ?_, hF, fun F h1 h2 p hp => ?_, fun hs => ?_, fun _ m p hm _ => absurd hm (Nat.not_lt_zero _)⟩
  · have := (h1 i hin hne).1
    have := hF F h1 h2
    omega
  · have hpi : ¬ p = i := by omega
    rw [lo_nar b i _ _ hi12, hi_nar b i _ _ hi12, if_neg hpi, if_neg hpi]
    refine h.old p (by omega) hp2 ?_
    rcases hp3 with h3 | ⟨m, _, hm⟩
    · omega
    · rw [(mem_parts.1 (List.mem_of_getElem? hm)).2]; exact Int.le_refl _
  · exact h.done (hs.trans (nar_sub n b i _ _ hi12)) q hq
  · rw [← (hold p hp).1, ← (hold p hp).2]
    exact ⟨sumLo_but (h.kk.all F h1 h2) _ hlt p hp, sumHi_but (h.kk.all F h1 h2) _ hlt p hp⟩
  · have h1 := hs i hin
    rw [lo_nar b i _ _ hi12, hi_nar b i _ _ hi12, if_pos rfl, if_pos rfl] at h1
    rw [hsum.1, hsum.2] at h1 ⊢
    exact ⟨rfl, rfl, by omega, by omega⟩
theorem nodup_parts (fr : List Int) (i : Nat) : (parts fr i).Nodup := nodup_pos _ _ _
/-- A part's narrowing. -/
theorem Inn.next {fr : List Int} {n : Nat} {b0 s b : B} {i : Nat} {L H : Int} {j p : Nat} (h : Inn fr n b0 s i L H j b) (ht : Tree fr) (hn : fr.length = n) (hn12 : n ≤ 12) (hin : i < n) (hp : (parts fr i)[j]? = some p) :
    Inn fr n b0 s i L H (j + 1) (nar b p (lo b i - (H - hi s p)) (hi b i - (L - lo s p))) := by
  have hpm := List.mem_of_getElem? hp
  have hpn : p < n := hn ▸ parts_lt hpm
  have hip : i < p := parts_gt ht hpm
  have hp12 : p < b.length := by rw [h.kk.len]; omega
  have hne : parts fr i ≠ [] := fun e => by rw [e] at hpm; cases hpm
  have hsub := nar_sub n b p (lo b i - (H - hi s p)) (hi b i - (L - lo s p)) hp12
  refine ⟨h.kk.nar (by omega) fun F h1 h2 => ?_, hsub.trans h.below, fun q hq1 hq2 hq3 => ?_, fun hs => h.done (hs.trans hsub), h.sums, h.buts, fun hs => h.self (hs.trans hsub), fun hs m q hm hq => ?_⟩
  · have h3 := (h1 i hin hne).2 p hpm
    have h4 := h.buts F h1 h2 p hpm
    have h5 := h.kk.all F h1 h2 i hin
    omega
  · have hqp : ¬ q = p := by
      intro e
      subst e
      rcases hq3 with h3 | ⟨m, h3, h4⟩
      · rw [(mem_parts.1 hpm).2] at h3; omega
      · have := List.getElem?_eq_some_iff.1 h4
        have hj := List.getElem?_eq_some_iff.1 hp
        have e2 : m = j := by
          have hnd := nodup_parts fr i
          exact (List.getElem_inj hnd).1 (this.2.trans hj.2.symm)
        omega
    rw [lo_nar b p _ _ hp12, hi_nar b p _ _ hp12, if_neg hqp, if_neg hqp]
    refine h.old q hq1 hq2 ?_
    rcases hq3 with h3 | ⟨m, h3, h4⟩
    · exact .inl h3
    · exact .inr ⟨m, by omega, h4⟩
  · have hs' := hs.trans hsub
    by_cases e : m = j
    · subst e
      rw [hp] at hq
      obtain rfl := Option.some.inj hq
      have h1 := hs p hpn
      rw [lo_nar b p _ _ hp12, hi_nar b p _ _ hp12, if_pos rfl, if_pos rfl] at h1
      have h2 := Sub.eqs h.below hs' hin
      omega
    · exact h.part hs' m q (by omega) hq
theorem Inn.end_ {fr : List Int} {n : Nat} {b0 s b : B} {i : Nat} {L H : Int} (h : Inn fr n b0 s i L H (parts fr i).length b) (ht : Tree fr) (hn : fr.length = n) : Rnd fr n b0 s (i + 1) b where
  kk := h.kk
  below := h.below
  old p h1 h2 h3 := h.old p h1 h2 (.inl (by omega))
  done hs q hq := by
    by_cases e : q = i
    · subst e
      intro _
      obtain ⟨h1, h2, h3, h4⟩ := h.self hs
      refine ⟨⟨by omega, by omega⟩, fun p hp => ?_⟩
      obtain ⟨m, hm⟩ := List.getElem?_of_mem hp
      have := h.part hs m p (List.getElem?_eq_some_iff.1 hm).1 hm
      rw [← h1, ← h2]
      exact this
    · exact h.done hs q (by omega)
theorem Rnd.fixed {fr : List Int} {n : Nat} {b0 s : B} (h : Rnd fr n b0 s n s) : Fixd fr n s := fun i hi' => h.done (Sub.refl _ _) i hi'
/-- Weights that fit. -/
def ofW (r : List Int) : B := r.map fun x => (x, x)
theorem lo_ofW (r : List Int) (i : Nat) : lo (ofW r) i = r.getD i 0 := by
  simp only [lo, ofW, List.getD_eq_getElem?_getD, List.getElem?_map]
  cases r[i]? <;> rfl
theorem hi_ofW (r : List Int) (i : Nat) : hi (ofW r) i = r.getD i 0 := by
  simp only [hi, ofW, List.getD_eq_getElem?_getD, List.getElem?_map]
  cases r[i]? <;> rfl
/-- A lot with parts weighs as much as these. -/
def Weights (fr r : List Int) : Prop := ∀ i, parts fr i ≠ [] → r.getD i 0 = ((parts fr i).map fun p => r.getD p 0).sum
theorem Weights.fixed {fr r : List Int} (h : Weights fr r) (n : Nat) : Fixd fr n (ofW r) := fun i _ hne => by
  have h1 : sumLo (ofW r) (parts fr i) = r.getD i 0 := by rw [h i hne]; unfold sumLo; rw [List.map_congr_left fun p _ => lo_ofW r p]
  have h2 : sumHi (ofW r) (parts fr i) = r.getD i 0 := by rw [h i hne]; unfold sumHi; rw [List.map_congr_left fun p _ => hi_ofW r p]
  rw [h1, h2, lo_ofW, hi_ofW]
  refine ⟨⟨Int.le_refl _, Int.le_refl _⟩, fun p _ => ?_⟩
  rw [lo_ofW, hi_ofW]
  omega
/-- How wide bounds are. -/
def wide (n : Nat) (b : B) : Nat := ((List.range n).map fun i => (hi b i - lo b i).toNat).sum
theorem wide_lt {n : Nat} {a b F : B} (h : Sub n a b) (hF : Sub n F a) (hFF : ∀ i, i < n → lo F i ≤ hi F i) (hne : ¬ Sub n b a) : wide n a < wide n b := by
  unfold wide
  have key : ∀ m, m ≤ n → ((List.range m).map fun i => (hi a i - lo a i).toNat).sum ≤ ((List.range m).map fun i => (hi b i - lo b i).toNat).sum ∧ ((¬ Sub m b a) → ((List.range m).map fun i => (hi a i - lo a i).toNat).sum < ((List.range m).map fun i => (hi b i - lo b i).toNat).sum) := by
    intro m
    induction m with
    | zero => intro _; exact ⟨Nat.le_refl _, fun h => absurd (fun i hi' => absurd hi' (Nat.not_lt_zero _)) h⟩
    | succ m ih =>
      intro hm
      obtain ⟨i1, i2⟩ := ih (by omega)
      have h1 := h m (by omega)
      have h2 := hF m (by omega)
      have h3 := hFF m (by omega)
      simp only [List.range_succ, List.map_append, List.map_cons, List.map_nil, List.sum_append, List.sum_cons, List.sum_nil]
      refine ⟨by omega, fun hs => ?_⟩
      by_cases hsm : Sub m b a
      · have : ¬ (lo a m ≤ lo b m ∧ hi b m ≤ hi a m) := fun hh => hs fun i hi' => by
          by_cases e : i = m
          · subst e; exact hh
          · exact hsm i (by omega)
        omega
      · have := i2 hsm
        omega
  exact (key n (Nat.le_refl _)).2 hne
/-- Two bounds of 12 places that are alike beyond n. -/
def Tail (n : Nat) (b : B) : Prop := ∀ i, n ≤ i → i < 12 → b[i]? = some (0, 0)
theorem Tail.nar {n p : Nat} {b : B} (h : Tail n b) (hp : p < n) (l g : Int) : Tail n (Sk.nar b p l g) := fun i h1 h2 => by
  unfold Sk.nar
  rw [List.getElem?_set_ne (by omega)]
  exact h i h1 h2
theorem eq_of {n : Nat} {a b : B} (ha : a.length = 12) (hb : b.length = 12) (ta : Tail n a) (tb : Tail n b) (h1 : Sub n a b) (h2 : Sub n b a) : a = b := by
  apply List.ext_getElem?
  intro i
  by_cases h : i < 12
  · by_cases hn : i < n
    · obtain ⟨e1, e2⟩ := Sub.eqs h1 h2 hn
      have hia : i < a.length := by omega
      have hib : i < b.length := by omega
      simp only [lo, hi, List.getD_eq_getElem?_getD, List.getElem?_eq_getElem hia, List.getElem?_eq_getElem hib, Option.getD_some] at e1 e2
      rw [List.getElem?_eq_getElem hia, List.getElem?_eq_getElem hib]
      exact congrArg some (Prod.ext e1 e2)
    · rw [ta i (by omega) h, tb i (by omega) h]
  · rw [List.getElem?_eq_none (by omega), List.getElem?_eq_none (by omega)]
end Sk
end Go.Proofs.YtlpoiggdjggkiaaGreatDoor
end
section
namespace Go.Proofs.YtlpoiggdjggkiaaGreatDoor
namespace Sk
open Go.RowKit
set_option maxRecDepth 100000
abbrev millV (E : Int) (Al : Option Addr) (n cl : Nat) (Aw : Option Addr) (k c : Nat) : Value := .agg #[iv E, .slice Al n cl, .slice Aw k c]
/-- A weighing that is right, of one of n lots. -/
structure WOk (n : Nat) (x : Weigh) : Prop where
  lot : 0 ≤ x.lot ∧ x.lot < (n : Int)
  reads : 0 ≤ x.reads ∧ x.reads ≤ 10000
  lo : 0 ≤ x.lo
  mid : x.lo ≤ x.hi
  hi : x.hi ≤ 60
abbrev froms (ls : List SLot) : List Int := ls.map SLot.fr
/-- A mill that is right. -/
structure MOk (E : Int) (ls : List SLot) (ws : List Weigh) : Prop where
  e0 : 0 ≤ E
  e1 : E ≤ 50
  n0 : 1 ≤ ls.length
  n1 : ls.length ≤ 12
  k : ws.length ≤ 10
  kind : ∀ x ∈ ls, 0 ≤ x.kind ∧ x.kind ≤ 3
  tree : Tree (froms ls)
  ws : ∀ x ∈ ws, WOk ls.length x
theorem MOk.few {E : Int} {ls : List SLot} {ws ws' : List Weigh} (h : MOk E ls ws) (hk : ws'.length ≤ 10) (hw : ∀ x ∈ ws', WOk ls.length x) : MOk E ls ws' := ⟨h.e0, h.e1, h.n0, h.n1, hk, h.kind, h.tree, hw⟩
theorem bounded_true {n : Nat} (x : Weigh) (h : WOk n x) (w : World) : Calls Tryz.prog 46 #[x.v] w fun e w' => e = .returned (.bool true) ∧ Below w.heap.size w w' := by
  obtain ⟨a, b, c, d⟩ := x
  obtain ⟨h1, h2, h3, h4, h5⟩ := h
  dsimp only at h1 h2 h3 h4 h5
  have e1 : Price.inB b 0 10000 = true := by simp [Price.inB]; omega
  have e2 : Price.inB c 0 60 = true := by simp [Price.inB]; omega
  have e3 : Price.inB d 0 60 = true := by simp [Price.inB]; omega
  clear h1 h2 h3 h4 h5
  go_enter Tryz.func46, Tryz.ntmps46
  go_wp2_with (go_at_call 44; refine (sin_spec _ _ _ _).mono ?_; rintro e w' ⟨rfl, rfl⟩)
  go_ret
  exact ⟨by first | rfl | simp [e1, e2, e3], (Below.refl _ _).alloc (Nat.le_refl _) _⟩
theorem check3_true {n : Nat} (x : Weigh) (h : WOk n x) (w : World) : Calls Tryz.prog 52 #[x.v] w fun e w' => e = .returned (.bool true) ∧ Below w.heap.size w w' := by
  obtain ⟨a, b, c, d⟩ := x
  have h4 := h.mid
  dsimp only at h4
  clear h
  go_enter Tryz.func52, Tryz.ntmps52
  go_wp2_with fail
  go_ret
  exact ⟨by first | rfl | simp [h4], (Below.refl _ _).alloc (Nat.le_refl _) _⟩
theorem slot_spec (E : Int) (Al : Option Addr) (n cl : Nat) (Aw : Option Addr) (m c : Nat) (k : Int) (hn : n ≤ 12) (w : World) : Calls Tryz.prog 50 #[millV E Al n cl Aw m c, iv k] w fun e w' => e = .returned (.bool (Price.inB k 0 ((n : Int) - 1))) ∧ Below w.heap.size w w' := by
  have e1 : IntKind.i64.wrap ((n : Int) - 1) = (n : Int) - 1 := IntWalk.i64_in _ (by omega)
  go_enter Tryz.func50, Tryz.ntmps50
  go_wp2_with (go_at_call 44; refine (sin_spec _ _ _ _).mono ?_; rintro e w' ⟨rfl, rfl⟩)
  go_ret
  exact ⟨rfl, (Below.refl _ _).alloc (Nat.le_refl _) _⟩
theorem check2_true (E : Int) (Al : Option Addr) (n cl : Nat) (Aw : Option Addr) (m c : Nat) (x : Weigh) (hn : n ≤ 12) (h : WOk n x) (g : Nat) (w : World) (hg : g < w.heap.size) (hc : w.cell? ⟨g, 0, none⟩ = some (.func (.func 50) #[millV E Al n cl Aw m c] #[])) :
    Calls Tryz.prog 51 #[x.v, .pointer (some ⟨g, 0, none⟩)] w fun e w' => e = .returned (.bool true) ∧ Below w.heap.size w w' := by
  obtain ⟨a, b, cc, d⟩ := x
  have h1 := h.lot
  dsimp only at h1
  have e1 : Price.inB a 0 ((n : Int) - 1) = true := by simp [Price.inB]; omega
  clear h h1
  have hcf := callFunc_run (P := Tryz.prog) (K := 50) (by kernel_rfl)
  have HL : Hid (∀ W : World, Calls Tryz.prog 50 #[millV E Al n cl Aw m c, iv a] W fun e w' => e = .returned (.bool true) ∧ Below W.heap.size W w') := Lib.hid fun W => by
    have := slot_spec E Al n cl Aw m c a hn W
    rw [e1] at this
    exact this
  clear e1 hn
  go_enter Tryz.func51, Tryz.ntmps51
  go_wp2_with (go_at_call 50; refine (HL.out _).mono ?_; rintro e w' ⟨rfl, hb⟩)
  go_ret
  exact ⟨rfl, hb.of_alloc⟩
set_option maxHeartbeats 4000000 in
theorem scheck_spec (E : Int) (Al : Option Addr) (ls : List SLot) (cl : Nat) (Aw : Option Addr) (ws : List Weigh) (c : Nat) (w : World) (hl : Sl lotE w Al ls) (hw : Sl weighE w Aw ws) (hok : MOk E ls ws) :
    Calls Tryz.prog 22 #[millV E Al ls.length cl Aw ws.length c] w fun e w' => e = .returned (iv 0) ∧ Below w.heap.size w w' := by
  have hn := hok.k
  have hn1 := hok.n1
  have hni : ¬ (10 : Int) < (ws.length : Int) := by omega
  have HOK := Lib.hid hok
  have hb0 : Below w.heap.size w (w.alloc (.cells #[iv E, .slice Al ls.length cl, .slice Aw ws.length c] 28)) := (Below.refl _ _).alloc (Nat.le_refl _) _
  have hB0 : Blk (w.alloc (.cells #[iv E, .slice Al ls.length cl, .slice Aw ws.length c] 28)) w.heap.size 28 #[iv E, .slice Al ls.length cl, .slice Aw ws.length c] := Blk.new _ _ _
  have HE1 : Hid (∀ W, Below w.heap.size w W → Calls Tryz.prog 45 #[.slice Aw ws.length c, .func (.func 46) #[] #[]] W fun e w' => e = .returned (.bool true) ∧ Below W.heap.size W w') := Lib.hid fun W h => by
    have := everyW Aw ws c 46 #[] (fun _ => true) W (by unfold big; omega) (hw.below h) ⟨callFunc_run (by kernel_rfl), fun x hx w' _ => bounded_true x (hok.ws x hx) w'⟩
    rw [List.all_eq_true.2 (fun _ _ => rfl)] at this
    exact this
  have HE2 : Hid (∀ W, Below w.heap.size w W → Calls Tryz.prog 47 #[.slice Al ls.length cl, .func (.func 48) #[] #[]] W fun e w' => e = .returned (.bool true) ∧ Below W.heap.size W w') := Lib.hid fun W h => by
    have := everyL Al ls cl 48 #[] (fun _ => true) W (by unfold big; omega) (hl.below h) ⟨callFunc_run (by kernel_rfl), fun x hx w' _ => check1_true x (hok.kind x hx) w'⟩
    rw [List.all_eq_true.2 (fun _ _ => rfl)] at this
    exact this
  have HE3 : Hid (∀ W g, Below w.heap.size w W → g < W.heap.size → W.cell? ⟨g, 0, none⟩ = some (.func (.func 50) #[millV E Al ls.length cl Aw ws.length c] #[]) → Calls Tryz.prog 45 #[.slice Aw ws.length c, .func (.func 51) #[] #[.pointer (some ⟨g, 0, none⟩)]] W fun e w' => e = .returned (.bool true) ∧ Below W.heap.size W w') := Lib.hid fun W g h hg hc => by
    have := everyW Aw ws c 51 #[.pointer (some ⟨g, 0, none⟩)] (fun _ => true) W (by unfold big; omega) (hw.below h) ⟨callFunc_run (by kernel_rfl), fun x hx w' hb => check2_true E Al ls.length cl Aw ws.length c x hn1 (hok.ws x hx) g w' (Nat.lt_of_lt_of_le hg hb.size) ((hb.cell (p := ⟨g, 0, none⟩) hg).trans hc)⟩
    rw [List.all_eq_true.2 (fun _ _ => rfl)] at this
    exact this
  have HE4 : Hid (∀ W, Below w.heap.size w W → Calls Tryz.prog 45 #[.slice Aw ws.length c, .func (.func 52) #[] #[]] W fun e w' => e = .returned (.bool true) ∧ Below W.heap.size W w') := Lib.hid fun W h => by
    have := everyW Aw ws c 52 #[] (fun _ => true) W (by unfold big; omega) (hw.below h) ⟨callFunc_run (by kernel_rfl), fun x hx w' _ => check3_true x (hok.ws x hx) w'⟩
    rw [List.all_eq_true.2 (fun _ _ => rfl)] at this
    exact this
  have i1 : Price.inB (ls.length : Int) 1 12 = true := by have := hok.n0; simp [Price.inB]; omega
  have i2 : Price.inB E 0 50 = true := by have := hok.e0; have := hok.e1; simp [Price.inB]; omega
  have HT : Hid (∀ (k : Nat) (x : SLot), ls[k]? = some x → Price.inB x.fr (-1) ((k : Int) - 1) = true) := Lib.hid fun k x hx => by
    have hkl := (List.getElem?_eq_some_iff.1 hx).1
    have := hok.tree k (by simpa using hkl)
    rw [List.getD_eq_getElem?_getD, List.getElem?_map, hx] at this
    simp only [Option.map_some, Option.getD_some] at this
    simp [Price.inB]; omega
  clear hok hw
  go_enter Tryz.func22, Tryz.ntmps22
  go_wp2_with fail
  generalize w.alloc (.cells #[iv E, .slice Al ls.length cl, .slice Aw ws.length c] 28) = w0 at *
  have c0 := hB0.cell
  have d0 := hB0.lt
  refine (sin_spec _ _ _ _).mono ?_
  rintro e w' ⟨rfl, rfl⟩
  rw [i1]
  go_wp2_with fail
  refine (sin_spec _ _ _ _).mono ?_
  rintro e w' ⟨rfl, rfl⟩
  rw [i2]
  have R1 := Lib.hid (HE1.out w0 hb0)
  go_wp2_with fail
  refine R1.out.mono ?_
  rintro e w1 ⟨rfl, hb1⟩
  have hb01 := hb0.next hb1 (Nat.le_refl _)
  have hB1 := hB0.under hb1
  have c1 := hB1.cell
  have d1 := hB1.lt
  have R2 := Lib.hid (HE2.out w1 hb01)
  clear R1 c0 d0
  go_wp2_with fail
  refine R2.out.mono ?_
  rintro e w2 ⟨rfl, hb2⟩
  have hb02 := hb01.next hb2 (Nat.le_refl _)
  have hB2 := hB1.under hb2
  have c2 := hB2.cell
  have d2 := hB2.lt
  clear R2 c1 d1
  go_wp2_with fail
  clear c2 d2
  go_loopw [3, 4, 36] (fun _ _ i wr => ∃ k : Nat, k ≤ ls.length ∧ i = iv k ∧ Below w2.heap.size w2 wr) (fun _ _ i _ => ls.length - (intOf i).toNat)
  case atStart => exact ⟨0, by omega, rfl, Below.refl _ _⟩
  case round =>
    obtain ⟨k, hk, rfl, hbw⟩ := hrel
    have hb0r := hb02.next hbw (Nat.le_refl _)
    by_cases hlt : k < ls.length
    · have hki : (k : Int) < (ls.length : Int) := by omega
      obtain ⟨b, off, x, rfl, hb, hx, hc0, hc1⟩ := (hl.below hb0r).atL hlt
      have HIN := Lib.hid (HT.out k x hx)
      obtain ⟨xf, xk⟩ := x
      dsimp only at hc0 hc1 HIN
      have hkw : IntKind.i64.wrap ((k : Int) - 1) = (k : Int) - 1 := IntWalk.i64_in _ (by omega)
      have HBR := Lib.hid (hbw.next ((Below.refl wr.heap.size wr).alloc (Nat.le_refl _) (.cells #[iv xf, iv xk] 65)) (Nat.le_refl _))
      clear hx
      go_wp2_with fail
      refine (sin_spec _ _ _ _).mono ?_
      rintro e w' ⟨rfl, rfl⟩
      rw [HIN.out]
      go_wp2_with fail
      go_roundw
      case rel => exact ⟨k + 1, by omega, by go_num, HBR.out⟩
      case measure => simp [intOf]; omega
    · have hki : ¬ (k : Int) < (ls.length : Int) := by omega
      have hB3 := hB2.under hbw
      have c3 := hB3.cell
      have d3 := hB3.lt
      have hba : Below wr.heap.size wr (wr.alloc (.cells #[.func (.func 50) #[millV E Al ls.length cl Aw ws.length c] #[]] 62)) := (Below.refl _ _).alloc (Nat.le_refl _) _
      have hBf : Blk (wr.alloc (.cells #[.func (.func 50) #[millV E Al ls.length cl Aw ws.length c] #[]] 62)) wr.heap.size 62 #[.func (.func 50) #[millV E Al ls.length cl Aw ws.length c] #[]] := Blk.new _ _ _
      have R3 := Lib.hid (HE3.out _ wr.heap.size (hb0r.next hba (Nat.le_refl _)) hBf.lt (hBf.cell 0))
      have hB3a := hB3.under hba
      have c4 := hB3a.cell
      have d4 := hB3a.lt
      have hb0a := hb0r.next hba (Nat.le_refl _)
      clear hB2 hB1 hB0
      go_wp2_with fail
      refine R3.out.mono ?_
      generalize wr.alloc (.cells #[.func (.func 50) #[millV E Al ls.length cl Aw ws.length c] #[]] 62) = w3 at *
      rintro e w4 ⟨rfl, hb4⟩
      have hb04 := hb0a.next hb4 (Nat.le_refl _)
      have hB4 := hB3a.under hb4
      clear c3 d3 c4 d4 R3
      have c5 := hB4.cell
      have d5 := hB4.lt
      have R4 := Lib.hid (HE4.out w4 hb04)
      go_wp2_with fail
      refine R4.out.mono ?_
      rintro e w5 ⟨rfl, hb5⟩
      go_wp2_with fail
      go_ret
      exact ⟨rfl, hb04.next hb5 (Nat.le_refl _)⟩
end Sk
end Go.Proofs.YtlpoiggdjggkiaaGreatDoor
end
section
namespace Go.Proofs.YtlpoiggdjggkiaaGreatDoor
namespace Sk
open Go.RowKit Go.Maps Go.WideMaps Go.ChangeShapes Fl
set_option maxRecDepth 100000
theorem lawsI : Keyed Tryz.prog 3 := int_keyed Tryz.underlying3
theorem key_int {x : Int} (h1 : -1 ≤ x) (h2 : x ≤ 100) : keyOf Tryz.prog 3 (iv x) = some (.int .i64 x) := keyOf_int_mk Tryz.underlying3 (by have e1 : IntKind.i64.min = -9223372036854775808 := rfl; have e2 : IntKind.i64.max = 9223372036854775807 := rfl; simp only [Lit.wf, Bool.and_eq_true, decide_eq_true_eq, e1, e2]; omega)
/-- The places of a number, as numbers. -/
def posI (x : Int) (l : List Int) : List Int := (pos x l 0).map fun (n : Nat) => (n : Int)
theorem posI_snoc (x y : Int) (l : List Int) : posI x (l ++ [y]) = posI x l ++ (if y = x then [(l.length : Int)] else []) := by
  unfold posI
  rw [pos_snoc, List.map_append, Nat.zero_add]
  split <;> rfl
/-- Block m says where the numbers of l are; the places lie from B on. -/
def WhereI (w : World) (m B : Nat) (l : List Int) : Prop := ∃ (n : Nat) (D : DataW Unit), n ≤ l.length ∧ w.ownsGroups (H := Unit) Tryz.prog 3 B 3 .i64 m n D ∧ ∀ x : Int, -1 ≤ x → x ≤ 100 → Reads (posI x l) (D.atKey (.int .i64 x) .nil)
theorem groups_map {w : World} {B m n : Nat} {D : DataW Unit} (h : w.ownsGroups (H := Unit) Tryz.prog 3 B 3 .i64 m n D) : IsMap D := by
  obtain ⟨_, _, _, _, _, e, _⟩ := h
  exact ⟨_, e⟩
theorem WhereI.below {w w' : World} {m B : Nat} {l : List Int} (h : WhereI w m B l) (hb : Below w.heap.size w w') : WhereI w' m B l := by
  obtain ⟨n, D, h1, h2, h3⟩ := h
  have hg : w.grownBy w' none := ⟨hb.os, hb.tape, hb.output, hb.size, fun k hk _ => hb.block k hk⟩
  exact ⟨n, D, h1, h2.kept hg (by simp) (h2.rowsAbove (by simp)), h3⟩
theorem whereI_nil (w : World) (o : Obj) : WhereI ((w.alloc (.map #[] 0)).alloc o) w.heap.size (w.heap.size + 2) [] := by
  refine ⟨0, .map [], Nat.le_refl _, ?_, fun x _ _ => .inl ⟨rfl, rfl⟩⟩
  refine ⟨#[], 0, ?_, ⟨by simp, Go.MapKept.stamped_empty 0, by simp⟩, Nat.le_refl _, rfl, by omega, by simp, by simp⟩
  rw [Below.heap_alloc _ _ _ (by simp), (MapKept.heap_alloc w _).1]
/-- What parts[x] gives, if v is read. -/
structure LookI (w : World) (ob : Obj) (m B n : Nat) (D : DataW Unit) (x : Int) (v : Value) (zs : List Int) : Prop where
  at_ : D.atKey (.int .i64 x) .nil = rowDatum .i64 v zs
  own : (w.alloc ob).ownsInts B 3 .i64 v zs
  len : zs.length ≤ n
  back : (w.alloc ob).groupBack Tryz.prog 172 3 B 3 .i64 m n D (iv x) (.int .i64 x) v
theorem lookI_both {w : World} {m B n : Nat} {D : DataW Unit} (ob : Obj) (hown : w.ownsGroups (H := Unit) Tryz.prog 3 B 3 .i64 m n D) (hn : n < maxLen) {x : Int} (h1 : -1 ≤ x) (h2 : x ≤ 100) :
    ∃ v zs v2 zs2, (Instr.lookup 172 (.map (some m)) (iv x) false).run Tryz.prog w = .ok v w ∧ (Instr.lookup 172 (.map (some m)) (iv x) false).run Tryz.prog (w.alloc ob) = .ok v2 (w.alloc ob) ∧ LookI w ob m B n D x v zs ∧ LookI w ob m B n D x v2 zs2 := by
  have hown' : (w.alloc ob).ownsGroups (H := Unit) Tryz.prog 3 B 3 .i64 m n D := hown.kept (World.grownBy_alloc w ob none) (by simp) (hown.rowsAbove (by simp))
  obtain ⟨v, zs, hrun, hat, hoi, hzl, hback⟩ := hown.at lawsI Tryz.underlying172 (zeroInts _) hn (key_int h1 h2)
  obtain ⟨v2, zs2, hrun2, hat2, hoi2, hzl2, hback2⟩ := hown'.at lawsI Tryz.underlying172 (zeroInts _) hn (key_int h1 h2)
  refine ⟨v, zs, v2, zs2, hrun, hrun2, ⟨hat, hoi.alloc _, hzl, fun w1 v' zs' hg h1 h2 h3 => hback w1 v' zs' ((World.grownBy_alloc _ _ _).trans hg) h1 h2 (h3.imp id ?_)⟩, ⟨hat2, hoi2, hzl2, hback2⟩⟩
  rintro ⟨g, h4, h5⟩
  exact ⟨g, h4, by simp at h5; omega⟩
/-- What a round of the loop leaves. -/
theorem whereI_snoc {w w1 w2 : World} {m B n : Nat} {D : DataW Unit} {l : List Int} {y : Int} {v v' : Value} {zs : List Int} {j : Nat} (hj : l.length = j) (hn : n ≤ l.length) (hD : IsMap D)
    (hr : ∀ x : Int, -1 ≤ x → x ≤ 100 → Reads (posI x l) (D.atKey (.int .i64 x) .nil)) (hy1 : -1 ≤ y) (hy2 : y ≤ 100)
    (hat : D.atKey (.int .i64 y) .nil = rowDatum .i64 v zs) (hoi : w.ownsInts B 3 .i64 v zs) (hoi' : w1.ownsInts B 3 .i64 v' (zs ++ [(j : Int)]))
    (hg : w2.ownsGroups Tryz.prog 3 B 3 .i64 m (n + 1) (D.put (.int .i64 y) (rowDatum .i64 v' (zs ++ [(j : Int)])))) : WhereI w2 m B (l ++ [y]) := by
  subst hj
  refine ⟨n + 1, _, by simp; omega, hg, fun x hx1 hx2 => ?_⟩
  rw [posI_snoc]
  by_cases h : y = x
  · subst h
    rw [atKey_put_same hD (by trivial)]
    have hz : posI y l = zs := (hr y hy1 hy2).unique (by rw [hat]; exact reads_of hoi)
    rw [if_pos rfl, hz]
    exact reads_of hoi'
  · rw [if_neg h, List.append_nil, atKey_put_other]
    · exact hr x hx1 hx2
    · intro e
      injection e with _ e
      exact h e.symm
theorem ownI_of {w : World} {B : Nat} {v : Value} {zs : List Int} (h : w.ownsInts B 3 .i64 v zs) : Own intE 3 B w v zs := by
  have hfl : ∀ zs : List Int, zs.flatMap intE.cells = zs.map (Value.int .i64) := by
    intro zs
    induction zs with
    | nil => rfl
    | cons z zs ih => rw [List.flatMap_cons, List.map_cons, ← ih]; rfl
  unfold Own
  rw [hfl]
  exact h.1
/-- parts[x], read. -/
theorem WhereI.look {w : World} {m B : Nat} {l : List Int} (h : WhereI w m B l) (hl : l.length < maxLen) (x : Int) (h1 : -1 ≤ x) (h2 : x ≤ 100) :
    ∃ A c, (Instr.lookup 172 (.map (some m)) (iv x) false).run Tryz.prog w = .ok (.slice A (pos x l 0).length c) w ∧ Own intE 3 B w (.slice A (pos x l 0).length c) (posI x l) := by
  obtain ⟨n, D, hn, hD, hr⟩ := h
  obtain ⟨v, zs, hrun, hat, hoi, _, _⟩ := hD.at lawsI Tryz.underlying172 (zeroInts _) (by omega) (key_int h1 h2)
  have hz : posI x l = zs := (hr x h1 h2).unique (by rw [hat]; exact reads_of hoi)
  have ho := ownI_of hoi
  rw [hz, show (pos x l 0).length = zs.length by rw [← hz, posI, List.length_map]]
  obtain ⟨A, c, rfl, _, _⟩ := ho.form
  exact ⟨A, c, hrun, ho⟩
theorem rowT {W w3 : World} {g B : Nat} {t : TypeId} {cs : Array Value} {v : Value} {zs : List Int} (h : Blk W g t cs) (hoi : W.ownsInts B 3 .i64 v zs) (hg : W.grownBy w3 v.ownBlock) (ht : t ≠ 3) : Blk w3 g t cs :=
  (hg.block g h.lt fun e => Own.ne_blkS (ownI_of hoi) h ht e.symm).trans h
/-- A mill at work. -/
def Desk (w : World) (gd : Nat) (E : Int) (lots weighings : Value) (fr : List Int) : Prop := ∃ gm B, Blk w gd 174 #[iv E, lots, weighings, .map (some gm)] ∧ WhereI w gm B fr
theorem Desk.below {w w' : World} {gd : Nat} {E : Int} {l x : Value} {fr : List Int} (h : Desk w gd E l x fr) (hb : Below w.heap.size w w') : Desk w' gd E l x fr := by
  obtain ⟨gm, B, h1, h2⟩ := h
  exact ⟨gm, B, h1.under hb, h2.below hb⟩
set_option maxHeartbeats 4000000 in
theorem skOpened_spec (E : Int) (Al : Option Addr) (ls : List SLot) (cl : Nat) (Aw : Option Addr) (ws : List Weigh) (c : Nat) (w : World) (hl : Sl lotE w Al ls) (hw : Sl weighE w Aw ws) (hok : MOk E ls ws) :
    Calls Tryz.prog 69 #[millV E Al ls.length cl Aw ws.length c] w fun e w' => ∃ gd, e = .returned (.tuple #[.pointer (some ⟨gd, 0, none⟩), iv 0]) ∧ Below w.heap.size w w' ∧ Desk w' gd E (.slice Al ls.length cl) (.slice Aw ws.length c) (froms ls) := by
  have hb0 : Below w.heap.size w (w.alloc (.cells #[iv E, .slice Al ls.length cl, .slice Aw ws.length c] 28)) := (Below.refl _ _).alloc (Nat.le_refl _) _
  have hB0 : Blk (w.alloc (.cells #[iv E, .slice Al ls.length cl, .slice Aw ws.length c] 28)) w.heap.size 28 #[iv E, .slice Al ls.length cl, .slice Aw ws.length c] := Blk.new _ _ _
  have R0 := Lib.hid (scheck_spec E Al ls cl Aw ws c _ (hl.below hb0) (hw.below hb0) hok)
  have hn1 := hok.n1
  have HFR : Hid (∀ (k : Nat) (x : SLot), ls[k]? = some x → -1 ≤ x.fr ∧ x.fr ≤ 100) := Lib.hid fun k x hx => by
    have hkl := (List.getElem?_eq_some_iff.1 hx).1
    have := hok.tree k (by simpa using hkl)
    rw [List.getD_eq_getElem?_getD, List.getElem?_map, hx] at this
    simp only [Option.map_some, Option.getD_some] at this
    omega
  clear hok
  have hmm := @run_makeMap Tryz.prog
  go_enter Tryz.func69, Tryz.ntmps69
  go_wp2_with fail
  generalize w.alloc (.cells #[iv E, .slice Al ls.length cl, .slice Aw ws.length c] 28) = w0 at *
  refine R0.out.mono ?_
  rintro e w1 ⟨rfl, hb1⟩
  have hb01 := hb0.next hb1 (Nat.le_refl _)
  have hB1 := hB0.under hb1
  have c1 := hB1.cell
  have d1 := hB1.lt
  clear R0 hb1 hB0 hb0
  go_wp2_with fail
  have hba : Below w1.heap.size w1 (w1.alloc (.map #[] 0)) := (Below.refl _ _).alloc (Nat.le_refl _) _
  have hbc : Below w1.heap.size w1 ((w1.alloc (.map #[] 0)).alloc (.cells #[iv E, .slice Al ls.length cl, .slice Aw ws.length c, .map (some w1.heap.size)] 174)) := hba.alloc hba.size _
  have hBd : Blk ((w1.alloc (.map #[] 0)).alloc (.cells #[iv E, .slice Al ls.length cl, .slice Aw ws.length c, .map (some w1.heap.size)] 174)) (w1.heap.size + 1) 174 #[iv E, .slice Al ls.length cl, .slice Aw ws.length c, .map (some w1.heap.size)] := by
    have := Blk.new (w1.alloc (.map #[] 0)) 174 #[iv E, .slice Al ls.length cl, .slice Aw ws.length c, .map (some w1.heap.size)]
    rwa [show (w1.alloc (.map #[] 0)).heap.size = w1.heap.size + 1 by simp] at this
  have hW0 := Lib.hid (whereI_nil w1 (.cells #[iv E, .slice Al ls.length cl, .slice Aw ws.length c, .map (some w1.heap.size)] 174))
  have hb02 := hb01.next hbc (Nat.le_refl _)
  have hge : w.heap.size ≤ w1.heap.size := hb01.size
  have hsz2 : ((w1.alloc (.map #[] 0)).alloc (.cells #[iv E, .slice Al ls.length cl, .slice Aw ws.length c, .map (some w1.heap.size)] 174)).heap.size = w1.heap.size + 2 := by simp
  generalize (w1.alloc (.map #[] 0)).alloc (.cells #[iv E, .slice Al ls.length cl, .slice Aw ws.length c, .map (some w1.heap.size)] 174) = w2 at *
  clear hba hbc hb01 hB1 c1 d1
  generalize w1.heap.size = gm at *
  go_loopw [6, 7, 20] (fun _ _ i wr => ∃ k : Nat, k ≤ ls.length ∧ i = iv k ∧ Hid (WhereI wr gm (gm + 2) ((froms ls).take k)) ∧ Hid (Fl.Only gm w2 wr)) (fun _ _ i _ => ls.length - (intOf i).toNat)
  case atStart =>
    have h0 : Hid (WhereI w2 gm (gm + 2) ((froms ls).take 0)) := hW0
    exact ⟨0, Nat.zero_le _, rfl, h0, Fl.Only.refl _ _⟩
  case round =>
    obtain ⟨k, hk, rfl, HW, HO⟩ := hrel
    have hgr : w2.heap.size ≤ wr.heap.size := HO.out.below.size
    have hBr : Blk wr (gm + 1) 174 #[iv E, .slice Al ls.length cl, .slice Aw ws.length c, .map (some gm)] := Fl.Blk.only hBd (by omega) HO.out
    have hbw : Below w.heap.size w wr := hb02.trans (HO.out.below.mono (by omega))
    by_cases hlt : k < ls.length
    · have hki : (k : Int) < (ls.length : Int) := by omega
      obtain ⟨b, off, x, rfl, hb, hx, hc0, hc1⟩ := (hl.below hbw).atL hlt
      have hxf := HFR.out k x hx
      have hfx : (froms ls)[k]? = some x.fr := by rw [List.getElem?_map, hx]; rfl
      have HFX := Lib.hid hfx
      obtain ⟨xf, xk⟩ := x
      dsimp only at hc0 hc1 hxf HFX
      clear hx hfx
      go_upto_region 8 with fail
      have hbx : Below wr.heap.size wr (wr.alloc (.cells #[iv xf, iv xk] 65)) := (Below.refl _ _).alloc (Nat.le_refl _) _
      have hBx : Blk (wr.alloc (.cells #[iv xf, iv xk] 65)) wr.heap.size 65 #[iv xf, iv xk] := Blk.new _ _ _
      have hsz : (wr.alloc (.cells #[iv xf, iv xk] 65)).heap.size = wr.heap.size + 1 := by simp
      have HOx : Hid (Fl.Only gm w2 (wr.alloc (.cells #[iv xf, iv xk] 65))) := Lib.hid (Fl.Only.grown HO.out (World.grownBy_alloc _ (.cells #[iv xf, iv xk] 65) none) (by simp) (by omega))
      have HWx : Hid (WhereI (wr.alloc (.cells #[iv xf, iv xk] 65)) gm (gm + 2) ((froms ls).take k)) := Lib.hid (HW.out.below hbx)
      have hBdx := hBr.under hbx
      clear hc0 hc1 hb HW HO hBr
      generalize wr.alloc (.cells #[iv xf, iv xk] 65) = wx at *
      generalize wr.heap.size = bl at *
      have hbd : Below wx.heap.size wx wx.drew := (Below.refl _ _).drew
      have hM2 := hBdx.under hbd
      have hX2 := hBx.under hbd
      obtain ⟨n, D, hn, hG2, hR⟩ := WhereI.below HWx.out hbd
      have HR := Lib.hid hR
      have HG2 := Lib.hid hG2
      have hnl : n < maxLen := by simp at hn; unfold maxLen; omega
      have hn' := Lib.hid hn
      have hS0 : wx.drew.cell? ⟨gm + 1, 3, none⟩ = some (.map (some gm)) := hM2.cell 3
      have hS1 : wx.drew.cell? ⟨bl, 0, none⟩ = some (iv xf) := hX2.cell 0
      obtain ⟨v0, zs0, v2, zs2, hrun0, hrun2, L0, L2⟩ := lookI_both (.cells #[iv k] 3) HG2.out hnl hxf.1 hxf.2
      have hrun3 : (Instr.lookup 172 (.map (some gm)) (iv xf) false).run Tryz.prog (wx.alloc (.cells #[iv k] 3)).drew = .ok v2 (wx.alloc (.cells #[iv k] 3)).drew := hrun2
      have hxz : gm + 2 ≤ wx.heap.size := by omega
      have hbl : bl < wx.heap.size := by omega
      clear hR hG2 hn HWx hsz
      go_region_held3 (fun a => a.cell? ⟨gm + 1, 3, none⟩ = some (.map (some gm)) ∧ a.cell? ⟨bl, 0, none⟩ = some (iv xf)) (first | (exact ⟨hS0, hS1⟩) | (exact ⟨(Blk.alloc hM2 _).cell 3, (Blk.alloc hX2 _).cell 0⟩) | assumption)
        (first
          | (refine stepAppW rfl _ _ rfl (w := wx.drew) k (by omega) rfl L0.own (by have := hn'.out; have := L0.len; simp at *; omega) rfl rfl rfl (by simp; omega) ?_; intro v1 w3 hoi1 hgr1 hloc1; have hM3 := Fl.Blk.row (Blk.alloc hM2 _) L0.own hgr1 (by omega); have hX3 := rowT (Blk.alloc hX2 _) L0.own hgr1 (by decide); have hS3 : w3.cell? ⟨gm + 1, 3, none⟩ = some (.map (some gm)) ∧ w3.cell? ⟨bl, 0, none⟩ = some (iv xf) := ⟨hM3.cell 3, hX3.cell 0⟩; obtain ⟨w4, hrun4, hG4, hgr4⟩ := L0.back w3 v1 _ hgr1 hoi1 (by have := L0.len; simp; omega) hloc1; have hM4 := Fl.Blk.turned hM3 hgr4 (by omega); have hX4 := Fl.Blk.turned hX3 hgr4 (by omega); have hS4 : w4.cell? ⟨gm + 1, 3, none⟩ = some (.map (some gm)) ∧ w4.cell? ⟨bl, 0, none⟩ = some (iv xf) := ⟨hM4.cell 3, hX4.cell 0⟩; have LL := L0)
          | (refine stepAppW rfl _ _ rfl (w := wx.drew) k (by omega) rfl L2.own (by have := hn'.out; have := L2.len; simp at *; omega) rfl rfl rfl (by simp; omega) ?_; intro v1 w3 hoi1 hgr1 hloc1; have hM3 := Fl.Blk.row (Blk.alloc hM2 _) L2.own hgr1 (by omega); have hX3 := rowT (Blk.alloc hX2 _) L2.own hgr1 (by decide); have hS3 : w3.cell? ⟨gm + 1, 3, none⟩ = some (.map (some gm)) ∧ w3.cell? ⟨bl, 0, none⟩ = some (iv xf) := ⟨hM3.cell 3, hX3.cell 0⟩; obtain ⟨w4, hrun4, hG4, hgr4⟩ := L2.back w3 v1 _ hgr1 hoi1 (by have := L2.len; simp; omega) hloc1; have hM4 := Fl.Blk.turned hM3 hgr4 (by omega); have hX4 := Fl.Blk.turned hX3 hgr4 (by omega); have hS4 : w4.cell? ⟨gm + 1, 3, none⟩ = some (.map (some gm)) ∧ w4.cell? ⟨bl, 0, none⟩ = some (iv xf) := ⟨hM4.cell 3, hX4.cell 0⟩; have LL := L2))
      all_goals
        have hlk : ((froms ls).take k).length = k := by simp; omega
        have hW5 : Hid (WhereI w4 gm (gm + 2) ((froms ls).take (k + 1))) := Lib.hid (by
          rw [show (froms ls).take (k + 1) = (froms ls).take k ++ [xf] by rw [List.take_add_one, HFX.out]; rfl]
          exact whereI_snoc hlk hn'.out (groups_map HG2.out) HR.out hxf.1 hxf.2 LL.at_ LL.own hoi1 hG4)
        have hO5 : Hid (Fl.Only gm w2 w4) := Lib.hid (by
          refine Fl.Only.grown (Fl.Only.grown (Fl.Only.grown (Fl.Only.drew HOx.out) (World.grownBy_alloc _ (.cells #[iv k] 3) none) (by simp) (by omega)) hgr1 (fun j hj => .inl ?_) (by omega)) hgr4 (fun j hj => .inr (by simpa using hj.symm)) (by omega)
          have := (LL.own.1.lt j hj).1
          omega)
        clear hlk hoi1 hgr1 hloc1 hM3 hS3 hrun4 hG4 hgr4 hM4 hX4 hX3 hS4 LL L0 L2 hrun0 hrun2 hrun3 HG2 HR hn'
        go_wp2_with fail
        go_roundw
        case rel => exact ⟨k + 1, by omega, by go_num, hW5, hO5⟩
        case measure => simp [intOf]; omega
    · have hki : ¬ (k : Int) < (ls.length : Int) := by omega
      have hke : k = ls.length := by omega
      have hWb : WhereI wr gm (gm + 2) (froms ls) := by
        have := HW.out
        rw [hke, List.take_of_length_le (by simp)] at this
        exact this
      clear HW
      go_wp2_with fail
      go_ret2
      exact ⟨gm + 1, rfl, hbw, gm, gm + 2, hBr, hWb⟩
end Sk
end Go.Proofs.YtlpoiggdjggkiaaGreatDoor
end
section
namespace Go.Proofs.YtlpoiggdjggkiaaGreatDoor
namespace Sk
open Go.RowKit Go.Maps
set_option maxRecDepth 100000
def sLo (E : Int) (x : Weigh) : Int := (100 * max 0 (x.reads - E) + (100 + x.hi) - 1) / (100 + x.hi)
def sHi (E : Int) (x : Weigh) : Int := min 10000 (100 * (x.reads + E) / (100 + x.lo))
set_option maxHeartbeats 4000000 in
theorem skSays_spec (gd : Nat) (E : Int) (l : Value) (fr : List Int) (n : Nat) (Aw : Option Addr) (ws : List Weigh) (c k : Nat) (x : Weigh) (w : World) (hd : Desk w gd E l (.slice Aw ws.length c) fr) (hs : Sl weighE w Aw ws) (hx : ws[k]? = some x) (hok : WOk n x) (hE0 : 0 ≤ E) (hE1 : E ≤ 50) :
    Calls Tryz.prog 89 #[.pointer (some ⟨gd, 0, none⟩), iv k] w fun e w' => e = .returned (.agg #[iv (sLo E x), iv (sHi E x)]) ∧ Below w.heap.size w w' := by
  obtain ⟨gm, B, hB, _⟩ := hd
  obtain ⟨hkl, hx'⟩ := List.getElem?_eq_some_iff.1 hx
  have hki : (k : Int) < (ws.length : Int) := by omega
  obtain ⟨b, off, y, rfl, hb, hy, hc0, hc1, hc2, hc3⟩ := hs.atW hkl
  have hxy : y = x := by rw [hx] at hy; injection hy with hy; exact hy.symm
  subst hxy
  obtain ⟨h1, h2, h3, h4, h5⟩ := hok
  obtain ⟨x0, x1, x2, x3⟩ := y
  dsimp only at h1 h2 h3 h4 h5 hc0 hc1 hc2 hc3
  have n0 := hB.cell
  have n1 := hB.lt
  have e1 : IntKind.i64.wrap (100 + x3) = 100 + x3 := IntWalk.i64_in _ (by omega)
  have e2 : IntKind.i64.wrap (100 + x2) = 100 + x2 := IntWalk.i64_in _ (by omega)
  have e3 : IntKind.i64.wrap (x1 - E) = x1 - E := IntWalk.i64_in _ (by omega)
  have e4 : IntKind.i64.wrap (x1 + E) = x1 + E := IntWalk.i64_in _ (by omega)
  have e5 : IntKind.i64.wrap (100 * (x1 + E)) = 100 * (x1 + E) := IntWalk.i64_in _ (by omega)
  have e6 : IntKind.i64.wrap (100 * max 0 (x1 - E)) = 100 * max 0 (x1 - E) := IntWalk.i64_in _ (by omega)
  have e7 : IntKind.i64.wrap (100 * max 0 (x1 - E) + (100 + x3)) = 100 * max 0 (x1 - E) + (100 + x3) := IntWalk.i64_in _ (by omega)
  have e8 : IntKind.i64.wrap (100 * max 0 (x1 - E) + (100 + x3) - 1) = 100 * max 0 (x1 - E) + (100 + x3) - 1 := IntWalk.i64_in _ (by omega)
  have ez1 : ¬ (100 + x3 = 0) := by omega
  have ez2 : ¬ (100 + x2 = 0) := by omega
  have eg1 : (0 : Int) ≤ 100 * max 0 (x1 - E) + (100 + x3) - 1 := by omega
  have eg2 : (0 : Int) ≤ 100 * (x1 + E) := by omega
  have ed1 : (100 * max 0 (x1 - E) + (100 + x3) - 1).tdiv (100 + x3) = (100 * max 0 (x1 - E) + (100 + x3) - 1) / (100 + x3) := Int.tdiv_eq_ediv_of_nonneg eg1
  have ed2 : (100 * (x1 + E)).tdiv (100 + x2) = (100 * (x1 + E)) / (100 + x2) := Int.tdiv_eq_ediv_of_nonneg eg2
  have el1 : (100 * max 0 (x1 - E) + (100 + x3) - 1) / (100 + x3) ≤ 100 * max 0 (x1 - E) + (100 + x3) - 1 := Int.ediv_le_self _ eg1
  have el2 : (100 * (x1 + E)) / (100 + x2) ≤ 100 * (x1 + E) := Int.ediv_le_self _ eg2
  have en1 : 0 ≤ (100 * max 0 (x1 - E) + (100 + x3) - 1) / (100 + x3) := Int.ediv_nonneg eg1 (by omega)
  have en2 : 0 ≤ (100 * (x1 + E)) / (100 + x2) := Int.ediv_nonneg eg2 (by omega)
  have ew1 : IntKind.i64.wrap ((100 * max 0 (x1 - E) + (100 + x3) - 1) / (100 + x3)) = (100 * max 0 (x1 - E) + (100 + x3) - 1) / (100 + x3) := IntWalk.i64_in _ (by omega)
  have ew2 : IntKind.i64.wrap ((100 * (x1 + E)) / (100 + x2)) = (100 * (x1 + E)) / (100 + x2) := IntWalk.i64_in _ (by omega)
  clear el1 el2 en1 en2
  go_enter Tryz.func89, Tryz.ntmps89
  go_wp2_with fail
  have hbx : Below w.heap.size w ((w.alloc (.cells #[iv 0, iv 0] 37)).alloc (.cells #[iv x0, iv x1, iv x2, iv x3] 39)) := ((Below.refl _ _).alloc (Nat.le_refl _) _).alloc (by simp) _
  have hS0 : Blk ((w.alloc (.cells #[iv 0, iv 0] 37)).alloc (.cells #[iv x0, iv x1, iv x2, iv x3] 39)) w.heap.size 37 #[iv 0, iv 0] := (Blk.new w _ _).under ((Below.refl _ _).alloc (by simp) _)
  have hW0 : Blk ((w.alloc (.cells #[iv 0, iv 0] 37)).alloc (.cells #[iv x0, iv x1, iv x2, iv x3] 39)) (w.heap.size + 1) 39 #[iv x0, iv x1, iv x2, iv x3] := by
    have := Blk.new (w.alloc (.cells #[iv 0, iv 0] 37)) 39 #[iv x0, iv x1, iv x2, iv x3]
    rwa [show (w.alloc (.cells #[iv 0, iv 0] 37)).heap.size = w.heap.size + 1 by simp] at this
  have hB0 := hB.under hbx
  generalize (w.alloc (.cells #[iv 0, iv 0] 37)).alloc (.cells #[iv x0, iv x1, iv x2, iv x3] 39) = w2 at *
  have m0 := hW0.cell
  have m1 := hB0.cell
  have m2 := hW0.lt
  have m3 := hB0.lt
  clear n0 hc0 hc1 hc2 hc3 hb hy hs hx hx'
  go_quiet (fail)
  go_wp2_with fail
  have hbn : Below w.heap.size w (w2.drewN nq) := ⟨hbx.os, hbx.tape, hbx.output, hbx.size, hbx.block⟩
  have hSn : Blk (w2.drewN nq) w.heap.size 37 #[iv 0, iv 0] := hS0
  have hWn : Blk (w2.drewN nq) (w.heap.size + 1) 39 #[iv x0, iv x1, iv x2, iv x3] := hW0
  have hDn : Blk (w2.drewN nq) gd 174 #[iv E, l, .slice (some ⟨b, off, none⟩) ws.length c, .map (some gm)] := hB0
  generalize w2.drewN nq = w3 at *
  clear m0 m1 m2 m3 hS0 hW0 hB0 hbx e1 e2
  have hszn : w.heap.size ≤ w3.heap.size := hbn.size
  have HFF : Hid (∀ a : World, Below w3.heap.size w3 a → Below w.heap.size w a ∧ a.cell? ⟨w.heap.size + 1, 1, none⟩ = some (iv x1) ∧ a.cell? ⟨gd, 0, none⟩ = some (iv E)) := fun a h => ⟨hbn.next h (Nat.le_refl _), (hWn.under h).cell 1, (hDn.under h).cell 0⟩
  have HFS : Hid (∀ (a : World) (u v : Value), Below w3.heap.size w3 a → Below w.heap.size w ((a.setCell ⟨w.heap.size, 0, none⟩ u).setCell ⟨w.heap.size, 1, none⟩ v) ∧ ((a.setCell ⟨w.heap.size, 0, none⟩ u).setCell ⟨w.heap.size, 1, none⟩ v).cell? ⟨w.heap.size + 1, 1, none⟩ = some (iv x1) ∧ ((a.setCell ⟨w.heap.size, 0, none⟩ u).setCell ⟨w.heap.size, 1, none⟩ v).cell? ⟨gd, 0, none⟩ = some (iv E)) := fun a u v h => by
    have e1 : ((a.setCell ⟨w.heap.size, 0, none⟩ u).setCell ⟨w.heap.size, 1, none⟩ v).heap[w.heap.size + 1]? = a.heap[w.heap.size + 1]? := by rw [Below.heap_setCell _ _ _ _ (by simp), Below.heap_setCell _ _ _ _ (by simp)]
    have e2 : ((a.setCell ⟨w.heap.size, 0, none⟩ u).setCell ⟨w.heap.size, 1, none⟩ v).heap[gd]? = a.heap[gd]? := by rw [Below.heap_setCell _ _ _ _ (by simp; omega), Below.heap_setCell _ _ _ _ (by simp; omega)]
    refine ⟨((hbn.next h (Nat.le_refl _)).setCell (Nat.le_refl _) _).setCell (Nat.le_refl _) _, ?_, ?_⟩
    · rw [World.cell?_of_block e1]; exact (hWn.under h).cell 1
    · rw [World.cell?_of_block e2]; exact (hDn.under h).cell 0
  have HSn := Lib.hid hSn
  clear hSn
  have HK0 := Lib.hid (HFF.out w3.drew (Below.refl _ w3).drew)
  have HLE : Hid (∀ (m : Int), Calls Tryz.prog 90 #[iv 10000, .slice (some ⟨w3.heap.size, 0, none⟩) 1 1] (w3.alloc (.cells #[iv m] 3)).drew fun e w' => e = .returned (iv (min 10000 m)) ∧ Below w3.heap.size w3 w') := fun m =>
    (least_one w3.heap.size m 10000 _ (by exact Sl.fresh intE w3 3 #[iv m] [m] rfl (by simp [maxLen]))).mono fun e w' h => ⟨h.1, h.2 ▸ ((Below.refl _ w3).alloc (Nat.le_refl _) _).drew⟩
  go_region_held3 (fun a => Below w.heap.size w a ∧ a.cell? ⟨w.heap.size + 1, 1, none⟩ = some (iv x1) ∧ a.cell? ⟨gd, 0, none⟩ = some (iv E))
    (first | assumption | exact HK0.out | exact HF4 | exact HFS.out _ _ _ HB4.out | exact HFF.out _ ((Below.refl _ w3).alloc (Nat.le_refl _) _).drew | exact HFF.out _ ((Below.refl _ w3).drew.alloc (Nat.le_refl _) _))
    ((go_at_call 90; refine (HLE.out _).mono ?_; rintro e w4 ⟨rfl, hb4⟩; have HB4 := Lib.hid hb4; have HF4 := HFF.out _ hb4; have hbS := HSn.out.under hb4; have HBS := Lib.hid hbS; obtain ⟨n0, n1, n2, n3, n4, n5⟩ := hbS.facts; clear hbS hb4))
  all_goals
    have HBZ := Lib.hid ((HBS.out.set_ 0 (iv ((100 * max 0 (x1 - E) + (100 + x3) - 1) / (100 + x3)))).set_ 1 (iv (min 10000 (100 * (x1 + E) / (100 + x2)))))
    have HBY := HFS.out w4 (iv ((100 * max 0 (x1 - E) + (100 + x3) - 1) / (100 + x3))) (iv (min 10000 (100 * (x1 + E) / (100 + x2)))) HB4.out
    go_wp2_with fail
    exact bodyPost_ret (results_cell_row (P := Tryz.prog) (fn := Tryz.f89) (p := 4) (ty := 37) (by kernel_rfl) _ _ w.heap.size 37 _ (0, 0) _ (by rfl) HBZ.out Tryz.underlying37 (by rfl) (by kernel_rfl)) rfl ⟨rfl, HBY.1⟩
end Sk
end Go.Proofs.YtlpoiggdjggkiaaGreatDoor
end
section
namespace Go.Proofs.YtlpoiggdjggkiaaGreatDoor
open Go.RowKit
/-- Which of the operations (from number k on) is the last one that writes slot t. -/
def lastW : List Oper → Nat → Nat → Option Nat
  | [], _, _ => none
  | o :: l, k, t => match lastW l (k + 1) t with
    | some j => some j
    | none => match o.dst with
      | some d => if d == t then some k else none
      | none => none
theorem frameF_look (v : Nat → Value) (t : Nat) : ∀ (l : List Oper) (k : Nat) (a : Act), t < a.tmps.size → (frameF l k v a).tmps[t]? = match lastW l k t with | some j => some (v j) | none => a.tmps[t]? := by
  intro l
  induction l with
  | nil => intro k a _; rfl
  | cons o l ih =>
    intro k a h
    have hp : (a.put o.dst (v k)).tmps.size = a.tmps.size := by unfold Act.put; split <;> simp
    rw [frameF, ih _ _ (by rw [hp]; exact h), lastW]
    cases hl : lastW l (k + 1) t with
    | some j => rfl
    | none =>
      simp only
      cases hd : o.dst with
      | none => rfl
      | some d =>
        simp only [Act.put]
        by_cases e : d = t
        · subst e
          simp [h]
        · have : (d == t) = false := by simpa using e
          rw [this]
          simp [Array.getElem?_setIfInBounds, e]
/-- A step, by what the operands read (ρ). -/
structure StepE (P : Program) (o : Oper) (ρ : Operand → Value) (b : Bool) (w : World) (K : Value → World → Prop) : Prop where
  out : if b = true then GivesF P ((execOp ρ o).run P w) K else K undef w
section
variable {P : Program} {ops : Array Oper} {o : Oper} {a : Act} {w : World} {K : Value → World → Prop} {ρ : Operand → Value} {l : List Oper} {v : Nat → Value} {t j : Nat} {u : Value}
theorem stepR (h : ∀ ρ, a.eval = ρ → (∀ c, ρ (.const c) = c) → (∀ f, ρ (.func f) = .func (.func f) #[] #[]) → (∀ g, ρ (.global g) = .pointer (some ⟨g, 0, none⟩)) → StepE P o ρ (Region.wanted o (yielded ops a.tmps)) w K) : StepF P ops o a w K :=
  ⟨(h a.eval rfl (fun _ => rfl) (fun _ => rfl) (fun _ => rfl)).out⟩
theorem rho_at (hρ : (frameF l 0 v a).eval = ρ) (hs : Nat.blt t a.tmps.toList.length = true) (hl : lastW l 0 t = some j) (h : v j = u) : ρ (.tmp t) = u := by
  have hs' : t < a.tmps.size := by rw [Nat.blt_eq] at hs; simpa using hs
  have := frameF_look v t l 0 a hs'
  rw [hl] at this
  rw [← hρ, ← h]
  simp only [Act.eval, Array.getD_eq_getD_getElem?, this, Option.getD_some]
theorem rho_old (hρ : (frameF l 0 v a).eval = ρ) (hl : lastW l 0 t = none) (h : a.tmps.toList[t]? = some u) : ρ (.tmp t) = u := by
  have hs' : t < a.tmps.size := by
    have := (List.getElem?_eq_some_iff.1 h).1
    simpa using this
  have := frameF_look v t l 0 a hs'
  rw [hl] at this
  rw [← hρ]
  simp only [Act.eval, Array.getD_eq_getD_getElem?, this]
  rw [← Array.getElem?_toList, h]
  rfl
theorem wanted_none {f : Nat → Option Bool} (hg : o.guard = none) : Region.wanted o f = true := by simp [Region.wanted, hg]
theorem stepE_val {b : Bool} (hw : b = true) (hr : (execOp ρ o).run P w = .ok (.value u) w) (hK : K u w) : StepE P o ρ b w K := ⟨by rw [if_pos hw, hr]; exact hK⟩
theorem stepE_new {b : Bool} {w' : World} (hw : b = true) (hr : (execOp ρ o).run P w = .ok (.value u) w') (hK : K u w') : StepE P o ρ b w K := ⟨by rw [if_pos hw, hr]; exact hK⟩
theorem stepE_call {b : Bool} {f : FuncId} {args : Array Value} {post : Ending → World → Prop} (hw : b = true) (hr : (execOp ρ o).run P w = .ok (.enter f args) w) (hc : Calls P f args w post)
    (hK : ∀ e w', post e w' → ∃ u, e = .returned u ∧ K u w') : StepE P o ρ b w K := ⟨by rw [if_pos hw, hr]; exact Calls.mono (P := P) hc hK⟩
/-- A step of a region told by specs, in one row: the usual proofs of its parts are the defaults. -/
theorem fvr {a₀ : Act} {R : Nat → World → Prop} {S : World → World → Prop} {sp : Nat → Spec} {i : Nat}
    (h : ∀ {v : Nat → Value} {n : Nat} {ρ : Operand → Value} w, R n w → Known ops sp i v w → (frameF (ops.toList.take i) 0 v a₀).eval = ρ → ((∀ c, ρ (.const c) = c) ∧ (∀ f, ρ (.func f) = .func (.func f) #[] #[]) ∧ ∀ g, ρ (.global g) = .pointer (some ⟨g, 0, none⟩)) →
      StepE P o ρ (Region.wanted o (yielded ops (frameF (ops.toList.take i) 0 v a₀).tmps)) w fun u w' => sp i v u w' ∧ S w w' ∧ R (n + 1) w')
    (hs : ∀ v u w w', sp i v u w → S w w' → sp i v u w' := by exact fun _ _ _ _ h _ => h)
    (hc : ∀ v v' u w, (∀ j, ((masks ops.toList).getD i 0).testBit j = true → v j = v' j) → sp i v u w → sp i v' u w := by exact fun _ _ _ _ _ h => h) : FreeOp P ops a₀ R S sp i o :=
  ⟨hc, hs, fun v n w _ h2 h3 => stepR fun ρ r k1 k2 k3 => h w h2 h3 r ⟨k1, k2, k3⟩⟩
/-- The like, with how many operations are done. -/
theorem fvn {a₀ : Act} {R : Nat → World → Prop} {S : World → World → Prop} {sp : Nat → Spec} {i : Nat}
    (h : ∀ {v : Nat → Value} {n : Nat} {ρ : Operand → Value} w, n < ops.size → R n w → Known ops sp i v w → (frameF (ops.toList.take i) 0 v a₀).eval = ρ → ((∀ c, ρ (.const c) = c) ∧ (∀ f, ρ (.func f) = .func (.func f) #[] #[]) ∧ ∀ g, ρ (.global g) = .pointer (some ⟨g, 0, none⟩)) →
      StepE P o ρ (Region.wanted o (yielded ops (frameF (ops.toList.take i) 0 v a₀).tmps)) w fun u w' => sp i v u w' ∧ S w w' ∧ R (n + 1) w')
    (hs : ∀ v u w w', sp i v u w → S w w' → sp i v u w' := by exact fun _ _ _ _ h _ => h)
    (hc : ∀ v v' u w, (∀ j, ((masks ops.toList).getD i 0).testBit j = true → v j = v' j) → sp i v u w → sp i v' u w := by exact fun _ _ _ _ _ h => h) : FreeOp P ops a₀ R S sp i o :=
  ⟨hc, hs, fun v n w h1 h2 h3 => stepR fun ρ r k1 k2 k3 => h w h1 h2 h3 r ⟨k1, k2, k3⟩⟩
theorem rho (hρ : (frameF l 0 v a).eval = ρ) (t : Nat) {j : Nat} {u : Value} (h : v j = u) (hl : lastW l 0 t = some j := by kernel_rfl) (hs : Nat.blt t a.tmps.toList.length = true := by kernel_rfl) : ρ (.tmp t) = u := rho_at hρ hs hl h
theorem rho0 (hρ : (frameF l 0 v a).eval = ρ) (t : Nat) {u : Value} (h : a.tmps.toList[t]? = some u := by exact rfl) (hl : lastW l 0 t = none := by kernel_rfl) : ρ (.tmp t) = u := rho_old hρ hl h
theorem ev {b : Bool} {u : Value} (hK : K u w) (hw : b = true := by exact wanted_none rfl) (hr : (execOp ρ o).run P w = .ok (.value u) w := by go_simp <;> omega) : StepE P o ρ b w K := stepE_val hw hr hK
theorem ev0 {b : Bool} {u : Value} (hw : b = true := by exact wanted_none rfl) (hK : K u w := by exact ⟨rfl, Below.refl _ _, hR⟩) (hr : (execOp ρ o).run P w = .ok (.value u) w := by go_simp <;> omega) : StepE P o ρ b w K := stepE_val hw hr hK
theorem ec {b : Bool} {f : FuncId} {args : Array Value} {post : Ending → World → Prop} (hw : b = true := by exact wanted_none rfl)
    (hr : (execOp ρ o).run P w = .ok (.enter f args) w := by go_simp) (hc : Calls P f args w post)
    (hK : ∀ e w', post e w' → ∃ u, e = .returned u ∧ K u w' := by (rintro e x' ⟨rfl, hb⟩; exact ⟨_, rfl, rfl, hb, hR.next hb (Nat.le_refl _)⟩)) : StepE P o ρ b w K := stepE_call hw hr hc hK
theorem wfl {Q : Exit → Act → World → Prop} {id : Nat} (m : Nat) (R : Nat → World → Prop) (S : World → World → Prop) (sps : List Spec)
    (hR : R 0 w.drew) (hop : HopL P l.toArray a R S (fun i => sps.getD i fun _ _ _ => True) 0 (l.take m))
    (hend : ∀ v n w, n ≤ l.length → R n w → (∀ j, j < m → (sps.getD j fun _ _ _ => True) v (v j) w) → wpList P l.toArray Q (l.drop m) (frameF (l.take m) 0 v a) w)
    (hmx : P.follows .mixedOrders = true := by kernel_rfl) (h : drawOk l.toArray = true := by kernel_rfl) (ht : tailOk l.toArray m = true := by kernel_rfl) (hm : m ≤ l.length := by decide) : (Code.region id l.toArray true).wp P Q a w :=
  wp_free_lit hmx m h ht hm R S sps hR hop hend
end
theorem below_q (w : World) (n : Nat) : Below w.heap.size w (w.drewN n) := have h := Below.refl w.heap.size w; ⟨h.os, h.tape, h.output, h.size, h.block⟩
abbrev eqv (c : Value) : Spec := fun _ u _ => u = c
end Go.Proofs.YtlpoiggdjggkiaaGreatDoor
end
section
namespace Go.Proofs.YtlpoiggdjggkiaaGreatDoor
namespace Sk
open Go.RowKit Go.Maps
set_option maxRecDepth 100000
def bA (b : B) : Array Value := (b.flatMap fun x => [iv x.1, iv x.2]).toArray
theorem bA_size (b : B) : (bA b).size = b.length * 2 := by
  unfold bA
  induction b with
  | nil => rfl
  | cons x b ih => simp only [List.flatMap_cons, List.size_toArray, List.length_append, List.length_cons, List.length_nil] at *; omega
theorem bA_get (b : B) : ∀ (i : Nat), i < b.length → (bA b)[i * 2]? = some (iv (lo b i)) ∧ (bA b)[i * 2 + 1]? = some (iv (hi b i)) := by
  unfold bA
  induction b with
  | nil => intro i h; simp at h
  | cons x b ih =>
    intro i h
    cases i with
    | zero => exact ⟨rfl, rfl⟩
    | succ i =>
      have := ih i (by simpa using h)
      simp only [List.flatMap_cons, List.getElem?_toArray, List.cons_append, List.nil_append] at *
      rw [show (i + 1) * 2 = i * 2 + 1 + 1 by omega]
      simp only [List.getElem?_cons_succ]
      exact this
theorem bA_set (b : B) (x y : Int) : ∀ (i : Nat), i < b.length → ((bA b).setIfInBounds (i * 2) (iv x)).setIfInBounds (i * 2 + 1) (iv y) = bA (b.set i (x, y)) := by
  unfold bA
  induction b with
  | nil => intro i h; simp at h
  | cons z b ih =>
    intro i h
    cases i with
    | zero => simp
    | succ i =>
      have := ih i (by simpa using h)
      simp only [List.flatMap_cons, List.setIfInBounds_toArray, List.cons_append, List.nil_append, List.set_cons_succ] at *
      rw [show (i + 1) * 2 = i * 2 + 1 + 1 by omega]
      simp only [List.set_cons_succ]
      injection this with this
      rw [this]
theorem bA_one (b : B) : (bA b).all (·.oneCell') = true := by
  rw [← Array.all_toList]
  unfold bA
  rw [List.all_eq_true]
  intro v hv
  obtain ⟨x, _, h⟩ := List.mem_flatMap.1 hv
  simp only [List.mem_cons, List.not_mem_nil, or_false] at h
  rcases h with rfl | rfl <;> rfl
theorem bA_info (b : B) (h : b.length = 12) : ((Tryz.prog).info? 110).map (·.size) = some (bA b).size := by rw [bA_size, h]; kernel_rfl
theorem bA_zero : #[iv 0, iv 0, iv 0, iv 0, iv 0, iv 0, iv 0, iv 0, iv 0, iv 0, iv 0, iv 0, iv 0, iv 0, iv 0, iv 0, iv 0, iv 0, iv 0, iv 0, iv 0, iv 0, iv 0, iv 0] = bA (List.replicate 12 (0, 0)) := rfl
theorem fieldsSpan : ((Tryz.prog).fieldsOf 37).toList.map (fun f => (f.name, f.type, f.offset)) = [("Lo", 3, 0), ("Hi", 3, 1)] := by kernel_rfl
theorem eqSpan (n : Nat) (a b c d : Int) (w : World) : (Op.equalIn (n + 2) 37 (.agg #[iv a, iv b]) (.agg #[iv c, iv d])).run Tryz.prog w = .ok (a == c && b == d) w := by
  have hh := run_equalIn_agg (P := Tryz.prog) w (n + 1) 37 #[iv a, iv b] #[iv c, iv d] (by kernel_rfl) (by kernel_rfl)
  rw [hh]
  have h3 : ∀ (x y : Int) (d : Nat), (Op.equalIn (d + 1) 3 (iv x) (iv y)).run Tryz.prog w = .ok (x == y) w := fun x y d => run_equalIn_int w d _ _ _ _ _ Tryz.underlying3
  have hf := fieldsSpan
  have hlen : ((Tryz.prog).fieldsOf 37).toList.length = 2 := by have := congrArg List.length hf; simpa using this
  obtain ⟨f0, f1, hl⟩ : ∃ a b, ((Tryz.prog).fieldsOf 37).toList = [a, b] := by
    match ((Tryz.prog).fieldsOf 37).toList, hlen with
    | [a, b], _ => exact ⟨a, b, rfl⟩
  rw [hl] at hf ⊢
  simp only [List.map_cons, List.map_nil, List.cons.injEq, Prod.mk.injEq, and_true] at hf
  obtain ⟨⟨n0, t0, o0⟩, ⟨n1, t1, o1⟩⟩ := hf
  have hp0 : ∀ a b : Int, (part 3 #[iv a, iv b] 0).run Tryz.prog w = .ok (iv a) w := fun _ _ => by kernel_rfl
  have hp1 : ∀ a b : Int, (part 3 #[iv a, iv b] 1).run Tryz.prog w = .ok (iv b) w := fun _ _ => by kernel_rfl
  simp only [Op.eqFields, n0, n1, t0, t1, o0, o1]
  by_cases h1 : a = c <;> by_cases h2 : b = d <;>
    simp [hp0, hp1, h3, Result.andThen, h1, h2, Sem.run_bind]
theorem part_span (cs : Array Value) (i : Nat) (a b : Int) (w : World) (h : cs.extract i (i + 2) = #[iv a, iv b]) : (part 37 cs i).run Tryz.prog w = .ok (.agg #[iv a, iv b]) w := by
  have h1 : (isAgg 37).run Tryz.prog w = .ok true w := by kernel_rfl
  have h2 : (sizeOf 37).run Tryz.prog w = .ok 2 w := by kernel_rfl
  unfold part
  simp [Sem.run_bind, h1, h2, h]
theorem bA_extract (b : B) : ∀ (i : Nat), i < b.length → (bA b).extract (i * 2) (i * 2 + 2) = #[iv (lo b i), iv (hi b i)] := by
  unfold bA
  induction b with
  | nil => intro i h; simp at h
  | cons x b ih =>
    intro i h
    cases i with
    | zero => simp [lo, hi]
    | succ i =>
      have := ih i (by simpa using h)
      simp only [List.flatMap_cons, List.extract_toArray, List.cons_append, List.nil_append, List.extract_eq_take_drop] at *
      rw [show (i + 1) * 2 = i * 2 + 1 + 1 by omega]
      simp only [List.drop_succ_cons]
      rw [show i * 2 + 1 + 1 + 2 - (i * 2 + 1 + 1) = i * 2 + 2 - i * 2 by omega]
      exact this
/-- Bounds are compared. -/
theorem bnd_eq (b b' : B) (h : b.length = 12) (h' : b'.length = 12) (w : World) : (Op.equalIn 10000 110 (.agg (bA b)) (.agg (bA b'))).run Tryz.prog w = .ok (decide (b = b')) w := by
  obtain ⟨i, hi'⟩ : ∃ i, (Tryz.prog).info? 37 = some i := ⟨_, rfl⟩
  rw [run_equalIn_array w 9999 _ _ Tryz.underlying110 hi', show (Tryz.prog).cellsOf 37 = 2 by kernel_rfl]
  have key : ∀ is : List Nat, (∀ i ∈ is, i < 12) → (Op.eqItems 9999 37 2 (bA b) (bA b') is).run Tryz.prog w = .ok (is.all fun i => lo b i == lo b' i && hi b i == hi b' i) w := by
    intro is
    induction is with
    | nil => intro _; rfl
    | cons i is ih =>
      intro hi2
      have hi3 := hi2 i (by simp)
      simp only [Op.eqItems, Sem.run_bind, part_span _ _ _ _ w (bA_extract b i (by omega)), part_span _ _ _ _ w (bA_extract b' i (by omega)), Result.andThen_ok, eqSpan 9997]
      rw [List.all_cons]
      cases (lo b i == lo b' i && hi b i == hi b' i) with
      | false => rfl
      | true => simpa using ih fun j hj => hi2 j (by simp [hj])
  rw [key _ fun i hi2 => by simpa using hi2]
  congr 1
  rw [Bool.eq_iff_iff, List.all_eq_true, decide_eq_true_iff]
  constructor
  · intro hh
    apply List.ext_getElem (by omega)
    intro i h1 h2
    have := hh i (by simp; omega)
    simp only [Bool.and_eq_true, beq_iff_eq, lo, hi, List.getD_eq_getElem?_getD, List.getElem?_eq_getElem h1, List.getElem?_eq_getElem h2, Option.getD_some] at this
    exact Prod.ext this.1 this.2
  · rintro rfl i _
    simp
attribute [irreducible] bA
theorem least_any (g : Nat) (m n : Int) (w : World) (hs : Sl intE w (some ⟨g, 0, none⟩) [m]) : Calls Tryz.prog 90 #[iv n, .slice (some ⟨g, 0, none⟩) 1 1] w fun e w' => e = .returned (iv (min n m)) ∧ Below w.heap.size w w' :=
  (least_one g m n w hs).mono fun e w' h => ⟨h.1, h.2 ▸ Below.refl _ _⟩
set_option maxHeartbeats 2000000 in
theorem narrow_spec (gb i : Nat) (l h : Int) (b : B) (w : World) (hb : Blk w gb 110 (bA b)) (hlen : b.length = 12) (hi12 : i < 12) :
    Calls Tryz.prog 106 #[iv i, iv l, iv h, .pointer (some ⟨gb, 0, none⟩)] w fun e w' => e = .returned (.tuple #[]) ∧ Blk w' gb 110 (bA (nar b i l h)) ∧ Fl.Only gb w w' := by
  obtain ⟨L, hL⟩ : ∃ L, L = lo b i := ⟨_, rfl⟩
  obtain ⟨H, hH⟩ : ∃ H, H = hi b i := ⟨_, rfl⟩
  have hg := bA_get b i (by omega)
  rw [← hL, ← hH] at hg
  have hii : (i : Int) < 12 := by omega
  have HC : Hid (∀ x, Below w.heap.size w x → x.cell? ⟨gb, i * 2, none⟩ = some (iv L) ∧ x.cell? ⟨gb, i * 2 + 1, none⟩ = some (iv H) ∧ gb < x.heap.size) := Lib.hid fun x hx => ⟨((hb.under hx).cell _).trans hg.1, ((hb.under hx).cell _).trans hg.2, (hb.under hx).lt⟩
  have HB := Lib.hid hb
  have HN : Hid (nar b i l h = b.set i (max L l, min H h)) := Lib.hid (by rw [hL, hH]; rfl)
  have HL : Hid (L = lo b i ∧ H = hi b i) := Lib.hid ⟨hL, hH⟩
  have hgl := hb.lt
  clear hg hL hH hb
  go_enter Tryz.func106, Tryz.ntmps106
  go_upto_region 0 with fail
  refine wfl 15 (fun nR x => Below w.heap.size w x) (fun x x' => Below x.heap.size x x')
    [eqv (iv i),
     eqv (.pointer (some ⟨gb, i * 2, none⟩)),
     eqv (.pointer (some ⟨gb, i * 2, none⟩)),
     eqv (iv L),
     eqv (iv l),
     eqv (iv (max L l)),
     eqv (iv i),
     eqv (.pointer (some ⟨gb, i * 2, none⟩)),
     eqv (.pointer (some ⟨gb, i * 2 + 1, none⟩)),
     eqv (iv H),
     eqv (iv h),
     fun _ u x => ∃ g, u = .slice (some ⟨g, 0, none⟩) 1 1 ∧ Sl intE x (some ⟨g, 0, none⟩) [h],
     eqv (iv (min H h)),
     eqv (.agg #[iv (max L l), iv (min H h)]),
     fun _ u x => ∃ g, u = .pointer (some ⟨g, 0, none⟩) ∧ w.heap.size ≤ g ∧ Blk x g 37 #[iv 0, iv 0]]
    (Below.refl _ w).drew ?_ ?_
  · simp only [List.take_succ_cons, List.take_zero, HopL]
    repeat' apply And.intro
    · refine fvr fun x hR kk rr _ => ?_
      have := rho0 rr 0
      clear rr kk
      exact ev0
    · refine fvr fun x hR kk rr _ => ?_
      have := rho0 rr 3
      have := rho rr 8 (kk.at 0)
      clear rr kk
      obtain ⟨f0, f1, f2⟩ := HC.out x hR
      exact ev0
    · refine fvr fun x hR kk rr _ => ?_
      have := rho rr 9 (kk.at 1)
      clear rr kk
      exact ev0
    · refine fvr fun x hR kk rr _ => ?_
      have := rho rr 10 (kk.at 2)
      clear rr kk
      obtain ⟨f0, f1, f2⟩ := HC.out x hR
      exact ev0
    · refine fvr fun x hR kk rr _ => ?_
      have := rho0 rr 1
      clear rr kk
      exact ev0
    · refine fvr fun x hR kk rr _ => ?_
      have := rho rr 11 (kk.at 3)
      have := rho rr 12 (kk.at 4)
      clear rr kk
      exact ev0
    · refine fvr fun x hR kk rr _ => ?_
      have := rho0 rr 0
      clear rr kk
      exact ev0
    · refine fvr fun x hR kk rr _ => ?_
      have := rho0 rr 3
      have := rho rr 14 (kk.at 6)
      clear rr kk
      obtain ⟨f0, f1, f2⟩ := HC.out x hR
      exact ev0
    · refine fvr fun x hR kk rr _ => ?_
      have := rho rr 15 (kk.at 7)
      clear rr kk
      exact ev0
    · refine fvr fun x hR kk rr _ => ?_
      have := rho rr 16 (kk.at 8)
      clear rr kk
      obtain ⟨f0, f1, f2⟩ := HC.out x hR
      exact ev0
    · refine fvr fun x hR kk rr _ => ?_
      have := rho0 rr 2
      clear rr kk
      exact ev0
    · refine fvr (hs := fun _ _ _ _ h hS => (by obtain ⟨g19, e0, s19⟩ := h; exact ⟨g19, e0, s19.below hS⟩)) fun x hR kk rr _ => ?_
      have e18 := rho rr 18 (kk.at 10)
      clear rr kk
      exact stepE_new (u := .slice (some ⟨x.heap.size, 0, none⟩) 1 1) (w' := x.alloc (.cells #[iv h] 3)) (wanted_none rfl) (by go_simp) ⟨⟨x.heap.size, rfl, Sl.fresh intE x 3 #[iv h] [h] rfl (by simp [maxLen])⟩, (Below.refl _ _).alloc (Nat.le_refl _) _, hR.alloc hR.size _⟩
    · refine fvr fun x hR kk rr _ => ?_
      have := rho rr 17 (kk.at 9)
      obtain ⟨g19, h11, s19⟩ := kk.at 11
      have := rho rr 19 h11
      clear rr kk
      exact ec (hc := least_any g19 h H x s19)
    · refine fvr fun x hR kk rr _ => ?_
      have := rho rr 13 (kk.at 5)
      have := rho rr 20 (kk.at 12)
      clear rr kk
      exact ev0
    · refine fvr (hs := fun _ _ _ _ h hS => (by obtain ⟨g7, e0, k7, b7⟩ := h; exact ⟨g7, e0, k7, b7.below hS b7.lt⟩)) fun x hR kk rr _ => ?_
      clear rr kk
      exact stepE_new (u := .pointer (some ⟨x.heap.size, 0, none⟩)) (w' := x.alloc (.cells #[iv 0, iv 0] 37)) (wanted_none rfl) (by go_simp) ⟨⟨x.heap.size, rfl, hR.size, Blk.new _ _ _⟩, (Below.refl _ _).alloc (Nat.le_refl _) _, hR.alloc hR.size _⟩
    · trivial
  · intro v nR x1 hnR hR hall
    have h13 : v 13 = .agg #[iv (max L l), iv (min H h)] := hall 13 (by decide)
    obtain ⟨g7, h14, k7, b7⟩ := hall 14 (by decide)
    clear hall hnR
    simp only [List.drop_succ_cons, List.drop_zero, List.take_succ_cons, List.take_zero, frameF, Act.put, List.setIfInBounds_toArray, List.set_cons_zero, List.set_cons_succ, Nat.zero_add, Nat.reduceAdd, h13, h14]
    have n0 := b7.cell
    have n1 := b7.frozen
    have n2 := b7.lt
    have B7 : Blk ((x1.setCell ⟨g7, 0, none⟩ (iv (max L l))).setCell ⟨g7, 1, none⟩ (iv (min H h))) g7 37 #[iv (max L l), iv (min H h)] := by simpa using (b7.set_ 0 (iv (max L l))).set_ 1 (iv (min H h))
    have hR2 : Below w.heap.size w ((x1.setCell ⟨g7, 0, none⟩ (iv (max L l))).setCell ⟨g7, 1, none⟩ (iv (min H h))) := (hR.setCell (by simpa using k7) _).setCell (by simpa using k7) _
    go_upto_region 1 with fail
    generalize (x1.setCell ⟨g7, 0, none⟩ (iv (max L l))).setCell ⟨g7, 1, none⟩ (iv (min H h)) = x2 at *
    clear n0 n1 n2 b7 hR
    have n0 := B7.cell
    have n2 := B7.lt
    obtain ⟨f0, f1, f2⟩ := HC.out x2 hR2
    have heq := fun W => eqSpan 9998 (max L l) (min H h) L H W
    obtain ⟨q, hq⟩ : ∃ q, (max L l == L && min H h == H) = q := ⟨_, rfl⟩
    rw [hq] at heq
    have HQ := Lib.hid hq
    clear hq
    cases q
    · go_quiet (fail)
      have hRq : Below w.heap.size w (x2.drewN nq) := hR2.next (below_q x2 nq) (Nat.le_refl _)
      have BQ := B7.under (below_q x2 nq)
      have Bb := HB.out.under hRq
      generalize x2.drewN nq = x3 at *
      clear n0 n2 f0 f1 f2
      have n0 := BQ.cell
      have n2 := BQ.lt
      have m0 := Bb.cell
      have m1 := Bb.frozen
      have m2 := Bb.lt
      have hsz : (bA b).size = 24 := by rw [bA_size, hlen]
      have hgi := bA_get b i (by omega)
      have c0 : x3.cell? ⟨gb, i * 2, none⟩ = some (iv (lo b i)) := (m0 _).trans hgi.1
      have c1 : x3.cell? ⟨gb, i * 2 + 1, none⟩ = some (iv (hi b i)) := (m0 _).trans hgi.2
      have HBb := Lib.hid Bb
      have HRq := Lib.hid hRq
      clear m0 hgi Bb hRq
      go_wp2_with fail
      go_end0
      refine ⟨rfl, ?_, ?_⟩
      · rw [HN.out, ← bA_set b _ _ i (by omega)]
        exact (HBb.out.set_ (i * 2) (iv (max L l))).set_ (i * 2 + 1) (iv (min H h))
      · exact ((Fl.Only.of_below HRq.out (by omega)).trans (Fl.Only.set_ gb (i * 2) x3 (iv (max L l)))).trans (Fl.Only.set_ gb (i * 2 + 1) _ (iv (min H h)))
    · go_quiet (fail)
      have hRq : Below w.heap.size w (x2.drewN nq) := hR2.next (below_q x2 nq) (Nat.le_refl _)
      have Bb := HB.out.under hRq
      generalize x2.drewN nq = x3 at *
      go_wp2_with fail
      go_end0
      have hq := HQ.out
      simp only [Bool.and_eq_true, beq_iff_eq] at hq
      have e : nar b i l h = b := by
        rw [HN.out, hq.1, hq.2, HL.out.1, HL.out.2]
        apply List.ext_getElem?
        intro k
        by_cases hk : k = i
        · subst hk
          rw [List.getElem?_set_self (by omega), List.getElem?_eq_getElem (by omega)]
          simp [lo, hi, List.getD_eq_getElem?_getD, List.getElem?_eq_getElem (show k < b.length by omega)]
        · rw [List.getElem?_set_ne (fun e => hk e.symm)]
      rw [e]
      exact ⟨rfl, Bb, Fl.Only.of_below hRq (by omega)⟩
end Sk
end Go.Proofs.YtlpoiggdjggkiaaGreatDoor
end
