/- TopBooked holds: weighings that two clerks book in their copies are joined, and bound the silk no wider; of the same lot, there is a conflict just if they book different lines. No condition. -/
import Derived.WalkKit
import Derived.WalkSpells
import Derived.WalkLawsBesides
import Derived.WalkSmall
import Derived.Lib.Hide
import Derived.Laws.OwnMore
import Derived.Laws.CopyOwn
import Derived.Deep.Draws
import Derived.Laws.AppendOwnNone
import Derived.Test.YtlpoiggdjggkiaaGreatDoorProg
import Derived.Outline
import Derived.BigQuiet
import Derived.Deep.QuietTactic
import Derived.Lib.OthersKept
import Derived.Laws.EntriesVeiled
import Derived.Shelf.Strings.Builder1
import Derived.Shelf.LaysM
import Derived.Shelf.Strconv.Itoa3
import Derived.Orders
import Derived.RegionTactic
import Derived.BigRegion
import Derived.Deep.DeepCutAuto
import Derived.Maps.OwnRows
import Derived.Maps.GroupsBeside
import Derived.Deep.RegionHeld3
import Derived.Lib.SliceRun
import Derived.RangeFuncNested
import Derived.RangeFuncBound
import Derived.RangeFuncCalls
import Derived.RangeFuncLeaves
import Derived.Shelf.Abstract
import Derived.Shelf.RegionOpen
import Derived.OwnWalkIn
import Derived.TacticsInMore
import Derived.LoopNIn
import Derived.LoopIn
import Derived.Sort.QuietIn
import Derived.Deep.Quiet
import Derived.Maps.AppendAt
import Derived.Test.YtlpoiggdjggkiaaGreatDoorCards
import Derived.Test.YtlpoiggdjggkiaaGreatDoorTie
import Derived.ProofKit
import Derived.Deep.DeepHandedRow
import Derived.Lib.LaidTab
import Derived.Stop.LaidErr
import Derived.ChangeSame
import Derived.RowKit3
import Derived.ReadAgain
import Derived.OpenShut
import Derived.ChangeSlices
import Derived.WalkMore
import Derived.Maps.Own
import Derived.Maps.OwnOps
import Derived.Maps.OwnSet
import Derived.Shelf.Spec.SlicesInsert
import Derived.Shelf.Spec.SlicesInsertGrow
import Derived.Shelf.Bits.Mul64
import Derived.Deep.RegionLaw
import Derived.ChangeKeysEq
import Derived.Lib.Atoi
import Derived.Lib.Fields
import Derived.Shelf.Strings.SplitShaped
import Derived.Shelf.Strconv.Atoi
import Derived.Lay
import Derived.MakeChecks
import Derived.Deep.DeepWitnessRowRef
import Derived.Test.YtlpoiggdjggkiaaGreatDoorTbp6
set_option linter.unusedVariables false
set_option linter.unusedSimpArgs false
section
namespace Go.Proofs.YtlpoiggdjggkiaaGreatDoor
namespace Bk
open Sk
def lotL : ByteArray := ⟨#[108, 111, 116]⟩
def lineL (x : Weigh) : List UInt8 := Lib.decDigits x.reads.toNat ++ 32 :: (Lib.decDigits x.lo.toNat ++ 32 :: Lib.decDigits x.hi.toNat)
/-- The line of a lot, or of a weighing. -/
def tl : Option Weigh → ByteArray
  | none => lotL
  | some x => File.ba (lineL x)
def of (ws : List Weigh) (i : Nat) : List Weigh := ws.filter fun x => decide (x.lot = (i : Int))
def seg (ws : List Weigh) (i k : Nat) : List (Option Weigh) := (List.range' i k).flatMap fun i => none :: (of ws i).map some
def bk (n : Nat) (ws : List Weigh) : List ByteArray := (seg ws 0 n).map tl
theorem of_snoc (ws : List Weigh) (x : Weigh) (i : Nat) : of (ws ++ [x]) i = of ws i ++ (if x.lot = (i : Int) then [x] else []) := by
  unfold of
  rw [List.filter_append]
  congr 1
  by_cases h : x.lot = (i : Int) <;> simp [h]
theorem seg_zero (ws : List Weigh) (i : Nat) : seg ws i 0 = [] := rfl
theorem seg_succ (ws : List Weigh) (i k : Nat) : seg ws i (k + 1) = (none :: (of ws i).map some) ++ seg ws (i + 1) k := by
  unfold seg
  rw [List.range'_succ, List.flatMap_cons]
theorem seg_add (ws : List Weigh) : ∀ (k i m : Nat), seg ws i (k + m) = seg ws i k ++ seg ws (i + k) m
  | 0, i, m => by rw [Nat.zero_add, seg_zero, List.nil_append, Nat.add_zero]
  | k + 1, i, m => by rw [show k + 1 + m = (k + m) + 1 by omega, seg_succ, seg_succ, seg_add ws k, List.append_assoc, show i + 1 + k = i + (k + 1) by omega]
theorem seg_other (ws : List Weigh) (x : Weigh) : ∀ (k i : Nat), (∀ j, i ≤ j → j < i + k → x.lot ≠ (j : Int)) → seg (ws ++ [x]) i k = seg ws i k
  | 0, _, _ => rfl
  | k + 1, i, h => by
    rw [seg_succ, seg_succ, of_snoc, if_neg (h i (Nat.le_refl _) (by omega)), List.append_nil, seg_other ws x k (i + 1) fun j h1 h2 => h j (by omega) (by omega)]
theorem seg_here (ws : List Weigh) (x : Weigh) (i k l : Nat) (h : x.lot = (l : Int)) (h1 : i ≤ l) (h2 : l < i + k) : seg (ws ++ [x]) i k = seg ws i (l + 1 - i) ++ some x :: seg ws (l + 1) (i + k - (l + 1)) := by
  have e : k = (l - i) + (1 + (i + k - (l + 1))) := by omega
  have e2 : l + 1 - i = (l - i) + 1 := by omega
  conv => lhs; rw [e]
  rw [e2, seg_add, seg_add, seg_add, seg_other ws x (l - i) i fun j _ _ => by omega, seg_other ws x _ (i + (l - i) + 1) fun j _ _ => by omega, show i + (l - i) = l by omega, seg_succ, seg_succ, seg_zero, seg_zero, of_snoc, if_pos h]
  simp
theorem dig {d : Nat} (h : d < 10) : 48 ≤ (UInt8.ofNat (48 + d)).toNat ∧ (UInt8.ofNat (48 + d)).toNat ≤ 57 := by
  rcases d with _ | _ | _ | _ | _ | _ | _ | _ | _ | _ | d
  all_goals first | exact ⟨by decide, by decide⟩ | omega
theorem dec_head (n : Nat) : ∃ b r, Lib.decDigits n = b :: r ∧ 48 ≤ b.toNat ∧ b.toNat ≤ 57 := by
  induction n using Nat.strongRecOn with
  | _ n ih =>
    unfold Lib.decDigits
    split
    · exact ⟨_, _, rfl, dig (by omega)⟩
    · obtain ⟨b, r, h1, h2⟩ := ih (n / 10) (by omega)
      rw [h1]
      exact ⟨b, _, rfl, h2⟩
theorem dec_all (n : Nat) : ∀ b ∈ Lib.decDigits n, 48 ≤ b.toNat ∧ b.toNat ≤ 57 := by
  induction n using Nat.strongRecOn with
  | _ n ih =>
    intro b hb
    unfold Lib.decDigits at hb
    split at hb
    · rw [List.mem_singleton] at hb
      rw [hb]
      exact dig (by omega)
    · rcases List.mem_append.1 hb with h | h
      · exact ih (n / 10) (by omega) b h
      · rw [List.mem_singleton] at h
        rw [h]
        exact dig (by omega)
theorem tl_ne (x : Weigh) : tl (some x) ≠ tl none := by
  obtain ⟨b, r, h1, h2, h3⟩ := dec_head x.reads.toNat
  intro h
  have h := congrArg (fun s : ByteArray => s.data.toList) h
  simp only [tl, File.ba, lotL, lineL, h1] at h
  have := (List.cons.inj h).1
  rw [this] at h3
  exact absurd h3 (by decide)
theorem tl_head (ws : List Weigh) (i k : Nat) (x : Weigh) : ((seg ws i k).map tl).head? ≠ some (tl (some x)) := by
  cases k with
  | zero => intro h; cases h
  | succ k =>
    rw [seg_succ]
    intro h
    exact tl_ne x (Option.some.inj h).symm
theorem seg_swap (ws : List Weigh) (x y : Weigh) (h : x.lot ≠ y.lot) : ∀ (k i : Nat), seg (ws ++ [x] ++ [y]) i k = seg (ws ++ [y] ++ [x]) i k
  | 0, _ => rfl
  | k + 1, i => by
    rw [seg_succ, seg_succ, seg_swap ws x y h k, of_snoc, of_snoc, of_snoc, of_snoc]
    congr 3
    by_cases h1 : x.lot = (i : Int)
    · rw [if_pos h1, if_neg (by omega)]; simp
    · rw [if_neg h1]; simp
/-- Two clerks book a weighing of the same lot. -/
theorem join_same (n : Nat) (ws : List Weigh) (x y : Weigh) (l : Nat) (hl : l < n) (hx : x.lot = (l : Int)) (hy : y.lot = (l : Int)) : (File.join (bk n ws) (bk n (ws ++ [x])) (bk n (ws ++ [y]))).2 = [] ↔ bk n (ws ++ [x]) = bk n (ws ++ [y]) := by
  unfold bk
  rw [seg_here ws x 0 n l hx (by omega) (by omega), seg_here ws y 0 n l hy (by omega) (by omega), show seg ws 0 n = seg ws 0 (l + 1 - 0) ++ seg ws (l + 1) (0 + n - (l + 1)) by
    have := seg_add ws (l + 1) 0 (n - (l + 1))
    rw [show l + 1 + (n - (l + 1)) = n by omega] at this
    rw [this]
    congr 1
    congr 1 <;> omega]
  simp only [List.map_append, List.map_cons]
  rw [File.join_putSame (tl_head _ _ _ _) (tl_head _ _ _ _)]
  by_cases e : tl (some x) = tl (some y)
  · rw [if_pos e, e]
    exact ⟨fun _ => rfl, fun _ => rfl⟩
  · rw [if_neg e]
    refine ⟨fun h => (by cases h), fun h => absurd ?_ e⟩
    have := List.append_cancel_left h
    exact (List.cons.inj this).1
theorem join_lt (n : Nat) (ws : List Weigh) (x y : Weigh) (l k : Nat) (hk : k < n) (hlk : l < k) (hx : x.lot = (l : Int)) (hy : y.lot = (k : Int)) : File.join (bk n ws) (bk n (ws ++ [x])) (bk n (ws ++ [y])) = (bk n (ws ++ [x] ++ [y]), []) := by
  have e1 : seg ws 0 n = seg ws 0 (l + 1) ++ (seg ws (l + 1) (k - l) ++ seg ws (k + 1) (n - (k + 1))) := by
    have h1 := seg_add ws (l + 1) 0 (n - (l + 1))
    have h2 := seg_add ws (k - l) (l + 1) (n - (k + 1))
    rw [show l + 1 + (n - (l + 1)) = n by omega] at h1
    rw [show k - l + (n - (k + 1)) = n - (l + 1) by omega] at h2
    rw [h1, Nat.zero_add, h2, show l + 1 + (k - l) = k + 1 by omega]
  have e2 : seg (ws ++ [x]) 0 n = seg ws 0 (l + 1) ++ some x :: (seg ws (l + 1) (k - l) ++ seg ws (k + 1) (n - (k + 1))) := by
    rw [seg_here ws x 0 n l hx (by omega) (by omega), Nat.zero_add]
    have h2 := seg_add ws (k - l) (l + 1) (n - (k + 1))
    rw [show k - l + (n - (k + 1)) = n - (l + 1) by omega, show l + 1 + (k - l) = k + 1 by omega] at h2
    rw [h2]; rfl
  have e3 : ∀ ws : List Weigh, seg (ws ++ [y]) 0 n = seg ws 0 (k + 1) ++ some y :: seg ws (k + 1) (n - (k + 1)) := fun ws => by
    rw [seg_here ws y 0 n k hy (by omega) (by omega), Nat.zero_add]; rfl
  have e4 : ∀ ws : List Weigh, seg ws 0 (k + 1) = seg ws 0 (l + 1) ++ seg ws (l + 1) (k - l) := fun ws => by
    have h1 := seg_add ws (l + 1) 0 (k - l)
    rw [show l + 1 + (k - l) = k + 1 by omega, Nat.zero_add] at h1
    exact h1
  have e5 : seg (ws ++ [x]) 0 (k + 1) = seg ws 0 (l + 1) ++ some x :: seg ws (l + 1) (k - l) := by
    rw [seg_here ws x 0 (k + 1) l hx (by omega) (by omega), Nat.zero_add, show k + 1 - (l + 1) = k - l by omega]; rfl
  unfold bk
  rw [e1, e2, show seg (ws ++ [y]) 0 n = _ from e3 ws, show seg (ws ++ [x] ++ [y]) 0 n = _ from e3 (ws ++ [x]), e4 ws, e5, seg_other ws x _ (k + 1) fun j _ _ => by omega]
  simp only [List.map_append, List.map_cons, List.append_assoc, List.cons_append]
  refine File.join_putTwo ?_ (tl_head _ _ _ _) (tl_head _ _ _ _)
  rw [show k - l = (k - l - 1) + 1 by omega, seg_succ]
  simp
/-- Two clerks book weighings of different lots. -/
theorem join_two (n : Nat) (ws : List Weigh) (x y : Weigh) (l k : Nat) (hl : l < n) (hk : k < n) (hx : x.lot = (l : Int)) (hy : y.lot = (k : Int)) (hlk : l ≠ k) : File.join (bk n ws) (bk n (ws ++ [x])) (bk n (ws ++ [y])) = (bk n (ws ++ [x] ++ [y]), []) := by
  by_cases h : l < k
  · exact join_lt n ws x y l k hk h hx hy
  · rw [File.join_swap, join_lt n ws y x k l hl (by omega) hy hx]
    unfold bk
    rw [seg_swap ws y x (by omega)]
theorem seg_mem {ws : List Weigh} {x : Weigh} : ∀ {k i : Nat}, some x ∈ seg ws i k → x ∈ ws ∧ (i : Int) ≤ x.lot ∧ x.lot < ((i + k : Nat) : Int)
  | 0, _, h => by cases h
  | k + 1, i, h => by
    rw [seg_succ] at h
    rcases List.mem_append.1 h with h | h
    · have h : x ∈ of ws i := by simpa using h
      unfold of at h
      have h := List.mem_filter.1 h
      have := of_decide_eq_true h.2
      exact ⟨h.1, by omega, by omega⟩
    · obtain ⟨h1, h2, h3⟩ := seg_mem h
      exact ⟨h1, by omega, by omega⟩
theorem mem_seg {ws : List Weigh} {x : Weigh} (hx : x ∈ ws) : ∀ {k i : Nat}, (i : Int) ≤ x.lot → x.lot < ((i + k : Nat) : Int) → some x ∈ seg ws i k
  | 0, i, h1, h2 => by omega
  | k + 1, i, h1, h2 => by
    rw [seg_succ]
    by_cases h : x.lot = (i : Int)
    · refine List.mem_append_left _ (List.mem_cons_of_mem _ (List.mem_map_of_mem ?_))
      exact List.mem_filter.2 ⟨hx, decide_eq_true h⟩
    · exact List.mem_append_right _ (mem_seg hx (by omega) (by omega))
theorem seg_len (n : Nat) : ∀ (m : Nat) (ws : List Weigh), ws.length = m → (∀ x ∈ ws, WOk n x) → (seg ws 0 n).length = n + m
  | 0, ws, h0, _ => by
    rw [List.length_eq_zero_iff.1 h0]
    have : ∀ k i, (seg [] i k).length = k := by
      intro k
      induction k with
      | zero => intro i; rfl
      | succ k ih => intro i; rw [seg_succ, List.length_append, ih]; simp [of]; omega
    exact this n 0
  | m + 1, ws', hm, h => by
    obtain ⟨ws, x, rfl⟩ : ∃ ws x, ws' = ws ++ [x] := ⟨_, _, (List.dropLast_concat_getLast (by rintro rfl; simp at hm)).symm⟩
    have hx := (h x (by simp)).lot
    have ih := seg_len n m ws (by simpa using hm) fun y hy => h y (by simp [hy])
    have h1 := seg_add ws (x.lot.toNat + 1) 0 (n - (x.lot.toNat + 1))
    rw [show x.lot.toNat + 1 + (n - (x.lot.toNat + 1)) = n by omega, Nat.zero_add] at h1
    have h2 := seg_here ws x 0 n x.lot.toNat (by omega) (by omega) (by omega)
    rw [Nat.zero_add] at h2
    have h3 := congrArg List.length h1
    rw [h2]
    rw [List.length_append] at h3
    rw [List.length_append, List.length_cons]
    have e : x.lot.toNat + 1 - 0 = x.lot.toNat + 1 := rfl
    rw [e]
    omega
theorem dec_short {n : Nat} (h : n < 100000) : (Lib.decDigits n).length ≤ 5 := by
  have := Fl.dec_len 4 n (by omega)
  omega
theorem line_good {n : Nat} {x : Weigh} (h : WOk n x) : (lineL x).length ≤ 17 ∧ ∀ b ∈ lineL x, b.toNat = 32 ∨ 48 ≤ b.toNat ∧ b.toNat ≤ 57 := by
  have h1 := h.reads
  have h2 := h.lo
  have h3 := h.mid
  have h4 := h.hi
  constructor
  · unfold lineL
    have := dec_short (n := x.reads.toNat) (by omega)
    have := dec_short (n := x.lo.toNat) (by omega)
    have := dec_short (n := x.hi.toNat) (by omega)
    simp only [List.length_append, List.length_cons]
    omega
  · intro b hb
    unfold lineL at hb
    simp only [List.mem_append, List.mem_cons] at hb
    rcases hb with h | rfl | h | rfl | h
    · exact .inr (dec_all _ _ h)
    · exact .inl rfl
    · exact .inr (dec_all _ _ h)
    · exact .inl rfl
    · exact .inr (dec_all _ _ h)
theorem bk_good {n : Nat} {ws : List Weigh} (hn : n ≤ 6) (hw : ws.length ≤ 8) (h : ∀ x ∈ ws, WOk n x) : Fl.Good (bk n ws) := by
  have hg : ∀ t ∈ seg ws 0 n, (tl t).size ≤ 40 ∧ File.okLine (tl t) = true := by
    intro t ht
    cases t with
    | none => exact ⟨by decide, by decide⟩
    | some x =>
      obtain ⟨h1, h2⟩ := line_good (h x (seg_mem ht).1)
      refine ⟨by show (lineL x).toArray.size ≤ 40; simp; omega, ?_⟩
      unfold File.okLine
      rw [List.all_eq_true]
      intro b hb
      have hb : b ∈ lineL x := by simpa [tl, File.ba] using hb
      have := h2 b hb
      unfold File.okB
      simp
      omega
  refine ⟨by unfold bk; rw [List.length_map, seg_len n _ ws rfl h]; omega, fun s hs => ?_, fun s hs => ?_⟩
  · obtain ⟨t, ht, rfl⟩ := List.mem_map.1 hs
    exact (hg t ht).1
  · obtain ⟨t, ht, rfl⟩ := List.mem_map.1 hs
    exact (hg t ht).2
def LotsOk : Int → List (Option Weigh) → Prop
  | _, [] => True
  | c, none :: r => LotsOk (c + 1) r
  | c, some x :: r => x.lot = c ∧ LotsOk c r
theorem lots_app {c : Int} {r : List (Option Weigh)} : ∀ {l : List Weigh}, (∀ x ∈ l, x.lot = c) → LotsOk c r → LotsOk c (l.map some ++ r)
  | [], _, h => h
  | x :: l, h, hr => ⟨h x (by simp), lots_app (fun y hy => h y (by simp [hy])) hr⟩
theorem seg_lots (ws : List Weigh) : ∀ (k i : Nat), LotsOk ((i : Int) - 1) (seg ws i k)
  | 0, _ => trivial
  | k + 1, i => by
    rw [seg_succ]
    show LotsOk ((i : Int) - 1 + 1) ((of ws i).map some ++ seg ws (i + 1) k)
    have ih := seg_lots ws k (i + 1)
    rw [show ((i + 1 : Nat) : Int) - 1 = (i : Int) - 1 + 1 by omega] at ih
    refine lots_app (fun x hx => ?_) ih
    have := of_decide_eq_true (List.mem_filter.1 hx).2
    omega
def got (l : List (Option Weigh)) : List Weigh := l.filterMap id
theorem got_mem {l : List (Option Weigh)} {x : Weigh} : x ∈ got l ↔ some x ∈ l := by unfold got; rw [List.mem_filterMap]; simp
theorem got_len : ∀ (l : List (Option Weigh)), (got l).length + (l.filter (·.isNone)).length = l.length
  | [] => rfl
  | none :: r => by
    have := got_len r
    simp [got] at this ⊢
    omega
  | some x :: r => by
    have := got_len r
    simp [got] at this ⊢
    omega
theorem dec_get (n : Nat) : ∀ (l : List UInt8) (acc : Nat), ∃ k, Lib.decFrom acc (Lib.decDigits n ++ l) = Lib.decFrom (acc * k + n) l := by
  induction n using Nat.strongRecOn with
  | _ n ih =>
    intro l acc
    have hd : ∀ d : Nat, d < 10 → ∀ (a : Nat) (l : List UInt8), Lib.decFrom a (UInt8.ofNat (48 + d) :: l) = Lib.decFrom (a * 10 + d) l := by
      intro d hd a l
      rcases d with _ | _ | _ | _ | _ | _ | _ | _ | _ | _ | d
      all_goals first | rfl | omega
    unfold Lib.decDigits
    split
    · rename_i h
      exact ⟨10, hd n h acc l⟩
    · obtain ⟨k, hk⟩ := ih (n / 10) (by omega) (UInt8.ofNat (48 + n % 10) :: l) acc
      refine ⟨k * 10, ?_⟩
      rw [List.append_assoc]
      show Lib.decFrom acc (Lib.decDigits (n / 10) ++ (UInt8.ofNat (48 + n % 10) :: l)) = _
      rw [hk, hd _ (by omega)]
      congr 1
      rw [Nat.add_mul, Nat.mul_assoc]
      omega
theorem dec_nat (n : Nat) : Lib.atoi (Lib.decDigits n) = some (n : Int) := by
  obtain ⟨b, r, h1, h2, h3⟩ := dec_head n
  obtain ⟨k, hk⟩ := dec_get n [] 0
  rw [List.append_nil, Nat.zero_mul, Nat.zero_add] at hk
  have e : Lib.decNat (Lib.decDigits n) = some n := by
    unfold Lib.decNat
    rw [if_neg (by rw [h1]; simp), hk]
    rfl
  rw [h1] at e ⊢
  unfold Lib.atoi
  have n1 : ¬ b = 45 := by rintro rfl; exact absurd h2 (by decide)
  have n2 : ¬ b = 43 := by rintro rfl; exact absurd h2 (by decide)
  simp only [beq_iff_eq, n1, n2, if_false]
  rw [e]
  rfl
theorem fields_word : ∀ (d cur l : List UInt8), (∀ b ∈ d, 48 ≤ b.toNat ∧ b.toNat ≤ 57) → Lib.fieldsGo cur (d ++ l) = Lib.fieldsGo (cur ++ d) l
  | [], cur, l, _ => by simp
  | b :: d, cur, l, h => by
    have hb := h b (by simp)
    have hs : Lib.isSp b = false := by
      unfold Lib.isSp
      have : ∀ c : UInt8, c.toNat < 48 → (b == c) = false := fun c hc => by
        rw [beq_eq_false_iff_ne]
        rintro rfl
        omega
      simp [this 9 (by decide), this 10 (by decide), this 11 (by decide), this 12 (by decide), this 13 (by decide), this 32 (by decide)]
    rw [List.cons_append, Lib.fieldsGo_more _ _ _ hs, fields_word d (cur ++ [b]) l fun c hc => h c (by simp [hc])]
    simp
theorem dec_ne (n : Nat) : Lib.decDigits n ≠ [] := by obtain ⟨b, r, h, _⟩ := dec_head n; rw [h]; simp
theorem fields_line (x : Weigh) : Lib.fields (lineL x) = [Lib.decDigits x.reads.toNat, Lib.decDigits x.lo.toNat, Lib.decDigits x.hi.toNat] := by
  unfold Lib.fields lineL
  rw [fields_word _ _ _ (dec_all _), List.nil_append, Lib.fieldsGo_end _ _ _ (by decide) (dec_ne _), fields_word _ _ _ (dec_all _), List.nil_append, Lib.fieldsGo_end _ _ _ (by decide) (dec_ne _)]
  have := fields_word (Lib.decDigits x.hi.toNat) [] [] (dec_all _)
  rw [List.append_nil, List.nil_append] at this
  rw [this]
  unfold Lib.fieldsGo
  rw [if_neg (by simpa using dec_ne _)]
end Bk
end Go.Proofs.YtlpoiggdjggkiaaGreatDoor
end
section
namespace Go.Proofs.YtlpoiggdjggkiaaGreatDoor
namespace Bk
open Go.RowKit Go.Shelf Fl Sk
set_option maxRecDepth 100000
def laysM157_ren : Go.Shelf.Ren := ⟨fun x => match x with | 157 => 38 | 229 => 65 | 199 => 66 | 261 => 83 | 311 => 101 | 312 => 102 | n => n, fun x => match x with | 9 => 9 | 31 => 43 | 3 => 3 | 5 => 5 | 4 => 4 | 119 => 137 | 0 => 0 | 40 => 139 | 152 => 160 | 21 => 21 | 154 => 162 | 51 => 163 | 141 => 165 | 196 => 190 | 193 => 187 | 198 => 193 | 49 => 191 | 194 => 188 | 201 => 196 | 226 => 210 | 46 => 116 | 227 => 211 | n => n, fun x => match x with | 0 => 0 | 6 => 1 | n => n⟩
theorem laysM157 : Go.Proofs.LaysM.n157 Tryz.prog laysM157_ren := {
  mixed := by kernel_rfl
  f157 := by kernel_rfl
  f199 := by kernel_rfl
  f229 := by kernel_rfl
  f261 := by kernel_rfl
  f311 := by kernel_rfl
  f312 := by kernel_rfl
  t0 := by kernel_rfl
  a0 := fun _ => by kernel_rfl
  z0 := fun _ => by kernel_rfl
  v0 := fun _ => by kernel_rfl
  t3 := by kernel_rfl
  a3 := fun _ => by kernel_rfl
  z3 := fun _ => by kernel_rfl
  v3 := fun _ => by kernel_rfl
  t4 := by kernel_rfl
  a4 := fun _ => by kernel_rfl
  z4 := fun _ => by kernel_rfl
  v4 := fun _ => by kernel_rfl
  t5 := by kernel_rfl
  a5 := fun _ => by kernel_rfl
  z5 := fun _ => by kernel_rfl
  v5 := fun _ => by kernel_rfl
  t9 := by kernel_rfl
  a9 := fun _ => by kernel_rfl
  z9 := fun _ => by kernel_rfl
  v9 := fun _ => by kernel_rfl
  t21 := by kernel_rfl
  a21 := fun _ => by kernel_rfl
  z21 := fun _ => by kernel_rfl
  v21 := fun _ => by kernel_rfl
  t31 := by kernel_rfl
  a31 := fun _ => by kernel_rfl
  z31 := fun _ => by kernel_rfl
  v31 := fun _ => by kernel_rfl
  t40 := by kernel_rfl
  a40 := fun _ => by kernel_rfl
  z40 := fun _ => by kernel_rfl
  v40 := fun _ => by kernel_rfl
  t46 := by kernel_rfl
  a46 := fun _ => by kernel_rfl
  z46 := fun _ => by kernel_rfl
  v46 := fun _ => by kernel_rfl
  t49 := by kernel_rfl
  a49 := fun _ => by kernel_rfl
  z49 := fun _ => by kernel_rfl
  v49 := fun _ => by kernel_rfl
  t51 := by kernel_rfl
  a51 := fun _ => by kernel_rfl
  z51 := fun _ => by kernel_rfl
  v51 := fun _ => by kernel_rfl
  t119 := by kernel_rfl
  a119 := fun _ => by kernel_rfl
  z119 := fun _ => by kernel_rfl
  t141 := by kernel_rfl
  a141 := fun _ => by kernel_rfl
  z141 := fun _ => by kernel_rfl
  v141 := fun _ => by kernel_rfl
  t152 := by kernel_rfl
  a152 := fun _ => by kernel_rfl
  z152 := fun _ => by kernel_rfl
  v152 := fun _ => by kernel_rfl
  t154 := by kernel_rfl
  a154 := fun _ => by kernel_rfl
  z154 := fun _ => by kernel_rfl
  v154 := fun _ => by kernel_rfl
  t193 := by kernel_rfl
  a193 := fun _ => by kernel_rfl
  z193 := fun _ => by kernel_rfl
  v193 := fun _ => by kernel_rfl
  t194 := by kernel_rfl
  a194 := fun _ => by kernel_rfl
  z194 := fun _ => by kernel_rfl
  v194 := fun _ => by kernel_rfl
  t196 := by kernel_rfl
  a196 := fun _ => by kernel_rfl
  z196 := fun _ => by kernel_rfl
  v196 := fun _ => by kernel_rfl
  t198 := by kernel_rfl
  a198 := fun _ => by kernel_rfl
  z198 := fun _ => by kernel_rfl
  v198 := fun _ => by kernel_rfl
  t201 := by kernel_rfl
  a201 := fun _ => by kernel_rfl
  z201 := fun _ => by kernel_rfl
  v201 := fun _ => by kernel_rfl
  t226 := by kernel_rfl
  a226 := fun _ => by kernel_rfl
  z226 := fun _ => by kernel_rfl
  v226 := fun _ => by kernel_rfl
  t227 := by kernel_rfl
  a227 := fun _ => by kernel_rfl
  z227 := fun _ => by kernel_rfl
  v227 := fun _ => by kernel_rfl
  g0 := by kernel_rfl
  g6 := by kernel_rfl
  i0 := by kernel_rfl
  i3 := by kernel_rfl
  i4 := by kernel_rfl
  i5 := by kernel_rfl
  i9 := by kernel_rfl
  i21 := by kernel_rfl
  i31 := by kernel_rfl
  i40 := by kernel_rfl
  i46 := by kernel_rfl
  i49 := by kernel_rfl
  i51 := by kernel_rfl
  i141 := by kernel_rfl
  i152 := by kernel_rfl
  i154 := by kernel_rfl
  i193 := by kernel_rfl
  i194 := by kernel_rfl
  i196 := by kernel_rfl
  i198 := by kernel_rfl
  i201 := by kernel_rfl
  i226 := by kernel_rfl
  i227 := by kernel_rfl
  m0 := by kernel_rfl
  m6 := by kernel_rfl }
def lays172_ren : Go.Shelf.Ren := ⟨fun x => match x with | 172 => 39 | 244 => 67 | 245 => 68 | 247 => 84 | 279 => 85 | 280 => 86 | 281 => 87 | 282 => 88 | 287 => 103 | 316 => 104 | 171 => 24 | 205 => 105 | 321 => 113 | 322 => 114 | 243 => 54 | 246 => 76 | 283 => 94 | 284 => 95 | 285 => 96 | 286 => 97 | 129 => 108 | 317 => 107 | 318 => 109 | 319 => 110 | 320 => 111 | 337 => 115 | 338 => 116 | n => n, fun x => match x with | 9 => 9 | 3 => 3 | 75 => 88 | 76 => 89 | 4 => 4 | 5 => 5 | 167 => 166 | 37 => 22 | 0 => 0 | 85 => 167 | 2 => 2 | 168 => 169 | 53 => 58 | 175 => 198 | 46 => 116 | 210 => 202 | 127 => 133 | 145 => 215 | 143 => 213 | 21 => 21 | 171 => 179 | 173 => 182 | 212 => 206 | 51 => 163 | 20 => 20 | 213 => 207 | 232 => 217 | 233 => 218 | 80 => 91 | n => n, fun x => match x with | 15 => 2 | 16 => 3 | 17 => 4 | 18 => 5 | 19 => 6 | n => n⟩
theorem lays172 : Go.Proofs.Lays.n172 Tryz.prog lays172_ren := {
  mixed := by kernel_rfl
  f129 := by kernel_rfl
  f171 := by kernel_rfl
  f172 := by kernel_rfl
  f205 := by kernel_rfl
  f243 := by kernel_rfl
  f244 := by kernel_rfl
  f245 := by kernel_rfl
  f246 := by kernel_rfl
  f247 := by kernel_rfl
  f279 := by kernel_rfl
  f280 := by kernel_rfl
  f281 := by kernel_rfl
  f282 := by kernel_rfl
  f283 := by kernel_rfl
  f284 := by kernel_rfl
  f285 := by kernel_rfl
  f286 := by kernel_rfl
  f287 := by kernel_rfl
  f316 := by kernel_rfl
  f317 := by kernel_rfl
  f318 := by kernel_rfl
  f319 := by kernel_rfl
  f320 := by kernel_rfl
  f321 := by kernel_rfl
  f322 := by kernel_rfl
  f337 := by kernel_rfl
  f338 := by kernel_rfl
  t0 := by kernel_rfl
  a0 := fun _ => by kernel_rfl
  z0 := fun _ => by kernel_rfl
  v0 := fun _ => by kernel_rfl
  t2 := by kernel_rfl
  a2 := fun _ => by kernel_rfl
  z2 := fun _ => by kernel_rfl
  v2 := fun _ => by kernel_rfl
  t3 := by kernel_rfl
  a3 := fun _ => by kernel_rfl
  z3 := fun _ => by kernel_rfl
  v3 := fun _ => by kernel_rfl
  t4 := by kernel_rfl
  a4 := fun _ => by kernel_rfl
  z4 := fun _ => by kernel_rfl
  v4 := fun _ => by kernel_rfl
  t5 := by kernel_rfl
  a5 := fun _ => by kernel_rfl
  z5 := fun _ => by kernel_rfl
  v5 := fun _ => by kernel_rfl
  t9 := by kernel_rfl
  a9 := fun _ => by kernel_rfl
  z9 := fun _ => by kernel_rfl
  v9 := fun _ => by kernel_rfl
  t20 := by kernel_rfl
  a20 := fun _ => by kernel_rfl
  z20 := fun _ => by kernel_rfl
  v20 := fun _ => by kernel_rfl
  t21 := by kernel_rfl
  a21 := fun _ => by kernel_rfl
  z21 := fun _ => by kernel_rfl
  v21 := fun _ => by kernel_rfl
  t37 := by kernel_rfl
  a37 := fun _ => by kernel_rfl
  z37 := fun _ => by kernel_rfl
  v37 := fun _ => by kernel_rfl
  t46 := by kernel_rfl
  a46 := fun _ => by kernel_rfl
  z46 := fun _ => by kernel_rfl
  v46 := fun _ => by kernel_rfl
  t51 := by kernel_rfl
  a51 := fun _ => by kernel_rfl
  z51 := fun _ => by kernel_rfl
  v51 := fun _ => by kernel_rfl
  t53 := by kernel_rfl
  a53 := fun _ => by kernel_rfl
  z53 := fun _ => by kernel_rfl
  v53 := fun _ => by kernel_rfl
  t75 := by kernel_rfl
  a75 := fun _ => by kernel_rfl
  z75 := fun _ => by kernel_rfl
  v75 := fun _ => by kernel_rfl
  t76 := by kernel_rfl
  a76 := fun _ => by kernel_rfl
  z76 := fun _ => by kernel_rfl
  v76 := fun _ => by kernel_rfl
  t85 := by kernel_rfl
  a85 := fun _ => by kernel_rfl
  z85 := fun _ => by kernel_rfl
  v85 := fun _ => by kernel_rfl
  t127 := by kernel_rfl
  a127 := fun _ => by kernel_rfl
  z127 := fun _ => by kernel_rfl
  v127 := fun _ => by kernel_rfl
  t143 := by kernel_rfl
  a143 := fun _ => by kernel_rfl
  z143 := fun _ => by kernel_rfl
  v143 := fun _ => by kernel_rfl
  t145 := by kernel_rfl
  a145 := fun _ => by kernel_rfl
  z145 := fun _ => by kernel_rfl
  v145 := fun _ => by kernel_rfl
  t167 := by kernel_rfl
  a167 := fun _ => by kernel_rfl
  z167 := fun _ => by kernel_rfl
  v167 := fun _ => by kernel_rfl
  t168 := by kernel_rfl
  a168 := fun _ => by kernel_rfl
  z168 := fun _ => by kernel_rfl
  v168 := fun _ => by kernel_rfl
  t171 := by kernel_rfl
  a171 := fun _ => by kernel_rfl
  z171 := fun _ => by kernel_rfl
  v171 := fun _ => by kernel_rfl
  t173 := by kernel_rfl
  a173 := fun _ => by kernel_rfl
  z173 := fun _ => by kernel_rfl
  v173 := fun _ => by kernel_rfl
  t175 := by kernel_rfl
  a175 := fun _ => by kernel_rfl
  z175 := fun _ => by kernel_rfl
  v175 := fun _ => by kernel_rfl
  t210 := by kernel_rfl
  a210 := fun _ => by kernel_rfl
  z210 := fun _ => by kernel_rfl
  v210 := fun _ => by kernel_rfl
  t212 := by kernel_rfl
  a212 := fun _ => by kernel_rfl
  z212 := fun _ => by kernel_rfl
  v212 := fun _ => by kernel_rfl
  t213 := by kernel_rfl
  a213 := fun _ => by kernel_rfl
  z213 := fun _ => by kernel_rfl
  t232 := by kernel_rfl
  a232 := fun _ => by kernel_rfl
  z232 := fun _ => by kernel_rfl
  v232 := fun _ => by kernel_rfl
  t233 := by kernel_rfl
  a233 := fun _ => by kernel_rfl
  z233 := fun _ => by kernel_rfl
  v233 := fun _ => by kernel_rfl
  g15 := by kernel_rfl
  g16 := by kernel_rfl
  g17 := by kernel_rfl
  g18 := by kernel_rfl
  g19 := by kernel_rfl }
def Spaces (w : World) : Prop := Lib.TabIs Tryz.prog w "strings.asciiSpace" .u8 Lib.asciiSpaceTab
theorem sl_alloc (w : World) (l : List ByteArray) : Sl strE (w.alloc (.cells (l.map Value.string).toArray 9)) (some ⟨w.heap.size, 0, none⟩) l := fun _ => by
  refine ⟨w.heap.size, 0, rfl, by simp, fun i x hx j u hu => ?_⟩
  have hb : Blk (w.alloc (.cells (l.map Value.string).toArray 9)) w.heap.size 9 (l.map Value.string).toArray := Blk.new _ _ _
  have hj : j = 0 ∧ u = .string x := by
    rcases j with _ | j
    · exact ⟨rfl, (Option.some.inj hu).symm⟩
    · cases hu
  obtain ⟨rfl, rfl⟩ := hj
  rw [hb.cell]
  show (l.map Value.string).toArray[0 + i * 1 + 0]? = _
  simp [hx]
theorem fields_spec {n : Nat} (x : Weigh) (hx : WOk n x) (w : World) (ht : Spaces w) : Calls Tryz.prog 38 #[.string (tl (some x))] w fun e w' => ∃ A, e = .returned (.slice A 3 3) ∧ Sl strE w' A [File.ba (Lib.decDigits x.reads.toNat), File.ba (Lib.decDigits x.lo.toNat), File.ba (Lib.decDigits x.hi.toNat)] ∧ Below w.heap.size w w' := by
  obtain ⟨h1, h2⟩ := line_good hx
  have e : (tl (some x)).data.toList = lineL x := by simp [tl, File.ba]
  refine (Any.strings_Fields_laid laysM157 (tl (some x)) w (by show (lineL x).toArray.size < _; simp; omega) (fun j b hb => ?_) ht).mono ?_
  · rw [e] at hb
    have := h2 b (List.mem_of_getElem? hb)
    omega
  · rintro e' w' ⟨rfl, rfl⟩
    rw [e, fields_line]
    exact ⟨_, rfl, sl_alloc w [File.ba (Lib.decDigits x.reads.toNat), File.ba (Lib.decDigits x.lo.toNat), File.ba (Lib.decDigits x.hi.toNat)], (Below.refl _ _).alloc (Nat.le_refl _) _⟩
theorem atoi_spec (n : Nat) (hn : n < 100000) (w : World) : Calls Tryz.prog 39 #[.string (File.ba (Lib.decDigits n))] w fun e w' => e = .returned (.tuple #[iv (n : Int), .nilIface]) ∧ Below w.heap.size w w' := by
  have h := dec_short hn
  refine (Any.strconv_Atoi lays172 (File.ba (Lib.decDigits n)) n (by show (Lib.decDigits n).toArray.size ≤ _; simp; omega) (by rw [show (File.ba (Lib.decDigits n)).data.toList = Lib.decDigits n by simp [File.ba]]; exact dec_nat n) w).mono ?_
  rintro e w' ⟨rfl, t, rfl⟩
  exact ⟨rfl, rfl, rfl, rfl, by rw [Lib.bytesWorld_size]; omega, fun k hk => Lib.bytesWorld_at_old w _ _ k (by omega)⟩
end Bk
end Go.Proofs.YtlpoiggdjggkiaaGreatDoor
end
section
namespace Go.Proofs.YtlpoiggdjggkiaaGreatDoor
namespace Bk
open Go.RowKit Fl Sk
set_option maxRecDepth 100000
def three (l : List Int) (k : Nat) : Array Value := ((l.take k ++ List.replicate (3 - k) 0).map iv).toArray
theorem three_set {l : List Int} {k : Nat} {a : Int} (hl : l.length = 3) (hk : k < 3) (ha : l[k]? = some a) : (three l k).setIfInBounds k (iv a) = three l (k + 1) := by
  match l, hl with
  | [x, y, z], _ =>
    obtain rfl | rfl | rfl : k = 0 ∨ k = 1 ∨ k = 2 := by omega
    all_goals
      simp at ha
      subst ha
      rfl
theorem three_size {l : List Int} {k : Nat} (hl : l.length = 3) (hk : k ≤ 3) : (three l k).size = 3 := by
  unfold three
  simp
  omega
theorem Spaces.below {w w' : World} (h : Spaces w) (hb : Below w.heap.size w w') : Spaces w' := by
  unfold Spaces Lib.TabIs World.var? at *
  revert h
  cases hg : (Tryz.prog).globalNamed "strings.asciiSpace" with
  | none => intro h; exact h
  | some g =>
    intro h
    simp only [Option.bind_some] at h ⊢
    by_cases hl : g < w.heap.size
    · rw [hb.block g hl]; exact h
    · rw [Array.getElem?_eq_none (Nat.le_of_not_lt hl)] at h
      cases h
set_option maxHeartbeats 4000000 in
theorem weighing_spec {n : Nat} (x : Weigh) (hx : WOk n x) (hn : n ≤ 100) (w : World) (ht : Spaces w) : Calls Tryz.prog 14 #[iv x.lot, .string (tl (some x))] w fun e w' => e = .returned (.tuple #[x.v, .bool true]) ∧ Below w.heap.size w w' := by
  have h1 := hx.reads
  have h2 := hx.lo
  have h3 := hx.mid
  have h4 := hx.hi
  have HT : Hid (∀ W : World, Below w.heap.size w W → Spaces W) := Lib.hid fun W h => ht.below h
  have HF := Lib.hid fun (W : World) (h : Below w.heap.size w W) => fields_spec x hx W (HT.out W h)
  obtain ⟨a0, e0⟩ : ∃ a : Nat, (a : Int) = x.reads := ⟨x.reads.toNat, by omega⟩
  obtain ⟨a1, e1⟩ : ∃ a : Nat, (a : Int) = x.lo := ⟨x.lo.toNat, by omega⟩
  obtain ⟨a2, e2⟩ : ∃ a : Nat, (a : Int) = x.hi := ⟨x.hi.toNat, by omega⟩
  rw [← e0, ← e1, ← e2, Int.toNat_natCast, Int.toNat_natCast, Int.toNat_natCast] at HF
  generalize tl (some x) = s at *
  obtain ⟨x0, x1, x2, x3⟩ := x
  dsimp only at e0 e1 e2
  subst e0 e1 e2
  have hb0 : Below w.heap.size w (w.alloc (.cells #[iv 0, iv 0, iv 0, iv 0] 39)) := (Below.refl _ _).alloc (Nat.le_refl _) _
  have hR : Blk (w.alloc (.cells #[iv 0, iv 0, iv 0, iv 0] 39)) w.heap.size 39 #[iv 0, iv 0, iv 0, iv 0] := Blk.new _ _ _
  have HF1 := Lib.hid (HF.out _ hb0)
  have hz : (w.alloc (.cells #[iv 0, iv 0, iv 0, iv 0] 39)).heap.size = w.heap.size + 1 := by simp
  clear hx HT HF
  go_enter Tryz.func14, Tryz.ntmps14
  go_wp2_with (go_at_call 38; refine HF1.out.mono ?_; rintro e w2 ⟨A, rfl, hs, hb2⟩)
  have hRa : Blk (w2.alloc (.cells #[iv 0, iv 0, iv 0] 107)) w.heap.size 39 #[iv 0, iv 0, iv 0, iv 0] := (hR.under hb2).alloc _
  have hBa : Blk (w2.alloc (.cells #[iv 0, iv 0, iv 0] 107)) w2.heap.size 107 #[iv 0, iv 0, iv 0] := Blk.new _ _ _
  go_loopw [20] (fun i wr => ∃ k : Nat, k ≤ 3 ∧ i = iv k ∧ Blk wr w2.heap.size 107 (three [a0, a1, a2] k) ∧ Below w2.heap.size w2 wr) (fun i _ => 3 - (intOf i).toNat)
  case atStart => exact ⟨0, by omega, rfl, hBa, (Below.refl _ _).alloc (Nat.le_refl _) _⟩
  case round =>
    obtain ⟨k, hk, rfl, hBx, hbx⟩ := hrel
    have hb2r : Below w2.heap.size w2 wr := hbx
    by_cases hlt : k < 3
    · have hki : (k : Int) < 3 := by omega
      obtain ⟨b, off, s1, hA, hb, hx, hc0⟩ := Sl.atS (k := k) (hs.below hb2r) (by simpa using hlt)
      subst hA
      obtain ⟨a, ha, hal, rfl⟩ : ∃ a : Nat, [(a0 : Int), a1, a2][k]? = some (a : Int) ∧ a < 100000 ∧ s1 = File.ba (Lib.decDigits a) := by
        obtain rfl | rfl | rfl : k = 0 ∨ k = 1 ∨ k = 2 := by omega
        all_goals
          simp at hx
          exact ⟨_, rfl, by omega, hx.symm⟩
      have HA := Lib.hid (atoi_spec a hal wr)
      have HS := Lib.hid (three_set rfl hlt ha)
      have hsz := three_size (l := [(a0 : Int), a1, a2]) rfl hk
      have hgw := hBx.lt
      have hf := hBx.frozen
      clear hx ha
      go_wp2_with (go_at_call 39; refine HA.out.mono ?_; rintro e w3 ⟨rfl, hb3⟩; have hBy := hBx.under hb3; have hf3 := hBy.frozen; have hg3 := hBy.lt; obtain ⟨u, hu⟩ : ∃ u, w3.cell? ⟨w2.heap.size, k, none⟩ = some u := ⟨_, (hBy.cell k).trans (Array.getElem?_eq_getElem (by omega))⟩)
      go_roundw
      case rel =>
        refine ⟨k + 1, by omega, by go_num, ?_, ?_⟩
        · have := hBy.set_ k (iv (a : Int))
          rwa [HS.out] at this
        · exact (hb2r.next hb3 (Nat.le_refl _)).setCell (Nat.le_refl _) _
      case measure => simp [intOf]; omega
    · obtain rfl : k = 3 := by omega
      have c0 : wr.cell? ⟨w2.heap.size, 0, none⟩ = some (iv (a0 : Int)) := (hBx.cell 0).trans rfl
      have c1 : wr.cell? ⟨w2.heap.size, 1, none⟩ = some (iv (a1 : Int)) := (hBx.cell 1).trans rfl
      have c2 : wr.cell? ⟨w2.heap.size, 2, none⟩ = some (iv (a2 : Int)) := (hBx.cell 2).trans rfl
      have hRz := hR.under (hb2.next hb2r (Nat.le_refl _))
      have hfr := hRz.frozen
      have hgr := hRz.lt
      have hf := hRz.cell
      go_wp2_with fail
      have hRf := (((hRz.set_ 0 (iv x0)).set_ 1 (iv (a0 : Int))).set_ 2 (iv (a1 : Int))).set_ 3 (iv (a2 : Int))
      have hbf := hb0.trans ((hb2.mono (by omega)).trans (hb2r.mono (by have := hb2.size; omega)))
      exact bodyPost_ret (results_row_tmp (fn := Tryz.f14) (p := 4) (u := 5) (ty := 39) (by kernel_rfl) _ _ w.heap.size _ (by rfl) (run_loadVar_row _ w.heap.size 39 39 #[iv x0, iv a0, iv a1, iv a2] (0, 0) _ hRf Tryz.underlying39 (by rfl) (by kernel_rfl))) rfl
        ⟨rfl, (((hbf.setCell (Nat.le_refl _) _).setCell (Nat.le_refl _) _).setCell (Nat.le_refl _) _).setCell (Nat.le_refl _) _⟩
end Bk
end Go.Proofs.YtlpoiggdjggkiaaGreatDoor
end
section
namespace Go.Proofs.YtlpoiggdjggkiaaGreatDoor
namespace Bk
open Go.RowKit Fl Sk
set_option maxRecDepth 100000
theorem of_take {ws : List Weigh} {j k : Nat} {x : Weigh} (h : ws[j]? = some x) : of (ws.take (j + 1)) k = of (ws.take j) k ++ (if x.lot = (k : Int) then [x] else []) := by
  rw [take_at h, of_snoc]
theorem seg_last (ws : List Weigh) (k : Nat) : seg ws 0 (k + 1) = seg ws 0 k ++ none :: (of ws k).map some := by
  have := seg_add ws k 0 1
  rw [this, Nat.zero_add, seg_succ, seg_zero, List.append_nil]
theorem line_str (x0 a0 a1 a2 : Nat) (d : Weigh) (h : d = ⟨x0, a0, a1, a2⟩) : (((File.ba (Lib.decDigits a0) ++ ⟨#[32]⟩) ++ File.ba (Lib.decDigits a1)) ++ ⟨#[32]⟩) ++ File.ba (Lib.decDigits a2) = tl (some d) := by
  subst h
  apply ByteArray.ext
  simp [File.ba, tl, lineL]
set_option maxHeartbeats 8000000 in
theorem booked_spec (E : Int) (Al : Option Addr) (n cl : Nat) (Aw : Option Addr) (ws : List Weigh) (c : Nat) (w : World) (hn : n ≤ 6) (hm : ws.length ≤ 8) (hok : ∀ x ∈ ws, WOk n x) (hs : Sl weighE w Aw ws) (ht : Tab w) :
    Calls Tryz.prog 9 #[Sk.millV E Al n cl Aw ws.length c] w fun e w' => ∃ v, e = .returned v ∧ Own strE 9 w.heap.size w' v (bk n ws) ∧ Below w.heap.size w w' := by
  have hb1 : Below w.heap.size w (w.alloc (.cells #[iv E, .slice Al n cl, .slice Aw ws.length c] 28)) := (Below.refl _ _).alloc (Nat.le_refl _) _
  have hM1 : Blk (w.alloc (.cells #[iv E, .slice Al n cl, .slice Aw ws.length c] 28)) w.heap.size 28 #[iv E, .slice Al n cl, .slice Aw ws.length c] := Blk.new _ _ _
  have HT := Lib.hid ht
  have HS := Lib.hid hs
  have HOK := Lib.hid hok
  clear hok ht hs
  go_enter Tryz.func9, Tryz.ntmps9
  go_upto_region 2 with fail
  obtain ⟨w1, hw1⟩ : ∃ w1, w1 = w.alloc (.cells #[iv E, .slice Al n cl, .slice Aw ws.length c] 28) := ⟨_, rfl⟩
  rw [← hw1] at hb1 hM1
  rw [← hw1]
  have hm0 := hM1.cell
  have hm1 := hM1.lt
  clear hw1
  go_wp2_with fail
  go_loopw [3, 10] (fun v i wr => ∃ k : Nat, k ≤ n ∧ i = iv k ∧ Own strE 9 w1.heap.size wr v ((seg ws 0 k).map tl) ∧ Below w1.heap.size w1 wr) (fun _ i _ => n - (intOf i).toNat)
  case atStart => exact ⟨0, Nat.zero_le _, rfl, Own.nil, Below.refl _ _⟩
  case round =>
    obtain ⟨k, hk, rfl, hO, hbr⟩ := hrel
    have HO := Lib.hid hO
    have HM := Lib.hid fun (W : World) (h : Below w1.heap.size w1 W) => hM1.under h
    clear hO hm0
    by_cases hlt : k < n
    · have hki : (k : Int) < (n : Int) := by omega
      have hl0 := seg_len n _ ws rfl HOK.out
      have hl1 : (((seg ws 0 k).map tl)).length + 1 ≤ big := by
        have := seg_add ws k 0 (n - k)
        rw [show k + (n - k) = n by omega] at this
        rw [this, List.length_append] at hl0
        rw [List.length_map]; unfold big; omega
      have hwr := hbr.size
      go_upto_region 6 with (at_builtin; refine wpApp1 strE tyStrs rfl _ _ rfl HO.out lotL rfl rfl rfl hwr hl1 ?_; intro v5 w5 hown5 hb5 hk5)
      have HO5 : Hid (Own strE 9 w1.heap.size w5 v5 ((seg ws 0 k ++ none :: (of (ws.take 0) k).map some).map tl)) := Lib.hid (by simpa [of, tl] using hown5)
      have hb15 := hbr.trans hb5
      have m5 := (HM.out w5 hb15).cell
      have l5 := (HM.out w5 hb15).lt
      clear hown5 hb5 hk5 HO hl0 hl1
      go_wp2_with fail
      clear m5 l5
      go_loopw [3, 19] (fun v i wx => ∃ j : Nat, j ≤ ws.length ∧ i = iv j ∧ Own strE 9 w1.heap.size wx v ((seg ws 0 k ++ none :: (of (ws.take j) k).map some).map tl) ∧ Below w1.heap.size w1 wx) (fun _ i _ => ws.length - (intOf i).toNat)
      case atStart => exact ⟨0, Nat.zero_le _, rfl, HO5.out, hb15⟩
      case round =>
        obtain ⟨j, hj, rfl, hO, hbx⟩ := hrel
        by_cases hjt : j < ws.length
        · have hji : (j : Int) < (ws.length : Int) := by omega
          obtain ⟨b, off, y, rfl, hb, hy, hc0, hc1, hc2, hc3⟩ := (HS.out.below (hb1.next hbx (Nat.le_refl _))).atW hjt
          have hoky := HOK.out y (mem_at hy)
          have HTK := Lib.hid (of_take (k := k) hy)
          obtain ⟨a0, e0⟩ : ∃ a : Nat, (a : Int) = y.reads := ⟨y.reads.toNat, by have := hoky.reads; omega⟩
          obtain ⟨a1, e1⟩ : ∃ a : Nat, (a : Int) = y.lo := ⟨y.lo.toNat, by have := hoky.lo; omega⟩
          obtain ⟨a2, e2⟩ : ∃ a : Nat, (a : Int) = y.hi := ⟨y.hi.toNat, by have := hoky.lo; have := hoky.mid; omega⟩
          have q0 := hoky.reads
          have q1 := hoky.mid
          have q2 := hoky.hi
          obtain ⟨y0, y1, y2, y3⟩ := y
          dsimp only at e0 e1 e2 hc0 hc1 hc2 hc3 HTK q0 q1 q2
          subst e0 e1 e2
          have hN : Blk (wr.alloc (.cells #[iv y0, iv (a0 : Int), iv (a1 : Int), iv (a2 : Int)] 39)) wr.heap.size 39 #[iv y0, iv a0, iv a1, iv a2] := Blk.new _ _ _
          by_cases he : y0 = (k : Int)
          · subst he
            have HO6 := Lib.hid hO
            clear hO
            go_upto_region 10 with fail
            obtain ⟨w6, hw6⟩ : ∃ w6, w6 = wr.alloc (.cells #[iv (k : Int), iv (a0 : Int), iv (a1 : Int), iv (a2 : Int)] 39) := ⟨_, rfl⟩
            have hb6 : Below wr.heap.size wr w6 := by rw [hw6]; exact (Below.refl _ _).alloc (Nat.le_refl _) _
            rw [← hw6] at hN
            rw [← hw6]
            have HO8 := Lib.hid (HO6.out.below hb6)
            have hb16 := hbx.next hb6 (Nat.le_refl _)
            have HTB := Lib.hid fun (W : World) (h : Below w6.heap.size w6 W) => HT.out.below ((hb1.next hb16 (Nat.le_refl _)).next h (Nat.le_refl _))
            have HN := Lib.hid fun (W : World) (h : Below w6.heap.size w6 W) => hN.under h
            clear hw6 HO6 hb6 hN
            have HSTR := Lib.hid (line_str k a0 a1 a2 ⟨(k : Int), a0, a1, a2⟩ rfl)
            rw [if_pos rfl] at HTK
            have hl2 : (List.map tl (seg ws 0 k ++ none :: List.map some (of (ws.take j) k))).length + 1 ≤ big := by
              have h1 : (of (ws.take j) k).length ≤ ws.length := by
                unfold of
                refine Nat.le_trans (List.length_filter_le _ _) ?_
                rw [List.length_take]; omega
              have h2 := seg_len n _ ws rfl HOK.out
              have h3 := seg_add ws k 0 (n - k)
              rw [show k + (n - k) = n by omega] at h3
              rw [h3, List.length_append] at h2
              simp only [List.length_map, List.length_append, List.length_cons]
              unfold big; omega
            have s0 : (File.ba (Lib.decDigits a0)).size ≤ 5 := by show (Lib.decDigits a0).toArray.size ≤ 5; have := dec_short (n := a0) (by omega); simpa using this
            have s1 : (File.ba (Lib.decDigits a1)).size ≤ 5 := by show (Lib.decDigits a1).toArray.size ≤ 5; have := dec_short (n := a1) (by omega); simpa using this
            have s2 : (File.ba (Lib.decDigits a2)).size ≤ 5 := by show (Lib.decDigits a2).toArray.size ≤ 5; have := dec_short (n := a2) (by omega); simpa using this
            refine wfl 17 (fun nR x => Below w6.heap.size w6 x) (fun x x' => Below x.heap.size x x')
              [eqv u3,
               eqv (.pointer (some ⟨wr.heap.size, 1, none⟩)),
               eqv (iv (a0 : Int)),
               eqv (.string (File.ba (Lib.decDigits a0))),
               eqv (.string (File.ba (Lib.decDigits a0) ++ ⟨#[32]⟩)),
               eqv (.pointer (some ⟨wr.heap.size, 2, none⟩)),
               eqv (.pointer (some ⟨wr.heap.size, 2, none⟩)),
               eqv (iv (a1 : Int)),
               eqv (.string (File.ba (Lib.decDigits a1))),
               eqv (.string ((File.ba (Lib.decDigits a0) ++ ⟨#[32]⟩) ++ File.ba (Lib.decDigits a1))),
               eqv (.string (((File.ba (Lib.decDigits a0) ++ ⟨#[32]⟩) ++ File.ba (Lib.decDigits a1)) ++ ⟨#[32]⟩)),
               eqv (.pointer (some ⟨wr.heap.size, 2, none⟩)),
               eqv (.pointer (some ⟨wr.heap.size, 3, none⟩)),
               eqv (iv (a2 : Int)),
               eqv (.string (File.ba (Lib.decDigits a2))),
               eqv (.string ((((File.ba (Lib.decDigits a0) ++ ⟨#[32]⟩) ++ File.ba (Lib.decDigits a1)) ++ ⟨#[32]⟩) ++ File.ba (Lib.decDigits a2))),
               fun _ u x => ∃ A1, u = .slice A1 1 1 ∧ Sl strE x A1 [tl (some ⟨(k : Int), a0, a1, a2⟩)]]
              (Below.refl _ w6).drew ?_ ?_
            · simp only [List.take_succ_cons, List.take_zero, HopL]
              repeat' apply And.intro
              · refine fvr fun x hR kk rr _ => ?_
                have := rho0 rr 3
                clear rr kk
                exact ev0
              · refine fvr fun x hR kk rr _ => ?_
                have := rho0 rr 6
                clear rr kk
                exact ev0
              · refine fvr fun x hR kk rr _ => ?_
                have := rho rr 28 (kk.at 1)
                clear rr kk
                have f1 := (HN.out x hR).cell 1
                exact ev0
              · refine fvr fun x hR kk rr _ => ?_
                have := rho rr 29 (kk.at 2)
                clear rr kk
                exact ec (hc := itoa_spec a0 (by omega) x (HTB.out x hR))
              · refine fvr fun x hR kk rr _ => ?_
                have := rho rr 30 (kk.at 3)
                clear rr kk
                exact ev0
              · refine fvr fun x hR kk rr _ => ?_
                have := rho0 rr 6
                clear rr kk
                exact ev0
              · refine fvr fun x hR kk rr _ => ?_
                have := rho rr 32 (kk.at 5)
                clear rr kk
                exact ev0
              · refine fvr fun x hR kk rr _ => ?_
                have := rho rr 33 (kk.at 6)
                clear rr kk
                have f1 := (HN.out x hR).cell 2
                exact ev0
              · refine fvr fun x hR kk rr _ => ?_
                have := rho rr 34 (kk.at 7)
                clear rr kk
                exact ec (hc := itoa_spec a1 (by omega) x (HTB.out x hR))
              · refine fvr fun x hR kk rr _ => ?_
                have := rho rr 31 (kk.at 4)
                have := rho rr 35 (kk.at 8)
                clear rr kk
                exact ev0
              · refine fvr fun x hR kk rr _ => ?_
                have := rho rr 36 (kk.at 9)
                clear rr kk
                exact ev0
              · refine fvr fun x hR kk rr _ => ?_
                have := rho0 rr 6
                clear rr kk
                exact ev0
              · refine fvr fun x hR kk rr _ => ?_
                have := rho rr 38 (kk.at 11)
                clear rr kk
                exact ev0
              · refine fvr fun x hR kk rr _ => ?_
                have := rho rr 39 (kk.at 12)
                clear rr kk
                have f1 := (HN.out x hR).cell 3
                exact ev0
              · refine fvr fun x hR kk rr _ => ?_
                have := rho rr 40 (kk.at 13)
                clear rr kk
                exact ec (hc := itoa_spec a2 (by omega) x (HTB.out x hR))
              · refine fvr fun x hR kk rr _ => ?_
                have := rho rr 37 (kk.at 10)
                have := rho rr 41 (kk.at 14)
                clear rr kk
                exact ev0
              · refine fvr (hs := fun _ _ _ _ h hS => (by obtain ⟨A1, e0, o1⟩ := h; exact ⟨A1, e0, o1.below hS⟩)) fun x hR kk rr _ => ?_
                have e42 := rho rr 42 (kk.at 15)
                clear rr kk
                exact stepE_new (u := .slice (some ⟨x.heap.size, 0, none⟩) 1 1) (w' := x.alloc (.cells #[.string ((((File.ba (Lib.decDigits a0) ++ ⟨#[32]⟩) ++ File.ba (Lib.decDigits a1)) ++ ⟨#[32]⟩) ++ File.ba (Lib.decDigits a2))] 9)) (wanted_none rfl) (by go_simp) ⟨⟨_, rfl, Sl.fresh strE x _ _ [tl (some ⟨(k : Int), a0, a1, a2⟩)] (by rw [HSTR.out]; rfl) (by simp [maxLen])⟩, (Below.refl _ _).alloc (Nat.le_refl _) _, hR.alloc hR.size _⟩
              · trivial
            · intro v nR x1 hnR hR hall
              have h0 : v 0 = u3 := hall 0 (by decide)
              obtain ⟨A1, h16, o1⟩ := hall 16 (by decide)
              clear hall hnR
              simp only [List.drop_succ_cons, List.drop_zero, List.take_succ_cons, List.take_zero, frameF, Act.put, List.setIfInBounds_toArray, List.set_cons_zero, List.set_cons_succ, Nat.zero_add, Nat.reduceAdd, h0, h16]
              have HO9 := Lib.hid (HO8.out.below hR)
              have hb17 := hb16.next hR (Nat.le_refl _)
              have hsz7 := hb17.size
              clear s0 s1 s2
              go_wp2_with (at_builtin; refine wpAppS strE tyStrs rfl _ _ rfl HO9.out o1 rfl rfl hsz7 hl2 ?_; intro v7 w7 hown7 hb7 hk7)
              go_roundw
              case rel => exact ⟨j + 1, by omega, by go_num, by rw [HTK.out]; simpa using hown7, hb17.trans hb7⟩
              case measure => simp [intOf]; omega
          · rw [if_neg he, List.append_nil] at HTK
            go_wp2_with fail
            go_roundw
            case rel => exact ⟨j + 1, by omega, by go_num, by rw [HTK.out]; exact hO.below ((Below.refl _ _).alloc (Nat.le_refl _) _), hbx.alloc hbx.size _⟩
            case measure => simp [intOf]; omega
        · have hji : ¬ (j : Int) < (ws.length : Int) := by omega
          obtain rfl : j = ws.length := by omega
          rw [List.take_length, ← seg_last] at hO
          have HO7 := Lib.hid hO
          clear hO
          go_wp2_with fail
          go_roundw
          case rel => exact ⟨k + 1, by omega, by go_num, HO7.out, hbx⟩
          case measure => simp [intOf]; omega
    · obtain rfl : k = n := by omega
      go_wp2_with fail
      go_ret
      exact ⟨_, rfl, HO.out.base hb1.size, hb1.next hbr (Nat.le_refl _)⟩
end Bk
end Go.Proofs.YtlpoiggdjggkiaaGreatDoor
end
section
namespace Go.Proofs.YtlpoiggdjggkiaaGreatDoor
namespace Bk
open Go.RowKit Fl Sk
theorem join_same_fst (n : Nat) (ws : List Weigh) (x y : Weigh) (l : Nat) (hl : l < n) (hx : x.lot = (l : Int)) (hy : y.lot = (l : Int)) : (File.join (bk n ws) (bk n (ws ++ [x])) (bk n (ws ++ [y]))).1 = bk n (ws ++ [x]) ∨ (File.join (bk n ws) (bk n (ws ++ [x])) (bk n (ws ++ [y]))).1 = bk n ws := by
  unfold bk
  rw [seg_here ws x 0 n l hx (by omega) (by omega), seg_here ws y 0 n l hy (by omega) (by omega), show seg ws 0 n = seg ws 0 (l + 1 - 0) ++ seg ws (l + 1) (0 + n - (l + 1)) by
    have := seg_add ws (l + 1) 0 (n - (l + 1))
    rw [show l + 1 + (n - (l + 1)) = n by omega] at this
    rw [this]
    congr 1
    congr 1 <;> omega]
  simp only [List.map_append, List.map_cons]
  rw [File.join_putSame (tl_head _ _ _ _) (tl_head _ _ _ _)]
  by_cases e : tl (some x) = tl (some y)
  · rw [if_pos e]; exact .inl rfl
  · rw [if_neg e]; exact .inr rfl
theorem err0 {a b : List ByteArray} (ga : Fl.Good a) (gb : Fl.Good b) : Fl.errOf a b = 0 := by
  unfold Fl.errOf; rw [if_pos (Fl.check_of_good ga)]; exact Fl.check_of_good gb
theorem snoc_ok {n : Nat} {ws : List Weigh} {x : Weigh} (h : ∀ y ∈ ws, WOk n y) (hx : WOk n x) : ∀ y ∈ ws ++ [x], WOk n y := fun y hy => by
  rcases List.mem_append.1 hy with hy | hy
  · exact h y hy
  · rw [List.mem_singleton.1 hy]; exact hx
theorem lot_nat {n : Nat} {x : Weigh} (hx : WOk n x) : ∃ l : Nat, l < n ∧ x.lot = (l : Int) := by
  have h := hx.lot
  exact ⟨x.lot.toNat, by omega, by omega⟩
theorem ans_same {n : Nat} {ws : List Weigh} {x y : Weigh} (hn : n ≤ 6) (hm : ws.length ≤ 5) (h : ∀ z ∈ ws, WOk n z) (hx : WOk n x) (hy : WOk n y) (he : x.lot = y.lot) :
    ∃ j p, File.joinAns (bk n ws) (bk n (ws ++ [x])) (bk n (ws ++ [y])) = (0, j, p) ∧ (p = [] ↔ bk n (ws ++ [x]) = bk n (ws ++ [y])) ∧ j.length ≤ 24 ∧ p.length ≤ 24 := by
  obtain ⟨l, hl, hxl⟩ := lot_nat hx
  have hyl : y.lot = (l : Int) := by omega
  have gB := bk_good hn (by omega : ws.length ≤ 8) h
  have ga := bk_good hn (by simp; omega : (ws ++ [x]).length ≤ 8) (snoc_ok h hx)
  have gb := bk_good hn (by simp; omega : (ws ++ [y]).length ≤ 8) (snoc_ok h hy)
  have hf := join_same_fst n ws x y l hl hxl hyl
  have hs := join_same n ws x y l hl hxl hyl
  have hj : (File.join (bk n ws) (bk n (ws ++ [x])) (bk n (ws ++ [y]))).1.length ≤ 24 := by
    rcases hf with e | e <;> rw [e]
    · exact ga.many
    · exact gB.many
  refine ⟨_, _, by unfold File.joinAns; rw [if_neg (by simp [Fl.check_of_good gB]), if_neg (by simp [err0 ga gb]), if_neg (by omega)], hs, hj, ?_⟩
  have e2 : (File.join (bk n ws) (bk n (ws ++ [x])) (bk n (ws ++ [y]))).2.length ≤ 1 := by
    unfold bk
    rw [seg_here ws x 0 n l hxl (by omega) (by omega), seg_here ws y 0 n l hyl (by omega) (by omega), show seg ws 0 n = seg ws 0 (l + 1 - 0) ++ seg ws (l + 1) (0 + n - (l + 1)) by
      have := seg_add ws (l + 1) 0 (n - (l + 1))
      rw [show l + 1 + (n - (l + 1)) = n by omega] at this
      rw [this]
      congr 1
      congr 1 <;> omega]
    simp only [List.map_append, List.map_cons]
    rw [File.join_putSame (tl_head _ _ _ _) (tl_head _ _ _ _)]
    split <;> simp
  omega
theorem ans_two {n : Nat} {ws : List Weigh} {x y : Weigh} (hn : n ≤ 6) (hm : ws.length ≤ 5) (h : ∀ z ∈ ws, WOk n z) (hx : WOk n x) (hy : WOk n y) (he : x.lot ≠ y.lot) :
    File.joinAns (bk n ws) (bk n (ws ++ [x])) (bk n (ws ++ [y])) = (0, bk n (ws ++ [x] ++ [y]), []) := by
  obtain ⟨l, hl, hxl⟩ := lot_nat hx
  obtain ⟨k, hk, hyl⟩ := lot_nat hy
  have gB := bk_good hn (by omega : ws.length ≤ 8) h
  have ga := bk_good hn (by simp; omega : (ws ++ [x]).length ≤ 8) (snoc_ok h hx)
  have gb := bk_good hn (by simp; omega : (ws ++ [y]).length ≤ 8) (snoc_ok h hy)
  have gj := bk_good hn (by simp; omega : (ws ++ [x] ++ [y]).length ≤ 8) (snoc_ok (snoc_ok h hx) hy)
  unfold File.joinAns
  rw [if_neg (by simp [Fl.check_of_good gB]), if_neg (by simp [err0 ga gb]), join_two n ws x y l k hl hk hxl hyl (by omega), if_neg (by have := gj.many; simp only; omega)]
theorem lots_none {c : Int} {ts : List (Option Weigh)} {k : Nat} (h : LotsOk c (ts.drop k)) (hk : ts[k]? = some none) : LotsOk (c + 1) (ts.drop (k + 1)) := by
  obtain ⟨hk', e⟩ := List.getElem?_eq_some_iff.1 hk
  rw [List.drop_eq_getElem_cons hk', e] at h
  exact h
theorem lots_some {c : Int} {ts : List (Option Weigh)} {k : Nat} {x : Weigh} (h : LotsOk c (ts.drop k)) (hk : ts[k]? = some (some x)) : x.lot = c ∧ LotsOk c (ts.drop (k + 1)) := by
  obtain ⟨hk', e⟩ := List.getElem?_eq_some_iff.1 hk
  rw [List.drop_eq_getElem_cons hk', e] at h
  exact h
theorem got_none {ts : List (Option Weigh)} {k : Nat} (hk : ts[k]? = some none) : got (ts.take (k + 1)) = got (ts.take k) := by
  obtain ⟨hk', e⟩ := List.getElem?_eq_some_iff.1 hk
  unfold got
  rw [List.take_add_one, hk]
  simp
theorem got_some {ts : List (Option Weigh)} {k : Nat} {x : Weigh} (hk : ts[k]? = some (some x)) : got (ts.take (k + 1)) = got (ts.take k) ++ [x] := by
  unfold got
  rw [List.take_add_one, hk]
  simp
theorem seg_nones (ws : List Weigh) : ∀ (k i : Nat), ((seg ws i k).filter (·.isNone)).length = k
  | 0, _ => rfl
  | k + 1, i => by
    rw [seg_succ, List.filter_append, List.length_append, seg_nones ws k (i + 1)]
    have : ((of ws i).map some).filter (·.isNone) = [] := by
      rw [List.filter_eq_nil_iff]
      intro a ha
      obtain ⟨b, _, rfl⟩ := List.mem_map.1 ha
      simp
    rw [List.filter_cons, this]
    simp
    omega
theorem got_seg_len {n : Nat} {ws : List Weigh} (h : ∀ x ∈ ws, WOk n x) : (got (seg ws 0 n)).length = ws.length := by
  have h1 := got_len (seg ws 0 n)
  rw [seg_nones, seg_len n _ ws rfl h] at h1
  omega
theorem mem_got_seg {n : Nat} {ws : List Weigh} (h : ∀ x ∈ ws, WOk n x) {x : Weigh} : x ∈ got (seg ws 0 n) ↔ x ∈ ws := by
  rw [got_mem]
  constructor
  · exact fun hx => (seg_mem hx).1
  · intro hx
    have := (h x hx).lot
    exact mem_seg hx (by omega) (by omega)
theorem lotL_list : lotL.toList = [108, 111, 116] := by rw [ByteArray.toList_eq]; rfl
theorem tl_none : ((tl none).toList == [108, 111, 116]) = true := by
  rw [← lotL_list, Fl.str_eq]
  exact decide_eq_true rfl
theorem tl_lot (x : Weigh) : ((tl (some x)).toList == [108, 111, 116]) = false := by
  rw [← lotL_list, Fl.str_eq]
  exact decide_eq_false (tl_ne x)
/-- Bounds in memory. -/
theorem Sl.atB {w : World} {A : Option Addr} {b : B} {n i : Nat} (h : Sl spE w A (b.take n)) (hl : (b.take n).length = n) (hi' : i < n) :
    ∃ g off, A = some ⟨g, off, none⟩ ∧ g < w.heap.size ∧ w.cell? ⟨g, off + i * 2, none⟩ = some (iv (lo b i)) ∧ w.cell? ⟨g, off + i * 2 + 1, none⟩ = some (iv (hi b i)) := by
  obtain ⟨g, off, x, hA, hg, hx, hc⟩ := h.at_ (k := i) (by omega)
  have hxi : b.getD i (0, 0) = x := by
    rw [List.getElem?_take, if_pos hi'] at hx
    rw [List.getD_eq_getElem?_getD, hx]; rfl
  refine ⟨g, off, hA, hg, ?_, ?_⟩
  · rw [show lo b i = x.1 by unfold lo; rw [hxi]]
    exact hc 0 _ rfl
  · rw [show hi b i = x.2 by unfold hi; rw [hxi]]
    exact hc 1 _ rfl
end Bk
end Go.Proofs.YtlpoiggdjggkiaaGreatDoor
end
section
namespace Go.Proofs.YtlpoiggdjggkiaaGreatDoor
namespace Bk
open Go.RowKit Fl Sk
set_option maxRecDepth 100000
/-- A spool that another one's reads leave alone. -/
theorem wound_keep (A : Option Addr) (bs : List Int) (c : Nat) (w0 w : World) (h0 : Below w0.heap.size w0 w) (hs : Sl byteE w0 A bs) :
    Calls Tryz.prog 4 #[.slice A bs.length c] w fun e w' => e = .returned (.pointer (some ⟨w.heap.size, 0, none⟩)) ∧ Below w.heap.size w w' ∧ w.heap.size < w'.heap.size ∧ ∀ W : World, w'.heap.size ≤ W.heap.size → (∀ b, b < w0.heap.size ∨ b = w.heap.size → W.heap[b]? = w'.heap[b]?) → Fl.IsSpool (w.heap.size + 1) W w.heap.size 0 := by
  have h0s := h0.size
  go_enter Tryz.func4, Tryz.ntmps4
  go_wp2
  go_ret
  refine ⟨rfl, (Below.refl _ _).alloc (Nat.le_refl _) _, by simp, fun W hz hk => ⟨by omega, Nat.le_trans (by simp) hz, A, bs.length, c, IntKind.u64.wrap bs.length, (hk _ (.inr rfl)).trans (Blk.new _ _ _), fun hn => ?_⟩⟩
  have hne : bs ≠ [] := fun e => by rw [e] at hn; simp at hn
  obtain ⟨b, off, rfl, hb, hc⟩ := hs hne
  refine ⟨b, off, rfl, by omega, by omega, fun i hi => ⟨bs[i], ?_⟩⟩
  have := hc i bs[i] (List.getElem?_eq_getElem hi) 0 (.int .u8 bs[i]) rfl
  rw [World.cell?_of_block (hk b (.inl hb)), World.cell?_of_block (w := w) (Below.heap_alloc w _ b (by omega)), World.cell?_of_block (h0.block b hb)]
  simpa [byteE] using this
/-- A clerk's mill: a weighing more, and where its lists lie. -/
structure CM where
  x : Weigh
  A : Option Addr
  c : Nat
  A' : Option Addr
  c' : Nat
def cellsL (xs : List CM) : Array Value := (((xs.map fun y : CM => y.x.lot) ++ List.replicate (2 - xs.length) 0).map iv).toArray
def cellsC (E : Int) (n m : Nat) (xs : List CM) : Array Value := ((xs.flatMap fun y : CM => [iv E, .slice y.A n y.c, .slice y.A' (m + 1) y.c']) ++ (List.replicate (2 - xs.length) [iv 0, .slice none 0 0, .slice none 0 0]).flatten).toArray
structure CMk (E : Int) (ls : List SLot) (r : List Int) (ws : List Weigh) (B : Nat) (W : World) (y : CM) : Prop where
  ok : WOk ls.length y.x
  right : rightB E y.x (at_ r y.x.lot.toNat) = true
  l : Own lotE 65 B W (.slice y.A ls.length y.c) ls
  w : Own weighE 39 B W (.slice y.A' (ws.length + 1) y.c') (ws ++ [y.x])
theorem CMk.keep {E : Int} {ls : List SLot} {r : List Int} {ws : List Weigh} {B : Nat} {W W' : World} {y : CM} (h : CMk E ls r ws B W y) (hz : W.heap.size ≤ W'.heap.size) (hk : ∀ b, B ≤ b → b < W.heap.size → W'.heap[b]? = W.heap[b]?) : CMk E ls r ws B W' y :=
  ⟨h.ok, h.right, h.l.keep hz fun b hb => hk b (h.l.lt b hb).1 (h.l.lt b hb).2, h.w.keep hz fun b hb => hk b (h.w.lt b hb).1 (h.w.lt b hb).2⟩
theorem cellsL_set {xs : List CM} {y : CM} (h : xs.length < 2) : (cellsL xs).setIfInBounds xs.length (iv y.x.lot) = cellsL (xs ++ [y]) := by
  match xs, h with
  | [], _ => rfl
  | [a], _ => rfl
theorem cellsC_set {E : Int} {n m : Nat} {xs : List CM} {y : CM} (h : xs.length < 2) : (((cellsC E n m xs).setIfInBounds (xs.length * 3) (iv E)).setIfInBounds (xs.length * 3 + 1) (.slice y.A n y.c)).setIfInBounds (xs.length * 3 + 2) (.slice y.A' (m + 1) y.c') = cellsC E n m (xs ++ [y]) := by
  match xs, h with
  | [], _ => rfl
  | [a], _ => rfl
set_option maxHeartbeats 8000000 in
theorem booked_law (A : Option Addr) (bs : List Int) (c : Nat) (A' : Option Addr) (bs' : List Int) (c' : Nat) (w : World) (hs : Sl byteE w A bs) (hs' : Sl byteE w A' bs') (ht : Tab w) (hp : Spaces w) :
    Calls Tryz.prog 3 #[.slice A bs.length c, .slice A' bs'.length c'] w fun e w' => e = .returned (.bool true) ∧ Below w.heap.size w w' := by
  have HT := Lib.hid fun (W : World) (h : Below w.heap.size w W) => ht.below h
  have HP := Lib.hid fun (W : World) (h : Below w.heap.size w W) => hp.below h
  clear ht hp
  go_enter Tryz.func3, Tryz.ntmps3
  go_wp2_with fail
  refine (Fl.wound_spec A bs c w hs).mono ?_
  rintro e w1 ⟨g, rfl, rfl, hsp1, hb1⟩
  go_wp2_with fail
  refine (wound_keep A' bs' c' w w1 hb1 hs').mono ?_
  rintro e w2 ⟨rfl, hb2, hz2, hq⟩
  have hs12 := hsp1.2.1
  have hsp2 := hsp1.below hb2 hs12
  have HQ := Lib.hid hq
  clear hq hs hs' hsp1
  go_wp2_with fail
  refine (lawMade_spec (w.heap.size + 1) w.heap.size 0 w2 hsp2 (by omega)).mono ?_
  rintro e w3 ⟨E, ls, Al, cl, Ar, r, k3, rfl, hok, hE5, hn6, hlc, hpart, hol, hor, hk3, hsp3, ho3⟩
  have hn1 := hok.n0
  have hz3 := ho3.below.size
  go_wp2_with fail
  have HOL := Lib.hid hol
  have HOR := Lib.hid hor
  have HPA := Lib.hid hpart
  clear hol hor hpart
  have hrl := HPA.out.len
  have hrb := HPA.out.bnd hn6
  obtain ⟨w4, hw4⟩ : ∃ w4, w4 = w3.alloc (.cells #[iv E, .slice Al ls.length cl, .slice none 0 0] 28) := ⟨_, rfl⟩
  have hb34 : Below w3.heap.size w3 w4 := by rw [hw4]; exact (Below.refl _ _).alloc (Nat.le_refl _) _
  have hM4 : Blk w4 w3.heap.size 28 #[iv E, .slice Al ls.length cl, .slice none 0 0] := by rw [hw4]; exact Blk.new _ _ _
  have hz4 : w4.heap.size = w3.heap.size + 1 := by rw [hw4]; simp
  rw [← hw4]
  have hsp4 := hsp3.below hb34 hsp3.2.1
  clear hw4
  refine (weighed_spec (w.heap.size + 1) w.heap.size k3 E Al ls.length cl Ar r w4 hsp4 (by omega) (by have := hok.e0; omega) (by omega) hn1 hn6 hrl hrb ?_).mono ?_
  · exact (HOR.out.below hb34).base (by omega)
  rintro e w5 ⟨ws, Aw, cw, k5, rfl, hws5, hwc, htrue, how, hk5, hsp5, ho5⟩
  have HTR := Lib.hid htrue
  have HOW := Lib.hid how
  have ho25 : Fl.Only w.heap.size w2 w5 := (ho3.next hb34 (by have := hsp3.2.1; omega)).trans ho5
  have hM5 : Blk w5 w3.heap.size 28 #[iv E, .slice Al ls.length cl, .slice none 0 0] := Fl.Blk.only hM4 (by have := hsp3.2.1; omega) ho5
  clear htrue how hsp3 hsp4 hsp5 hM4
  have m0 := hM5.cell
  have m1 := hM5.lt
  have m2 := hM5.frozen
  go_upto_region 6 with fail
  obtain ⟨w7, hw7⟩ : ∃ w7, w7 = ((((w5.setCell ⟨w3.heap.size, 0, none⟩ (iv E)).setCell ⟨w3.heap.size, 1, none⟩ (.slice Al ls.length cl)).setCell ⟨w3.heap.size, 2, none⟩ (.slice Aw ws.length cw)).alloc (.cells #[iv 0, iv 0] 33)).alloc (.cells #[iv 0, .slice none 0 0, .slice none 0 0, iv 0, .slice none 0 0, .slice none 0 0] 34) := ⟨_, rfl⟩
  have hz7 : w7.heap.size = w5.heap.size + 2 := by rw [hw7]; simp [World.setCell]
  have hM7 : Blk w7 w3.heap.size 28 #[iv E, .slice Al ls.length cl, .slice Aw ws.length cw] := by
    rw [hw7]
    have := (((hM5.set_ 0 (iv E)).set_ 1 (.slice Al ls.length cl)).set_ 2 (.slice Aw ws.length cw)).alloc (.cells #[iv 0, iv 0] 33)
    exact Blk.alloc (by simpa using this) _
  have hL7 : Blk w7 w5.heap.size 33 (cellsL []) := by
    rw [hw7]
    exact (Blk.new_ _ _ _ (by simp [World.setCell])).alloc _
  have hC7 : Blk w7 (w5.heap.size + 1) 34 (cellsC E ls.length ws.length []) := by
    rw [hw7]
    exact Blk.new_ _ _ _ (by simp [World.setCell])
  have HB7 : Hid (Below w.heap.size w w7) := Lib.hid (by
    have h5 : Below w.heap.size w w5 := (hb1.trans (hb2.mono hb1.size)).trans ho25.below
    have h1 := hb1.size
    have h2 := hb2.size
    rw [hw7]
    have h3 : w.heap.size ≤ w3.heap.size := by omega
    have h5' := ((h5.setCell (p := ⟨w3.heap.size, 0, none⟩) h3 (iv E)).setCell (p := ⟨w3.heap.size, 1, none⟩) h3 (.slice Al ls.length cl)).setCell (p := ⟨w3.heap.size, 2, none⟩) h3 (.slice Aw ws.length cw)
    have h6 := h5'.alloc h5'.size (.cells #[iv 0, iv 0] 33)
    exact h6.alloc h6.size _)
  rw [← hw7]
  have hk57 : ∀ b, b < w5.heap.size → b ≠ w3.heap.size → w7.heap[b]? = w5.heap[b]? := fun b hb hne => by
    rw [hw7, Below.heap_alloc _ _ _ (by simp [World.setCell]; omega), Below.heap_alloc _ _ _ (by simpa [World.setCell] using hb), Below.heap_setCell _ _ _ _ hne, Below.heap_setCell _ _ _ _ hne, Below.heap_setCell _ _ _ _ hne]
  have hz25 := ho25.below.size
  have hq1 := hb1.size
  have hz45 := ho5.below.size
  have HK : Hid (∀ W : World, w7.heap.size ≤ W.heap.size → (∀ b, b < w5.heap.size → b ≠ w1.heap.size → W.heap[b]? = w7.heap[b]?) → Blk W w3.heap.size 28 #[iv E, .slice Al ls.length cl, .slice Aw ws.length cw] ∧ Own intE 3 w2.heap.size W (.slice Ar ls.length ls.length) r ∧ Sl lotE W Al ls ∧ Sl weighE W Aw ws) := Lib.hid fun W hz hk => by
    have k37 : ∀ b, w2.heap.size ≤ b → b < w3.heap.size → W.heap[b]? = w3.heap[b]? := fun b h1 h2 => by
      rw [hk b (by omega) (by omega), hk57 b (by omega) (by omega), ho5.other b (by omega) (by omega), hb34.block b h2]
    refine ⟨(hk _ (by omega) (by omega)).trans hM7, HOR.out.keep (by omega) fun b hb => k37 b (HOR.out.lt b hb).1 (HOR.out.lt b hb).2, (HOL.out.keep (by omega) fun b hb => k37 b (HOL.out.lt b hb).1 (HOL.out.lt b hb).2).sl, (HOW.out.keep (by omega) fun b hb => ?_).sl⟩
    have h1 := HOW.out.lt b hb
    rw [hk b (by omega) (by omega), hk57 b (by omega) (by omega)]
  clear hw7 hM5 m0 m1 m2
  go_wp2_with fail
  go_loopw [52] (fun i wr => ∃ xs : List CM, xs.length ≤ 2 ∧ i = iv (xs.length : Int) ∧ Blk wr w5.heap.size 33 (cellsL xs) ∧ Blk wr (w5.heap.size + 1) 34 (cellsC E ls.length ws.length xs) ∧ (∀ y ∈ xs, CMk E ls r ws w7.heap.size wr y) ∧ Fl.IsSpool (w1.heap.size + 1) wr w1.heap.size (2 * xs.length) ∧ w7.heap.size ≤ wr.heap.size ∧ (∀ b, b < w5.heap.size → b ≠ w1.heap.size → wr.heap[b]? = w7.heap[b]?) ∧ Below w.heap.size w wr) (fun i _ => 2 - (intOf i).toNat)
  case atStart =>
    have q1 := hb1.size
    have q2 := ho25.below.size
    refine ⟨[], by simp, rfl, hL7, hC7, fun y hy => (by cases hy), HQ.out w7 (by omega) (fun b hb => ?_), Nat.le_refl _, fun _ _ _ => rfl, HB7.out⟩
    rw [hk57 b (by omega) (by omega)]
    exact ho25.other b (by omega) (by omega)
  case round =>
    obtain ⟨xs, hxs, rfl, hL, hC, hCM, hsq, hzr, hkr, hbr⟩ := hrel
    have hMr : Blk wr w3.heap.size 28 #[iv E, .slice Al ls.length cl, .slice Aw ws.length cw] := (hkr _ (by have := ho5.below.size; omega) (by have := hb1.size; omega)).trans hM7
    by_cases hlt : xs.length < 2
    · have hki : (xs.length : Int) < 2 := by omega
      have e1 : IntKind.i64.wrap ((ls.length : Int) - 1) = ((ls.length - 1 : Nat) : Int) := by
        rw [show (ls.length : Int) - 1 = ((ls.length - 1 : Nat) : Int) by omega]
        exact IntWalk.i64_in _ (by omega)
      have HU := Lib.hid (Fl.upto_spec (w1.heap.size + 1) wr w1.heap.size (2 * xs.length) (ls.length - 1) hsq (by omega) (by omega))
      have n0 := hMr.cell
      have n1 := hMr.lt
      have HL := Lib.hid hL
      have HC := Lib.hid hC
      clear hL hC
      go_upto_region 9 with fail
      go_wp2_with fail
      refine HU.out.mono ?_
      rintro e w8 ⟨lot, rfl, hlot, hsq8, ho8⟩
      have hB8 := hsq.2.1
      have hL8 := Fl.Blk.only HL.out (by have := hb1.size; have := ho5.below.size; omega) ho8
      have hC8 := Fl.Blk.only HC.out (by have := hb1.size; have := ho5.below.size; omega) ho8
      have hM8 := Fl.Blk.only hMr (by have := hb1.size; omega) ho8
      have hl0 := hL8.cell
      have hl1 := hL8.lt
      have hl2 := hL8.frozen
      obtain ⟨uc, huc⟩ : ∃ u, w8.cell? ⟨w5.heap.size, xs.length, none⟩ = some u := ⟨_, (hl0 _).trans (Array.getElem?_eq_getElem (by
        have : (cellsL xs).size = 2 := by unfold cellsL; simp; omega
        omega))⟩
      clear n0 n1 hl0
      go_upto_region 10 with fail
      obtain ⟨w9, hw9⟩ : ∃ w9, w9 = w8.setCell ⟨w5.heap.size, xs.length, none⟩ (iv (lot : Int)) := ⟨_, rfl⟩
      have hz9 : w9.heap.size = w8.heap.size := by rw [hw9]; simp [World.setCell]
      have hk9 : ∀ b, b ≠ w5.heap.size → w9.heap[b]? = w8.heap[b]? := fun b hb => by rw [hw9]; exact Below.heap_setCell _ _ _ _ hb
      have hb9 : Below w.heap.size w w9 := by
        have h1 := hb1.size
        rw [hw9]
        exact (hbr.trans (ho8.below.mono h1)).setCell (p := ⟨w5.heap.size, xs.length, none⟩) (by show w.heap.size ≤ w5.heap.size; omega) _
      have hL9 : Blk w9 w5.heap.size 33 ((cellsL xs).setIfInBounds xs.length (iv (lot : Int))) := by rw [hw9]; exact hL8.set_ _ _
      rw [← hw9]
      have hg1 := hsq.1
      have hz8 := ho8.below.size
      have hsq9 : Fl.IsSpool (w1.heap.size + 1) w9 w1.heap.size (2 * xs.length + 1) := hsq8.keep (by omega) fun b hb => hk9 b (by omega)
      have HU2 := Lib.hid (Fl.upto_spec (w1.heap.size + 1) w9 w1.heap.size (2 * xs.length + 1) 60 hsq9 (by omega) (by omega))
      have HCM := Lib.hid hCM
      clear hw9 hL8 hl1 hl2 huc HU hsq hsq8 hsq9 hCM
      go_wp2_with fail
      refine HU2.out.mono ?_
      rintro e w10 ⟨damp, rfl, hdamp, hsq10, ho10⟩
      have hz10 := ho10.below.size
      have HB10 := Lib.hid (hb9.trans (ho10.below.mono hb1.size))
      clear hb9 hbr
      have hk10 : ∀ b, b < w5.heap.size → b ≠ w1.heap.size → w10.heap[b]? = w7.heap[b]? := fun b h1 h2 => by
        rw [ho10.other b (by omega) h2, hk9 b (by omega), ho8.other b (by omega) h2, hkr b h1 h2]
      obtain ⟨hM10, hR10, hl10, hw10⟩ := HK.out w10 (by omega) hk10
      have hL10 := Fl.Blk.only hL9 (by omega) ho10
      have hC10 : Blk w10 (w5.heap.size + 1) 34 (cellsC E ls.length ws.length xs) := Fl.Blk.only ((hk9 _ (by omega)).trans hC8) (by omega) ho10
      have HCM10 : Hid (∀ y ∈ xs, CMk E ls r ws w7.heap.size w10 y) := Lib.hid fun y hy => (HCM.out y hy).keep (by omega) fun b h1 h2 => by
        rw [ho10.other b (by omega) (by omega), hk9 b (by omega), ho8.other b h2 (by omega)]
      have hlr : lot < r.length := by rw [hrl]; omega
      obtain ⟨bR, oR, dd, hAr, hbR, hdd, hcR⟩ := Sl.atI hR10.sl hlr
      subst hAr
      have hdd2 : dd = at_ r lot := by rw [at_, List.getD_eq_getElem?_getD, hdd]; rfl
      have hde := hrb lot
      rw [← hdd2] at hde
      have HDD := Lib.hid hdd2
      have HFF : Hid (∀ x, Below w10.heap.size w10 x → w5.heap.size < x.heap.size ∧ x.cell? ⟨w5.heap.size, xs.length, none⟩ = some (iv (lot : Int)) ∧ x.cell? ⟨bR, oR + lot, none⟩ = some (iv dd)) := Lib.hid fun x hx => by
        refine ⟨by have := hx.size; omega, ?_, by rw [hx.cell (p := ⟨bR, oR + lot, none⟩) hbR]; exact hcR⟩
        rw [(hL10.under hx).cell]
        simp only [Array.getElem?_setIfInBounds]
        have : (cellsL xs).size = 2 := by unfold cellsL; simp; omega
        simp [this]; omega
      have HL10 := Lib.hid hL10
      have HC10 := Lib.hid hC10
      have HM10 := Lib.hid hM10
      have HS10 := Lib.hid hsq10
      have HA10 := Lib.hid (And.intro hR10 (And.intro hl10 hw10))
      have HH10 := Lib.hid hk10
      have hlt3 : (lot : Int) < (ls.length : Int) := by omega
      clear HU2 hl10 hw10 hR10 hL10 hC10 hM10 hsq10 hk10 hdd hdd2 hcR hL9 HCM HL HC hC8 hM8 hMr hlot
      go_upto_region 11 with fail
      refine wfl 13 (fun nR x => Below w10.heap.size w10 x) (fun x x' => Below x.heap.size x x')
        [eqv (iv (xs.length : Int)),
         eqv (.pointer (some ⟨w5.heap.size, xs.length, none⟩)),
         eqv (iv (lot : Int)),
         eqv (.slice (some ⟨bR, oR, none⟩) ls.length ls.length),
         eqv (iv (xs.length : Int)),
         eqv (.pointer (some ⟨w5.heap.size, xs.length, none⟩)),
         eqv (iv (lot : Int)),
         eqv (.pointer (some ⟨bR, oR + lot, none⟩)),
         eqv (iv dd),
         eqv (iv (damp : Int)),
         eqv (.agg #[iv 0, iv (damp : Int)]),
         eqv (.agg #[iv (lot : Int), iv dd, iv 0, iv (damp : Int)]),
         fun _ u x => ∃ g, u = .pointer (some ⟨g, 0, none⟩) ∧ w10.heap.size ≤ g ∧ Blk x g 39 #[iv 0, iv 0, iv 0, iv 0]]
        (Below.refl _ w10).drew ?_ ?_
      · simp only [List.take_succ_cons, List.take_zero, HopL]
        repeat' apply And.intro
        · refine fvr fun x hR kk rr _ => ?_
          have := rho0 rr 11
          clear rr kk
          exact ev0
        · refine fvr fun x hR kk rr _ => ?_
          have := rho0 rr 9
          have := rho rr 65 (kk.at 0)
          clear rr kk
          obtain ⟨f0, f1, f2⟩ := HFF.out x hR
          exact ev0
        · refine fvr fun x hR kk rr _ => ?_
          have := rho rr 66 (kk.at 1)
          clear rr kk
          obtain ⟨f0, f1, f2⟩ := HFF.out x hR
          exact ev0
        · refine fvr fun x hR kk rr _ => ?_
          have := rho0 rr 8
          clear rr kk
          exact ev0
        · refine fvr fun x hR kk rr _ => ?_
          have := rho0 rr 11
          clear rr kk
          exact ev0
        · refine fvr fun x hR kk rr _ => ?_
          have := rho0 rr 9
          have := rho rr 69 (kk.at 4)
          clear rr kk
          obtain ⟨f0, f1, f2⟩ := HFF.out x hR
          exact ev0
        · refine fvr fun x hR kk rr _ => ?_
          have := rho rr 70 (kk.at 5)
          clear rr kk
          obtain ⟨f0, f1, f2⟩ := HFF.out x hR
          exact ev0
        · refine fvr fun x hR kk rr _ => ?_
          have := rho rr 68 (kk.at 3)
          have := rho rr 71 (kk.at 6)
          clear rr kk
          obtain ⟨f0, f1, f2⟩ := HFF.out x hR
          exact ev0
        · refine fvr fun x hR kk rr _ => ?_
          have := rho rr 72 (kk.at 7)
          clear rr kk
          obtain ⟨f0, f1, f2⟩ := HFF.out x hR
          exact ev0
        · refine fvr fun x hR kk rr _ => ?_
          have := rho0 rr 12
          clear rr kk
          exact ev0
        · refine fvr fun x hR kk rr _ => ?_
          have := rho rr 74 (kk.at 9)
          clear rr kk
          exact ev0
        · refine fvr fun x hR kk rr _ => ?_
          have := rho rr 67 (kk.at 2)
          have := rho rr 73 (kk.at 8)
          have := rho rr 75 (kk.at 10)
          clear rr kk
          exact ev0
        · refine fvr (hs := fun _ _ _ _ h hS => (by obtain ⟨g13, e0, k13, b13⟩ := h; exact ⟨g13, e0, k13, b13.below hS b13.lt⟩)) fun x hR kk rr _ => ?_
          clear rr kk
          exact stepE_new (u := .pointer (some ⟨x.heap.size, 0, none⟩)) (w' := x.alloc (.cells #[iv 0, iv 0, iv 0, iv 0] 39)) (wanted_none rfl) (by go_simp) ⟨⟨x.heap.size, rfl, hR.size, Blk.new _ _ _⟩, (Below.refl _ _).alloc (Nat.le_refl _) _, hR.alloc hR.size _⟩
        · trivial
      · intro v nR w11 hnR hR hall
        have h11 : v 11 = .agg #[iv (lot : Int), iv dd, iv 0, iv (damp : Int)] := hall 11 (by decide)
        obtain ⟨g13, h12, k13, b13⟩ := hall 12 (by decide)
        clear hall hnR
        simp only [List.drop_succ_cons, List.drop_zero, List.take_succ_cons, List.take_zero, frameF, Act.put, List.setIfInBounds_toArray, List.set_cons_zero, List.set_cons_succ, Nat.zero_add, Nat.reduceAdd, h11, h12]
        have n0 := b13.cell
        have n1 := b13.lt
        have n2 := b13.frozen
        go_upto_region 12 with fail
        obtain ⟨w12, hw12⟩ : ∃ w12, w12 = (((w11.setCell ⟨g13, 0, none⟩ (iv (lot : Int))).setCell ⟨g13, 1, none⟩ (iv dd)).setCell ⟨g13, 2, none⟩ (iv 0)).setCell ⟨g13, 3, none⟩ (iv (damp : Int)) := ⟨_, rfl⟩
        have hb12 : Below w10.heap.size w10 w12 := by
          rw [hw12]
          exact (((hR.setCell (p := ⟨g13, 0, none⟩) k13 _).setCell (p := ⟨g13, 1, none⟩) k13 _).setCell (p := ⟨g13, 2, none⟩) k13 _).setCell (p := ⟨g13, 3, none⟩) k13 _
        have B12 : Blk w12 g13 39 #[iv (lot : Int), iv dd, iv 0, iv (damp : Int)] := by
          rw [hw12]
          simpa using (((b13.set_ 0 (iv (lot : Int))).set_ 1 (iv dd)).set_ 2 (iv 0)).set_ 3 (iv (damp : Int))
        rw [← hw12]
        have hz12 := hb12.size
        obtain ⟨y, hy⟩ : ∃ y : Weigh, y = ⟨lot, dd, 0, damp⟩ := ⟨_, rfl⟩
        have hyv : y.v = .agg #[iv (lot : Int), iv dd, iv 0, iv (damp : Int)] := by rw [hy]
        have hyk : WOk ls.length y := by
          rw [hy]
          exact ⟨⟨Int.natCast_nonneg _, hlt3⟩, ⟨hde.1, by show dd ≤ 10000; have := hde.2; omega⟩, Int.le_refl _, Int.natCast_nonneg _, by show (damp : Int) ≤ 60; omega⟩
        have hyr : rightB E y (at_ r y.lot.toNat) = true := by
          have e1 : at_ r y.lot.toNat = dd := by rw [hy]; exact HDD.out.symm
          have h1 : 0 ≤ dd * (damp : Int) := Int.mul_nonneg hde.1 (Int.natCast_nonneg _)
          have h2 := hok.e0
          rw [e1, hy]
          unfold rightB
          rw [Bool.and_eq_true, decide_eq_true_iff, decide_eq_true_iff]
          dsimp only
          rw [Int.mul_add]
          omega
        have HWE := skWeigh_spec E Al ls cl Aw ws cw y w12 (HA10.out.2.1.below hb12) (HA10.out.2.2.below hb12) (by omega) (hok.few (by omega) fun x hx => (HTR.out x hx).1) hyk
        rw [hyv] at HWE
        have HWE := Lib.hid HWE
        have hM12 := HM10.out.under hb12
        have q0 := hM12.cell
        have q1 := hM12.lt
        have p0 := B12.cell
        have p1 := B12.lt
        have HY := Lib.hid (And.intro hy (And.intro hyk hyr))
        have HB12 := Lib.hid hb12
        have HM12 := Lib.hid hM12
        clear hw12 n0 n1 n2 b13 B12 hR hy hyk hyr hyv hb12 hM12
        go_wp2_with fail
        refine HWE.out.mono ?_
        rintro e w13 ⟨A2, c2, A3, c3, rfl, ho2, ho3', hb13⟩
        have hz13 := hb13.size
        have HO2 := Lib.hid ho2
        have HO3 := Lib.hid ho3'
        clear q0 q1 p0 p1 HWE ho2 ho3'
        go_upto_region 13 with fail
        obtain ⟨w14, hw14⟩ : ∃ w14, w14 = w13.alloc (.cells #[iv E, .slice A2 ls.length c2, .slice A3 (ws.length + 1) c3] 28) := ⟨_, rfl⟩
        have hM14 : Blk w14 w13.heap.size 28 #[iv E, .slice A2 ls.length c2, .slice A3 (ws.length + 1) c3] := by rw [hw14]; exact Blk.new _ _ _
        have hb14 : Below w13.heap.size w13 w14 := by rw [hw14]; exact (Below.refl _ _).alloc (Nat.le_refl _) _
        rw [← hw14]
        have hz14 : w14.heap.size = w13.heap.size + 1 := by rw [hw14]; simp
        have hk14 : ∀ b, b < w10.heap.size → w14.heap[b]? = w10.heap[b]? := fun b hb => by
          rw [hb14.block b (by omega), hb13.block b (by omega), HB12.out.block b hb]
        have hC14 : Blk w14 (w5.heap.size + 1) 34 (cellsC E ls.length ws.length xs) := (hk14 _ (by omega)).trans HC10.out
        have hcs : (cellsC E ls.length ws.length xs).size = 6 := by
          match xs, hlt with
          | [], _ => rfl
          | [_], _ => rfl
        obtain ⟨u0, hu0⟩ : ∃ u, w14.cell? ⟨w5.heap.size + 1, xs.length * 3, none⟩ = some u := ⟨_, (hC14.cell _).trans (Array.getElem?_eq_getElem (by omega))⟩
        obtain ⟨u1, hu1⟩ : ∃ u, w14.cell? ⟨w5.heap.size + 1, xs.length * 3 + 1, none⟩ = some u := ⟨_, (hC14.cell _).trans (Array.getElem?_eq_getElem (by omega))⟩
        obtain ⟨u2, hu2⟩ : ∃ u, w14.cell? ⟨w5.heap.size + 1, xs.length * 3 + 2, none⟩ = some u := ⟨_, (hC14.cell _).trans (Array.getElem?_eq_getElem (by omega))⟩
        have t1 := hC14.lt
        have t2 := hC14.frozen
        have d0 := hM14.cell
        have d1 := hM14.lt
        have HC14 := Lib.hid hC14
        have HK14 := Lib.hid hk14
        have HHB := Lib.hid (And.intro hb13 hb14)
        clear hw14 hk14 hC14 hb13 hb14
        go_upto_region 16 with fail
        obtain ⟨w15, hw15⟩ : ∃ w15, w15 = ((w14.setCell ⟨w5.heap.size + 1, xs.length * 3, none⟩ (iv E)).setCell ⟨w5.heap.size + 1, xs.length * 3 + 1, none⟩ (.slice A2 ls.length c2)).setCell ⟨w5.heap.size + 1, xs.length * 3 + 2, none⟩ (.slice A3 (ws.length + 1) c3) := ⟨_, rfl⟩
        rw [← hw15]
        have hz15 : w15.heap.size = w14.heap.size := by rw [hw15]; simp [World.setCell]
        have hk15 : ∀ b, b ≠ w5.heap.size + 1 → w15.heap[b]? = w14.heap[b]? := fun b hb => by
          rw [hw15, Below.heap_setCell _ _ _ _ hb, Below.heap_setCell _ _ _ _ hb, Below.heap_setCell _ _ _ _ hb]
        have hC15 : Blk w15 (w5.heap.size + 1) 34 (cellsC E ls.length ws.length (xs ++ [⟨y, A2, c2, A3, c3⟩])) := by
          rw [hw15, ← cellsC_set hlt]
          exact ((HC14.out.set_ _ _).set_ _ _).set_ _ _
        have HH15 := Lib.hid (And.intro hk15 (And.intro hC15 hw15))
        clear hw15 hu0 hu1 hu2 t1 t2 d0 d1 hk15 hC15 HC14 hM14
        go_wp2_with fail
        go_roundw
        case rel =>
          obtain ⟨hk15, hC15, hw15⟩ := HH15.out
          have hL15 : Blk w15 w5.heap.size 33 (cellsL (xs ++ [⟨y, A2, c2, A3, c3⟩])) := by
            rw [← cellsL_set hlt]
            show Blk w15 w5.heap.size 33 ((cellsL xs).setIfInBounds xs.length (iv y.lot))
            rw [show y.lot = (lot : Int) by rw [HY.out.1]]
            exact (hk15 _ (by omega)).trans ((HK14.out _ (by omega)).trans HL10.out)
          refine ⟨xs ++ [⟨y, A2, c2, A3, c3⟩], by simp; omega, by rw [List.length_append]; go_num, hL15, hC15, fun y' hy' => ?_, ?_, by omega, fun b h1 h2 => ?_, ?_⟩
          · rcases List.mem_append.1 hy' with h | h
            · refine (HCM10.out y' h).keep (by omega) fun b h1 h2 => ?_
              rw [hk15 b (by omega), HK14.out b h2]
            · rw [List.mem_singleton.1 h]
              have h13 : CMk E ls r ws w12.heap.size w13 ⟨y, A2, c2, A3, c3⟩ := ⟨HY.out.2.1, HY.out.2.2, HO2.out, HO3.out⟩
              have h15 := h13.keep (W' := w15) (by omega) fun b h1 h2 => by rw [hk15 b (by omega), HHB.out.2.block b h2]
              exact ⟨h15.ok, h15.right, h15.l.base (by omega), h15.w.base (by omega)⟩
          · rw [List.length_append]
            refine Fl.IsSpool.keep (w := w10) HS10.out (by omega) fun b hb => ?_
            rw [hk15 b (by omega), HK14.out b (by omega)]
          · rw [hk15 b (by omega), HK14.out b (by omega), HH10.out b h1 h2]
          · have h1 := hb1.size
            have h2 := HB10.out.size
            have h14 := (((HB10.out.next HB12.out (Nat.le_refl _)).next HHB.out.1 (Nat.le_refl _)).next HHB.out.2 (Nat.le_refl _))
            rw [hw15]
            exact ((h14.setCell (p := ⟨w5.heap.size + 1, _, none⟩) (by show w.heap.size ≤ w5.heap.size + 1; omega) _).setCell (p := ⟨w5.heap.size + 1, _, none⟩) (by show w.heap.size ≤ w5.heap.size + 1; omega) _).setCell (p := ⟨w5.heap.size + 1, _, none⟩) (by show w.heap.size ≤ w5.heap.size + 1; omega) _
        case measure => simp [intOf] <;> omega
    · as_aux_lemma =>
      have hki : ¬ (xs.length : Int) < 2 := by omega
      have hx2 : xs.length = 2 := by omega
      go_upto_region 17 with fail
      obtain ⟨⟨x0, A0, c0, B0, d0⟩, ⟨x1, A1, c1, B1, d1⟩, rfl⟩ : ∃ y0 y1, xs = [y0, y1] := by
        match xs, hx2 with
        | [a, b], _ => exact ⟨a, b, rfl⟩
      obtain ⟨k0, r0, l0, w0'⟩ := hCM _ (List.mem_cons_self ..)
      obtain ⟨k1, r1, l1, w1'⟩ := hCM _ (List.mem_cons_of_mem _ (List.mem_cons_self ..))
      dsimp only at k0 r0 l0 w0' k1 r1 l1 w1'
      have hLr : Blk wr w5.heap.size 33 #[iv x0.lot, iv x1.lot] := hL
      have hCr : Blk wr (w5.heap.size + 1) 34 #[iv E, .slice A0 ls.length c0, .slice B0 (ws.length + 1) d0, iv E, .slice A1 ls.length c1, .slice B1 (ws.length + 1) d1] := hC
      have HZ : Hid (∀ W, Below wr.heap.size wr W → Below w.heap.size w W ∧ Blk W w3.heap.size 28 #[iv E, .slice Al ls.length cl, .slice Aw ws.length cw] ∧ Sl intE W Ar r ∧ Sl lotE W Al ls ∧ Blk W w5.heap.size 33 #[iv x0.lot, iv x1.lot] ∧ Blk W (w5.heap.size + 1) 34 #[iv E, .slice A0 ls.length c0, .slice B0 (ws.length + 1) d0, iv E, .slice A1 ls.length c1, .slice B1 (ws.length + 1) d1] ∧ (Sl lotE W A0 ls ∧ Sl weighE W B0 (ws ++ [x0])) ∧ Sl lotE W A1 ls ∧ Sl weighE W B1 (ws ++ [x1])) := Lib.hid fun W hW => by
        obtain ⟨q1, q2, q3, q4⟩ := HK.out wr hzr hkr
        exact ⟨hbr.next hW (Nat.le_refl _), q1.under hW, q2.sl.below hW, q3.below hW, hLr.under hW, hCr.under hW, ⟨l0.sl.below hW, w0'.sl.below hW⟩, l1.sl.below hW, w1'.sl.below hW⟩
      have HX := Lib.hid (And.intro (And.intro k0 r0) (And.intro k1 r1))
      have hwk : ∀ x ∈ ws, WOk ls.length x := fun x hx => (HTR.out x hx).1
      have hWL0 : (ws ++ [x0]).length = ws.length + 1 := by simp
      have hWL1 : (ws ++ [x1]).length = ws.length + 1 := by simp
      have HB := booked_spec E Al ls.length cl Aw ws cw wr hn6 (by omega) hwk (HK.out wr hzr hkr).2.2.2 (HT.out wr hbr)
      have HB0 : Hid (∀ W, Below wr.heap.size wr W → Calls Tryz.prog 9 #[Sk.millV E A0 ls.length c0 B0 (ws.length + 1) d0] W fun e w' => ∃ v, e = .returned v ∧ Own strE 9 W.heap.size w' v (bk ls.length (ws ++ [x0])) ∧ Below W.heap.size W w') := Lib.hid fun W hW => by
        have := booked_spec E A0 ls.length c0 B0 (ws ++ [x0]) d0 W hn6 (by omega) (snoc_ok hwk k0) (HZ.out W hW).2.2.2.2.2.2.1.2 (HT.out W (HZ.out W hW).1)
        rwa [hWL0] at this
      have HB1 : Hid (∀ W, Below wr.heap.size wr W → Calls Tryz.prog 9 #[Sk.millV E A1 ls.length c1 B1 (ws.length + 1) d1] W fun e w' => ∃ v, e = .returned v ∧ Own strE 9 W.heap.size w' v (bk ls.length (ws ++ [x1])) ∧ Below W.heap.size W w') := Lib.hid fun W hW => by
        have := booked_spec E A1 ls.length c1 B1 (ws ++ [x1]) d1 W hn6 (by omega) (snoc_ok hwk k1) (HZ.out W hW).2.2.2.2.2.2.2.2 (HT.out W (HZ.out W hW).1)
        rwa [hWL1] at this
      have HB := Lib.hid HB
      have HWK := Lib.hid hwk
      have n0 := (HZ.out wr (Below.refl _ _)).2.1.cell
      have n1 := (HZ.out wr (Below.refl _ _)).2.1.lt
      clear k0 r0 l0 w0' k1 r1 l1 w1' hLr hCr hL hC hCM hsq hzr hkr hMr hwk hWL0 hWL1 hki hx2 hxs hlt hbr
      go_wp2_with fail
      refine HB.out.mono ?_
      rintro e w16 ⟨vb, rfl, hob, hb16⟩
      obtain ⟨Ab, cb, rfl, hcb, _⟩ := hob.form
      have HSB := Lib.hid hob
      have HBB := Lib.hid hb16
      clear n0 n1 HB hob
      have HF18 : Hid (∀ x, Below w16.heap.size w16 x → w5.heap.size + 1 < x.heap.size ∧ (∀ o, x.cell? ⟨w5.heap.size + 1, o, none⟩ = #[iv E, .slice A0 ls.length c0, .slice B0 (ws.length + 1) d0, iv E, .slice A1 ls.length c1, .slice B1 (ws.length + 1) d1][o]?) ∧ Below wr.heap.size wr x) := Lib.hid fun x hx => by
        have h := HBB.out.next hx (Nat.le_refl _)
        have hC := (HZ.out x h).2.2.2.2.2.1
        exact ⟨hC.lt, hC.cell, h⟩
      clear hb16
      go_upto_region 18 with fail
      refine wfl 6 (fun nR x => Below w16.heap.size w16 x) (fun x x' => Below x.heap.size x x')
        [eqv (.pointer (some ⟨w5.heap.size + 1, 0, none⟩)),
         eqv (Sk.millV E A0 ls.length c0 B0 (ws.length + 1) d0),
         fun _ u x => ∃ A1 c1, u = .slice A1 (bk ls.length (ws ++ [x0])).length c1 ∧ (bk ls.length (ws ++ [x0])).length ≤ c1 ∧ Own strE 9 w16.heap.size x (.slice A1 (bk ls.length (ws ++ [x0])).length c1) (bk ls.length (ws ++ [x0])),
         eqv (.pointer (some ⟨w5.heap.size + 1, 3, none⟩)),
         eqv (Sk.millV E A1 ls.length c1 B1 (ws.length + 1) d1),
         fun _ u x => ∃ A1 c1, u = .slice A1 (bk ls.length (ws ++ [x1])).length c1 ∧ (bk ls.length (ws ++ [x1])).length ≤ c1 ∧ Own strE 9 w16.heap.size x (.slice A1 (bk ls.length (ws ++ [x1])).length c1) (bk ls.length (ws ++ [x1]))]
        (Below.refl _ w16).drew ?_ ?_
      · simp only [List.take_succ_cons, List.take_zero, HopL]
        repeat' apply And.intro
        · refine fvr fun x hR kk rr _ => ?_
          have := rho0 rr 10
          clear rr kk
          obtain ⟨f0, f1, f2⟩ := HF18.out x hR
          exact ev0
        · refine fvr fun x hR kk rr _ => ?_
          have := rho rr 91 (kk.at 0)
          clear rr kk
          obtain ⟨f0, f1, f2⟩ := HF18.out x hR
          exact ev0
        · refine fvr (hs := fun _ _ _ _ h hS => (by obtain ⟨Aa, ca, e0, hca, oa⟩ := h; exact ⟨Aa, ca, e0, hca, oa.below hS⟩)) fun x hR kk rr _ => ?_
          have e92 := rho rr 92 (kk.at 1)
          clear rr kk
          refine stepE_call (wanted_none rfl) (by go_simp) (HB0.out x (HF18.out x hR).2.2) ?_
          rintro e x' ⟨u, rfl, ho, hb⟩
          obtain ⟨A1, c1, rfl, hc1, _⟩ := ho.form
          exact ⟨_, rfl, ⟨A1, c1, rfl, hc1, ho.base hR.size⟩, hb, hR.next hb (Nat.le_refl _)⟩
        · refine fvr fun x hR kk rr _ => ?_
          have := rho0 rr 10
          clear rr kk
          obtain ⟨f0, f1, f2⟩ := HF18.out x hR
          exact ev0
        · refine fvr fun x hR kk rr _ => ?_
          have := rho rr 94 (kk.at 3)
          clear rr kk
          obtain ⟨f0, f1, f2⟩ := HF18.out x hR
          exact ev0
        · refine fvr (hs := fun _ _ _ _ h hS => (by obtain ⟨Ac, cc, e0, hcc, oc⟩ := h; exact ⟨Ac, cc, e0, hcc, oc.below hS⟩)) fun x hR kk rr _ => ?_
          have e95 := rho rr 95 (kk.at 4)
          clear rr kk
          refine stepE_call (wanted_none rfl) (by go_simp) (HB1.out x (HF18.out x hR).2.2) ?_
          rintro e x' ⟨u, rfl, ho, hb⟩
          obtain ⟨A1, c1, rfl, hc1, _⟩ := ho.form
          exact ⟨_, rfl, ⟨A1, c1, rfl, hc1, ho.base hR.size⟩, hb, hR.next hb (Nat.le_refl _)⟩
        · trivial
      · intro v nR w17 hnR hR hall
        obtain ⟨Aa, ca, h2, hca, oa⟩ := hall 2 (by decide)
        obtain ⟨Ac, cc, h5, hcc, oc⟩ := hall 5 (by decide)
        clear hall hnR
        simp only [List.drop_succ_cons, List.drop_zero, List.take_succ_cons, List.take_zero, frameF, Act.put, List.setIfInBounds_toArray, List.set_cons_zero, List.set_cons_succ, Nat.zero_add, Nat.reduceAdd, h2, h5]
        have HR17 := Lib.hid hR
        have gB := bk_good hn6 (by omega : ws.length ≤ 8) HWK.out
        have ga := bk_good hn6 (by simp; omega : (ws ++ [x0]).length ≤ 8) (snoc_ok HWK.out HX.out.1.1)
        have gb := bk_good hn6 (by simp; omega : (ws ++ [x1]).length ≤ 8) (snoc_ok HWK.out HX.out.2.1)
        have HJ := joined_spec Ab (bk ls.length ws) cb Aa (bk ls.length (ws ++ [x0])) ca Ac (bk ls.length (ws ++ [x1])) cc w17 gB ga gb (Fl.check_of_good gB) (err0 ga gb) hcb hca hcc (HSB.out.sl.below hR) oa.sl oc.sl
        have HSA := Lib.hid (And.intro oa.sl oc.sl)
        have hma := ga.many
        have hmb := gb.many
        have HBR : Hid (Below wr.heap.size wr w17) := Lib.hid (HBB.out.next hR (Nat.le_refl _))
        clear oa oc hR gB ga gb
        by_cases he : x0.lot = x1.lot
        · as_aux_lemma =>
          obtain ⟨j, p, hans, hiff, hj, hp⟩ := ans_same hn6 hws5 HWK.out HX.out.1.1 HX.out.2.1 he
          rw [hans] at HJ
          have HJ := Lib.hid HJ
          have HIF := Lib.hid hiff
          clear hans hiff
          generalize bk ls.length (ws ++ [x0]) = a at *
          generalize bk ls.length (ws ++ [x1]) = b at *
          go_wp2_with fail
          refine HJ.out.mono ?_
          rintro e w18 ⟨v0, v1, rfl, ho0, ho1, hb18⟩
          obtain ⟨Ap, cp, rfl, _, _⟩ := ho1.form
          have HB18 := Lib.hid (HBR.out.next hb18 (Nat.le_refl _))
          have HEQ := Lib.hid (Fl.equalS Aa a ca Ac b cc w18 (by unfold big; omega) (HSA.out.1.below hb18) (by unfold big; omega) (HSA.out.2.below hb18))
          have l0 := (HZ.out w18 HB18.out).2.2.2.2.1.cell
          have l1 := (HZ.out w18 HB18.out).2.2.2.2.1.lt
          clear HJ ho0 ho1 hb18
          go_upto_region 23 with fail
          go_wp2_with fail
          refine HEQ.out.mono ?_
          rintro e w19 ⟨rfl, hb19⟩
          go_wp2_with fail
          go_ret
          refine ⟨?_, (HZ.out _ (HB18.out.next hb19 (Nat.le_refl _))).1⟩
          have h1 := HIF.out
          by_cases hab : a = b
          · have hp0 : p = [] := h1.2 hab
            subst hp0
            simp [hab]
          · have hp0 : p ≠ [] := fun e => hab (h1.1 e)
            have hpl : 0 < p.length := List.length_pos_iff.2 hp0
            simp [hab, hpl]
        · as_aux_lemma =>
          have hans := ans_two hn6 hws5 HWK.out HX.out.1.1 HX.out.2.1 he
          rw [hans] at HJ
          have HJ := Lib.hid HJ
          have hok2 : ∀ z ∈ ws ++ [x0] ++ [x1], WOk ls.length z := snoc_ok (snoc_ok HWK.out HX.out.1.1) HX.out.2.1
          have HG2 := Lib.hid (bk_good hn6 (by simp; omega : (ws ++ [x0] ++ [x1]).length ≤ 8) hok2)
          obtain ⟨ts, hts⟩ : ∃ ts, ts = seg (ws ++ [x0] ++ [x1]) 0 ls.length := ⟨_, rfl⟩
          have HSG : Hid (bk ls.length (ws ++ [x0] ++ [x1]) = ts.map tl) := Lib.hid (by rw [hts]; rfl)
          have HTO : Hid (LotsOk (-1) ts) := Lib.hid (by
            have := seg_lots (ws ++ [x0] ++ [x1]) ls.length 0
            rw [hts]
            exact this)
          have HTG : Hid ((got ts).length = ws.length + 2 ∧ (∀ x, x ∈ got ts ↔ x ∈ ws ++ [x0] ++ [x1]) ∧ ∀ x, some x ∈ ts → WOk ls.length x) := Lib.hid (by
            rw [hts]
            refine ⟨by rw [got_seg_len hok2]; simp, fun x => mem_got_seg hok2, fun x hx => hok2 x (seg_mem hx).1⟩)
          clear hts
          have HOK2 := Lib.hid hok2
          have hll := HG2.out.many
          have HPS := File.parse_self HG2.out.many (fun s h => ⟨HG2.out.wide s h, HG2.out.ok s h⟩)
          have HTL := Lib.hid (File.text_len HG2.out)
          have HCK := Lib.hid (Fl.check_of_good HG2.out)
          have HPS := Lib.hid HPS
          clear hans hok2 hma hmb
          generalize bk ls.length (ws ++ [x0] ++ [x1]) = L at *
          go_wp2_with fail
          refine HJ.out.mono ?_
          rintro e w18 ⟨v0, v1, rfl, ho0, ho1, hb18⟩
          obtain ⟨AL, cL, rfl, _, _⟩ := ho0.form
          obtain ⟨Ap, cp, rfl, _, _⟩ := ho1.form
          have HB18 := Lib.hid (HBR.out.next hb18 (Nat.le_refl _))
          have HSL := Lib.hid ho0.sl
          have hpr := Fl.print_spec AL L cL w18 (by unfold big; omega) ho0.sl (HT.out w18 (HZ.out _ HB18.out).1)
          rw [HCK.out, if_pos rfl] at hpr
          have HPR := Lib.hid hpr
          have l0 := (HZ.out w18 HB18.out).2.2.2.2.1.cell
          have l1 := (HZ.out w18 HB18.out).2.2.2.2.1.lt
          clear HJ ho0 ho1 hb18 hpr HSA
          go_upto_region 24 with fail
          clear l0 l1
          go_wp2_with fail
          refine HPR.out.mono ?_
          rintro e w19 ⟨rfl, hb19⟩
          have HB19 := Lib.hid (HB18.out.next hb19 (Nat.le_refl _))
          have HSL19 := Lib.hid (HSL.out.below hb19)
          have hpa := Fl.parse_spec (File.text L) w19 HTL.out (HT.out w19 (HZ.out _ HB19.out).1)
          rw [HPS.out] at hpa
          have HPA2 := Lib.hid hpa
          clear hb19 hpa HPR HSL
          go_wp2_with fail
          refine HPA2.out.mono ?_
          rintro e w20 ⟨⟨v, rfl, hov, _⟩, hb20⟩
          obtain ⟨Av, cv, rfl, _, _⟩ := hov.form
          have HB20 := Lib.hid (HB19.out.next hb20 (Nat.le_refl _))
          have HSV := Lib.hid hov.sl
          have heq := Fl.equalS Av L cv AL L cL w20 (by unfold big; omega) hov.sl (by unfold big; omega) (HSL19.out.below hb20)
          rw [decide_eq_true (show L = L from rfl)] at heq
          have HEQ := Lib.hid heq
          clear heq
          clear HPA2 hov hb20 HSL19
          go_upto_region 26 with fail
          go_wp2_with fail
          refine HEQ.out.mono ?_
          rintro e w21 ⟨rfl, hb21⟩
          have HB21 := Lib.hid (HB20.out.next hb21 (Nat.le_refl _))
          have HSV21 := Lib.hid (HSV.out.below hb21)
          have n0 := (HZ.out w21 HB21.out).2.1.cell
          have n1 := (HZ.out w21 HB21.out).2.1.lt
          clear HEQ hb21 HSV
          go_upto_region 29 with fail
          obtain ⟨w22, hw22⟩ : ∃ w22, w22 = w21.alloc (.cells #[iv E, .slice Al ls.length cl, .slice Aw ws.length cw] 28) := ⟨_, rfl⟩
          have hM22 : Blk w22 w21.heap.size 28 #[iv E, .slice Al ls.length cl, .slice Aw ws.length cw] := by rw [hw22]; exact Blk.new _ _ _
          have hb22 : Below w21.heap.size w21 w22 := by rw [hw22]; exact (Below.refl _ _).alloc (Nat.le_refl _) _
          rw [← hw22]
          have m0 := hM22.cell
          have m1 := hM22.lt
          have m2 := hM22.frozen
          clear n0 n1 hw22
          go_upto_region 30 with fail
          have hM23 : Blk (w22.setCell ⟨w21.heap.size, 2, none⟩ (.slice none 0 0)) w21.heap.size 28 #[iv E, .slice Al ls.length cl, .slice none 0 0] := by simpa using hM22.set_ 2 (.slice none 0 0)
          have hb23 : Below w21.heap.size w21 (w22.setCell ⟨w21.heap.size, 2, none⟩ (.slice none 0 0)) := hb22.setCell (Nat.le_refl _) _
          generalize w22.setCell ⟨w21.heap.size, 2, none⟩ (.slice none 0 0) = w23 at *
          clear m0 m1 m2 hM22 hb22
          have hg26 := hM23.lt
          obtain ⟨g26, hg⟩ : ∃ g, g = w21.heap.size := ⟨_, rfl⟩
          rw [← hg] at hM23 hg26 ⊢
          have HG26 := Lib.hid hg
          clear hg
          go_wp2_with fail
          go_loopw [27, 155] (fun l i wx => ∃ (k : Nat) (c : Int) (A3 : Option Addr) (c3 : Nat), k ≤ L.length ∧ i = iv k ∧ l = iv c ∧ -1 ≤ c ∧ c ≤ k ∧ Hid (LotsOk c (ts.drop k)) ∧ Blk wx g26 28 #[iv E, .slice Al ls.length cl, .slice A3 (got (ts.take k)).length c3] ∧ Own weighE 39 (g26 + 1) wx (.slice A3 (got (ts.take k)).length c3) (got (ts.take k)) ∧ Hid (Below w21.heap.size w21 wx)) (fun _ i _ => L.length - (intOf i).toNat)
          case atStart => exact ⟨0, -1, none, 0, by omega, rfl, rfl, by omega, by omega, HTO, hM23, Own.nil, Lib.hid hb23⟩
          case round =>
            clear hM23 hg26 hb23
            obtain ⟨k, c, A3, c3, hk, rfl, rfl, hc0, hck, HLO, hM, hO, HBX⟩ := hrel
            by_cases hlt : k < L.length
            · as_aux_lemma =>
              have hki : (k : Int) < (L.length : Int) := by omega
              have hbw := HBX.out
              obtain ⟨bL, oL, sL, rfl, hbL, hsL, hcL⟩ := Fl.Sl.atS (HSV21.out.below hbw) hlt
              obtain ⟨t, ht, rfl⟩ : ∃ t, ts[k]? = some t ∧ tl t = sL := by
                have h := hsL
                rw [HSG.out, List.getElem?_map] at h
                exact Option.map_eq_some_iff.1 h
              clear hsL
              go_upto_region 34 with fail
              cases t with
              | none =>
                have hq := tl_none
                have ew : IntKind.i64.wrap (c + 1) = c + 1 := IntWalk.i64_in _ (by omega)
                have HLO2 := Lib.hid (lots_none HLO.out ht)
                have HGN := got_none ht
                clear hcL
                go_wp2_with fail
                go_roundw
                case rel =>
                  refine ⟨k + 1, c + 1, A3, c3, by omega, by go_num, rfl, by omega, by omega, HLO2, ?_, ?_, HBX⟩
                  · rw [HGN]; exact hM
                  · rw [HGN]; exact hO
                case measure => simp [intOf] <;> omega
              | some x =>
                have hq := tl_lot x
                obtain ⟨hxc, hlo⟩ := lots_some HLO.out ht
                subst hxc
                have HLO2 := Lib.hid hlo
                have HGS := Lib.hid (got_some ht)
                have hxk := HTG.out.2.2 x (List.mem_of_getElem? ht)
                have hb0x := (HZ.out _ (HB21.out.next hbw (Nat.le_refl _))).1
                have HWG := Lib.hid (weighing_spec x hxk (by omega) wr (HP.out wr hb0x))
                have hgl : (got (ts.take k)).length ≤ 24 := by
                  have h1 : (got (ts.take k)).length ≤ (ts.take k).length := by unfold got; exact List.length_filterMap_le ..
                  rw [List.length_take] at h1
                  omega
                clear hcL hlo ht HLO hxk hb0x
                go_wp2_with fail
                refine HWG.out.mono ?_
                rintro e w24 ⟨rfl, hb24⟩
                have hM24 := hM.under hb24
                have hO24 := hO.below hb24
                have HB24 := Lib.hid (HBX.out.next hb24 (Nat.le_refl _))
                clear HWG hM hO hbw hb24
                go_upto_region 37 with fail
                obtain ⟨w25, hw25⟩ : ∃ w25, w25 = w24.alloc (.cells #[iv x.lot, iv x.reads, iv x.lo, iv x.hi] 39) := ⟨_, rfl⟩
                have hb25 : Below w24.heap.size w24 w25 := by rw [hw25]; exact (Below.refl _ _).alloc (Nat.le_refl _) _
                have hW25 : Blk w25 w24.heap.size 39 #[iv x.lot, iv x.reads, iv x.lo, iv x.hi] := by rw [hw25]; exact Blk.new _ _ _
                rw [← hw25]
                have hM25 := hM24.under hb25
                have hO25 := hO24.below hb25
                have HB25 := Lib.hid (HB24.out.next hb25 (Nat.le_refl _))
                have hz25 := HB25.out.size
                have hz24 := HB24.out.size
                clear hw25 hM24 hO24 hb25
                have n0 := hM25.cell
                have n1 := hM25.lt
                have q0 := hW25.cell
                have q1 := hW25.lt
                have hz26 : g26 + 1 ≤ w25.heap.size := by omega
                have HW25 := Lib.hid hW25
                have HLEN : Hid ((got (ts.take k) ++ [x]).length = (got (ts.take k)).length + 1) := Lib.hid (by simp)
                clear hW25
                go_upto_region 40 with (at_builtin; refine wpApp1G weighE tyWs rfl _ _ rfl hO25 x (by rfl) rfl rfl rfl hz26 (by unfold big; omega) ?_; intro v5 w6 hown6 hb6 hot6; obtain ⟨A4, c4, e5, _, _⟩ := hown6.form; rw [HLEN.out] at e5; subst e5; have hM6 : Blk w6 g26 28 _ := (hot6 g26 n1 (Own.ne_blkS hO25 hM25 (by decide))).trans hM25; have p0 := hM6.cell; have p1 := hM6.lt; have p2 := hM6.frozen; have HM6 := Lib.hid hM6; clear hM6 hot6 n0 n1 q0 q1)
                have hne : (Value.slice A4 ((got (ts.take k)).length + 1) c4).ownBlock ≠ some g26 := Own.ne_blkS hown6 HM6.out (by decide)
                have hM7 : Blk (w6.setCell ⟨g26, 2, none⟩ (.slice A4 ((got (ts.take k)).length + 1) c4)) g26 28 #[iv E, .slice Al ls.length cl, .slice A4 ((got (ts.take k)).length + 1) c4] := by simpa using HM6.out.set_ 2 (.slice A4 ((got (ts.take k)).length + 1) c4)
                have hO7 : Own weighE 39 (g26 + 1) (w6.setCell ⟨g26, 2, none⟩ (.slice A4 ((got (ts.take k)).length + 1) c4)) (.slice A4 ((got (ts.take k)).length + 1) c4) (got (ts.take k) ++ [x]) := hown6.keep (by simp [World.setCell]) fun b hv => Below.heap_setCell _ _ _ b (fun e => hne (by rw [hv]; exact congrArg some e))
                have hb7 : Below w21.heap.size w21 (w6.setCell ⟨g26, 2, none⟩ (.slice A4 ((got (ts.take k)).length + 1) c4)) := (HB25.out.trans (hb6.mono (by have := HG26.out; omega))).setCell (by have := HG26.out; show w21.heap.size ≤ g26; omega) _
                generalize w6.setCell ⟨g26, 2, none⟩ (.slice A4 ((got (ts.take k)).length + 1) c4) = w7' at *
                clear p0 p1 p2 hown6 hb6 hne hM25 hO25
                have HM7 := Lib.hid hM7
                have HO7 := Lib.hid hO7
                clear hM7 hO7
                go_wp2_with fail
                go_roundw
                case rel =>
                  refine ⟨k + 1, x.lot, A4, c4, by omega, by go_num, rfl, hc0, by omega, HLO2, ?_, ?_, Lib.hid hb7⟩
                  · rw [HGS.out, HLEN.out]; exact HM7.out
                  · rw [HGS.out, HLEN.out]; exact HO7.out
                case measure => simp [intOf] <;> omega
            · as_aux_lemma =>
              have hki : ¬ (k : Int) < (L.length : Int) := by omega
              have hkL : k = L.length := by omega
              have hLt : L.length = ts.length := by rw [HSG.out, List.length_map]
              rw [List.take_of_length_le (by omega)] at hM hO
              obtain ⟨G, hG⟩ : ∃ G, G = got ts := ⟨_, rfl⟩
              have HGT := HTG.out
              rw [← hG] at hM hO HGT
              obtain ⟨hGl, hGm, _⟩ := HGT
              rw [hGl] at hM hO
              have hfl : (froms ls).length = ls.length := List.length_map ..
              have HGO : Hid (∀ ws' : List Weigh, (∀ x ∈ ws', WOk ls.length x ∧ rightB E x (at_ r x.lot.toNat) = true) → Sk.Good (froms ls) (froms ls).length (sayAll E ws' (froms ls).length) r) := Lib.hid fun ws' h => by
                rw [hfl]
                exact good_of hok.e0 hfl (by omega) hok.tree (HPA.out.weights hok.tree hfl) (fun q => ⟨(hrb q).1, by have := (hrb q).2; omega⟩) h
              have hT1 : ∀ x ∈ ws, WOk ls.length x ∧ rightB E x (at_ r x.lot.toNat) = true := HTR.out
              have HT0 : Hid (True_ E ls.length r (ws ++ [x0])) := Lib.hid fun x hx => by
                rcases List.mem_append.1 hx with h | h
                · exact hT1 x h
                · rw [List.mem_singleton.1 h]; exact HX.out.1
              have HT1 : Hid (True_ E ls.length r (ws ++ [x1])) := Lib.hid fun x hx => by
                rcases List.mem_append.1 hx with h | h
                · exact hT1 x h
                · rw [List.mem_singleton.1 h]; exact HX.out.2
              have HTT : Hid (True_ E ls.length r G) := Lib.hid fun x hx => by
                rcases List.mem_append.1 ((hGm x).1 hx) with h | h
                · exact HT0.out x h
                · rw [List.mem_singleton.1 h]; exact HX.out.2
              have HSUB : Hid ((∀ x ∈ ws ++ [x0], x ∈ G) ∧ ∀ x ∈ ws ++ [x1], x ∈ G) := Lib.hid ⟨fun x hx => (hGm x).2 (List.mem_append_left _ hx), fun x hx => (hGm x).2 (by
                rcases List.mem_append.1 hx with h | h
                · simp [h]
                · simp [List.mem_singleton.1 h])⟩
              have hbw := HBX.out
              have hb0w := HB21.out.next hbw (Nat.le_refl _)
              have HBO := skBoundsOf_spec E Al ls cl A3 G c3 r wr (HZ.out wr hb0w).2.2.2.1 hO.sl (hok.few (by omega) fun x hx => (HTT.out x hx).1) (HGO.out G HTT.out)
              rw [hGl] at HBO
              have HBO := Lib.hid HBO
              have e1 : IntKind.i64.wrap ((ws.length : Int) + 2) = ((ws.length + 2 : Nat) : Int) := by rw [show (ws.length : Int) + 2 = ((ws.length + 2 : Nat) : Int) by omega]; exact IntWalk.i64_in _ (by omega)
              have n0 := hM.cell
              have n1 := hM.lt
              have q0 := (HZ.out wr hb0w).2.1.cell
              have q1 := (HZ.out wr hb0w).2.1.lt
              have HBW := Lib.hid hb0w
              have HFL := Lib.hid hfl
              clear hG hGl hGm hT1 hO hLt hkL hb0w HLO hfl HPS HTL HCK HSG HTO HTG HSV21
              go_upto_region 43 with fail
              go_wp2_with fail
              refine HBO.out.mono ?_
              rintro e w24 ⟨A5, c5, b', rfl, ho5', ⟨hK', hTl', hFx'⟩, hb24⟩
              have HB24 := Lib.hid (HBW.out.next hb24 (Nat.le_refl _))
              have HKF := Lib.hid (And.intro hK' hFx')
              have HO5 := Lib.hid ho5'.sl
              have q0 := (HZ.out w24 HB24.out).2.1.cell
              have q1 := (HZ.out w24 HB24.out).2.1.lt
              have c0 := (HZ.out w24 HB24.out).2.2.2.2.2.1.cell
              have c1 := (HZ.out w24 HB24.out).2.2.2.2.2.1.lt
              clear n0 n1 hM hbw hb24 HBO ho5' hK' hTl' hFx'
              go_upto_region 47 with fail
              clear q0 q1 c0 c1
              go_loopw [202] (fun i wx => ∃ k : Nat, k ≤ 2 ∧ i = iv k ∧ Hid (Below w24.heap.size w24 wx)) (fun i _ => 2 - (intOf i).toNat)
              case atStart => exact ⟨0, by omega, rfl, Lib.hid (Below.refl _ _)⟩
              case round =>
                obtain ⟨k, hk, rfl, HBY⟩ := hrel
                by_cases hlt : k < 2
                · as_aux_lemma =>
                  have hki : (k : Int) < 2 := by omega
                  obtain ⟨xk, Ak, ck, Bk', dk, hidx, HUK⟩ : ∃ (xk : Weigh) (Ak : Option Addr) (ck : Nat) (Bk' : Option Addr) (dk : Nat), (∀ W, (Instr.index 34 (.agg #[iv E, .slice A0 ls.length c0, .slice B0 (ws.length + 1) d0, iv E, .slice A1 ls.length c1, .slice B1 (ws.length + 1) d1]) (iv (k : Int))).run Tryz.prog W = .ok (.agg #[iv E, .slice Ak ls.length ck, .slice Bk' (ws.length + 1) dk]) W) ∧ Hid (True_ E ls.length r (ws ++ [xk]) ∧ (∀ x ∈ ws ++ [xk], x ∈ G) ∧ ∀ W, Below wr.heap.size wr W → Sl lotE W Ak ls ∧ Sl weighE W Bk' (ws ++ [xk])) := by
                    match k, hlt with
                    | 0, _ => exact ⟨x0, A0, c0, B0, d0, fun _ => by kernel_rfl, Lib.hid ⟨HT0.out, HSUB.out.1, fun W h => (HZ.out W (HB24.out.next (HBY.out.next h (Nat.le_refl _)) (Nat.le_refl _))).2.2.2.2.2.2.1⟩⟩
                    | 1, _ => exact ⟨x1, A1, c1, B1, d1, fun _ => by kernel_rfl, Lib.hid ⟨HT1.out, HSUB.out.2, fun W h => (HZ.out W (HB24.out.next (HBY.out.next h (Nat.le_refl _)) (Nat.le_refl _))).2.2.2.2.2.2.2⟩⟩
                  go_upto_region 49 with fail
                  obtain ⟨w25, hw25⟩ : ∃ w25, w25 = wr.alloc (.cells #[iv E, .slice Ak ls.length ck, .slice Bk' (ws.length + 1) dk] 28) := ⟨_, rfl⟩
                  have hb25 : Below wr.heap.size wr w25 := by rw [hw25]; exact (Below.refl _ _).alloc (Nat.le_refl _) _
                  have hM25 : Blk w25 wr.heap.size 28 #[iv E, .slice Ak ls.length ck, .slice Bk' (ws.length + 1) dk] := by rw [hw25]; exact Blk.new _ _ _
                  rw [← hw25]
                  have hlw : (ws ++ [xk]).length = ws.length + 1 := by simp
                  have HBO := skBoundsOf_spec E Ak ls ck Bk' (ws ++ [xk]) dk r w25 (HUK.out.2.2 _ hb25).1 (HUK.out.2.2 _ hb25).2 (hok.few (by omega) fun x hx => (HUK.out.1 x hx).1) (HGO.out _ HUK.out.1)
                  rw [hlw] at HBO
                  have HBO := Lib.hid HBO
                  have n0 := hM25.cell
                  have n1 := hM25.lt
                  have HB25 := Lib.hid (HBY.out.next hb25 (Nat.le_refl _))
                  clear hw25 hb25 hM25 hlw hidx
                  go_wp2_with fail
                  refine HBO.out.mono ?_
                  rintro e w26 ⟨A6, c6, bk, rfl, ho6, ⟨hK6, hTl6, hFx6⟩, hb26⟩
                  have HB26 := Lib.hid (HB25.out.next hb26 (Nat.le_refl _))
                  have HS6 := Lib.hid ho6.sl
                  have HWI : Hid (∀ i, i < ls.length → lo bk i ≤ lo b' i ∧ hi b' i ≤ hi bk i ∧ lo b' i ≤ at_ r i ∧ at_ r i ≤ hi b' i) := Lib.hid fun i hi' => by
                    refine within (E := E) (fr := froms ls) (n := ls.length) (by omega) HTT.out HUK.out.2.1 ?_ ?_ ?_ ?_ i hi'
                    · have := HGO.out G HTT.out
                      rwa [HFL.out] at this
                    · have := hK6
                      rwa [HFL.out] at this
                    · have := HKF.out.1
                      rwa [HFL.out] at this
                    · have := HKF.out.2
                      rwa [HFL.out] at this
                  have HL6 : Hid ((bk.take ls.length).length = ls.length ∧ (b'.take ls.length).length = ls.length) := Lib.hid ⟨by rw [List.length_take, hK6.len]; omega, by rw [List.length_take, HKF.out.1.len]; omega⟩
                  clear n0 n1 HBO ho6 hK6 hTl6 hFx6 hb26
                  go_upto_region 53 with fail
                  go_loopw [221] (fun i wx => ∃ j : Nat, j ≤ ls.length ∧ i = iv j ∧ Hid (Below w26.heap.size w26 wx)) (fun i _ => ls.length - (intOf i).toNat)
                  case atStart => exact ⟨0, by omega, rfl, Lib.hid (Below.refl _ _)⟩
                  case round =>
                    obtain ⟨j, hj, rfl, HBV⟩ := hrel
                    by_cases hlt5 : j < ls.length
                    · as_aux_lemma =>
                      have hki : (j : Int) < (ls.length : Int) := by omega
                      have hbv := HB26.out.next HBV.out (Nat.le_refl _)
                      obtain ⟨g5, o5, rfl, hg5, hc50, hc51⟩ := Sl.atB (HO5.out.below hbv) HL6.out.2 hlt5
                      obtain ⟨p1, p2, p3, p4⟩ := HWI.out j hlt5
                      go_upto_region 55 with fail
                      obtain ⟨w27, hw27⟩ : ∃ w27, w27 = wr.alloc (.cells #[iv (lo b' j), iv (hi b' j)] 37) := ⟨_, rfl⟩
                      have hb27 : Below wr.heap.size wr w27 := by rw [hw27]; exact (Below.refl _ _).alloc (Nat.le_refl _) _
                      have hM27 : Blk w27 wr.heap.size 37 #[iv (lo b' j), iv (hi b' j)] := by rw [hw27]; exact Blk.new _ _ _
                      rw [← hw27]
                      have hbx := HBV.out.next hb27 (Nat.le_refl _)
                      obtain ⟨g6, o6, rfl, hg6, hc60, hc61⟩ := Sl.atB (HS6.out.below hbx) HL6.out.1 hlt5
                      obtain ⟨gr, or, dr, hAr, hgr, hdr, hcr⟩ := Sl.atI (HZ.out _ (HB24.out.next (HB26.out.next hbx (Nat.le_refl _)) (Nat.le_refl _))).2.2.1 (by rw [hrl]; exact hlt5)
                      subst hAr
                      have hdr2 : at_ r j = dr := by rw [at_, List.getD_eq_getElem?_getD, hdr]; rfl
                      rw [hdr2] at p3 p4
                      have HBX7 := Lib.hid hbx
                      have n0 := hM27.cell
                      have n1 := hM27.lt
                      generalize lo b' j = u0 at *
                      generalize hi b' j = u1 at *
                      generalize lo bk j = v0 at *
                      generalize hi bk j = v1 at *
                      have f1 : decide (u0 < v0) = false := decide_eq_false (by omega)
                      have f2 : decide (v1 < u1) = false := decide_eq_false (by omega)
                      have f3 : decide (dr < u0) = false := decide_eq_false (by omega)
                      have f4 : decide (u1 < dr) = false := decide_eq_false (by omega)
                      clear p1 p2 p3 p4 hc50 hc51 hw27 hb27 hM27 hbx hdr hdr2 hbv hg5
                      go_quiet (fail)
                      · have hR := below_q w27 nq
                        generalize w27.drewN nq = w28 at *
                        go_wp2_with fail
                        go_roundw
                        case rel => exact ⟨j + 1, by omega, by go_num, Lib.hid (HBX7.out.next hR (Nat.le_refl _))⟩
                        case measure => simp [intOf] <;> omega
                    · as_aux_lemma =>
                      have hki : ¬ (j : Int) < (ls.length : Int) := by omega
                      go_wp2_with fail
                      go_roundw
                      case rel => exact ⟨k + 1, by omega, by go_num, Lib.hid (HB26.out.next HBV.out (Nat.le_refl _))⟩
                      case measure => simp [intOf] <;> omega
                · as_aux_lemma =>
                  have hki : ¬ (k : Int) < 2 := by omega
                  have hbv := (HZ.out _ (HB24.out.next HBY.out (Nat.le_refl _))).1
                  go_wp2_with fail
                  go_ret
                  exact ⟨rfl, hbv⟩
end Bk
end Go.Proofs.YtlpoiggdjggkiaaGreatDoor
end
section
namespace Go.Proofs.YtlpoiggdjggkiaaGreatDoor.tbooked
open Go.ChangeShapes Go.WideShapes Go.ChangeAt Go.RowKit Go.Shelf
set_option maxRecDepth 100000
theorem tbG0 : Tryz.prog.globalNamed "strings.asciiSpace" = some 0 := by kernel_rfl
theorem tbG0ty : (Tryz.prog.globals[0]?).map (·.type) = some 137 := by kernel_rfl
theorem tbCells : Tryz.prog.cellsOf 137 = 256 := by kernel_rfl
theorem tbLaid {W : World} (h : laidMetH Tryz.prog Rows.topBookedRow.laid W) : laidMet Tryz.prog Rows.topBookedRow.laid W := by
  rwa [MakeChecks.laidMetH_plain _ _ _ (by kernel_rfl)] at h
theorem tbTab {W : World} (h : laidMetH Tryz.prog Rows.topBookedRow.laid W) : Fl.Tab W := by
  have h0 := (tbLaid h).tail.tail
  exact Lib.tabIs_of_head g0 g0ty Tryz.underlying206 Tryz.underlying58 cellsU64 cells20 h0
theorem tbSpaces {W : World} (h : laidMetH Tryz.prog Rows.topBookedRow.laid W) : Bk.Spaces W := by
  have h0 := (tbLaid h).tail.tail.tail.tail.tail.tail
  exact Lib.tabIs_of_head tbG0 tbG0ty Tryz.underlying137 Tryz.underlying5 cellsU8 tbCells h0
theorem tbContract (H : Type) (enc : TypeId × Value → H) (W : World) (base : Nat) (args : Array Value) (ds gs : List (DataW H)) (before : List MemPlace)
    (hval : ∀ (j : Nat) t v, Tryz.f3.params[j]? = some t → args[j]? = some v → Value.okWide Tryz.prog W .any base t v)
    (hW : DataW.Whole enc Tryz.prog Tryz.f3.params.toList Rows.topBookedSpec.vars false W args.toList ds gs before) (hL : laidMetH Tryz.prog Rows.topBookedRow.laid W) :
    Calls Tryz.prog 3 args W fun e W' => ∃ v, e = .returned v ∧ Rows.topBookedSpec.post enc Tryz.prog Tryz.f3 false true false false W args v W' := by
  have hW' := hW
  obtain ⟨p, q, hA0, hV, he, hfz, hnd⟩ := hW
  have hA : DataW.TrodAll enc Tryz.prog W 0 (fun _ => true) true Tryz.f3.params.toList args.toList ds p := hA0
  rw [Tryz.params3] at hA hval
  obtain ⟨v0, vs0, d0, ds0, p0, q0, hargs, rfl, rfl, h0, r0⟩ := trodAll_cons hA
  obtain ⟨v1, vs1, d1, ds1, p1, q1, rfl, rfl, rfl, h1, r1⟩ := trodAll_cons r0
  obtain ⟨rfl, rfl, rfl⟩ := trodAll_nil r1
  obtain rfl : args = #[v0, v1] := by cases args; simp_all
  obtain ⟨rfl, rfl⟩ := trodVars_none hV
  obtain ⟨A, bs, c, rfl, hc, hm, hs⟩ := openBytes (hval 0 _ v0 rfl rfl) h0
  obtain ⟨A', bs', c', rfl, hc', hm', hs'⟩ := openBytes (hval 1 _ v1 rfl rfl) h1
  refine (Bk.booked_law A bs c A' bs' c' W hs hs' (tbTab hL) (tbSpaces hL)).mono fun e W' ⟨he', hb⟩ => ?_
  subst he'
  exact ⟨_, rfl, law_post (by rw [Tryz.params3]; decide) rfl rfl Tryz.underlying4 hW' hb rfl rfl rfl⟩
noncomputable def tbWorld (os : Os) : World := World.laidAll Tryz.prog os Rows.topBookedRow.laid
theorem tbMet (os : Os) (args : Array Value) : laidMetH Tryz.prog Rows.topBookedRow.laid ((tbWorld os).forCall (fun _ _ => 0) ⟨#[], args, []⟩).memory := by
  rw [MakeChecks.laidMetH_plain _ _ _ (by kernel_rfl)]
  exact laidMet_laidAll _ (by kernel_rfl) (by kernel_rfl)
theorem tbReads (os : Os) {H : Type} (enc : TypeId × Value → H) : ∃ places, DataW.whole enc Tryz.prog ((tbWorld os).forCall (fun _ _ => 0) ⟨#[], #[.slice none 0 0, .slice none 0 0], []⟩).memory Tryz.f3.params.toList Rows.topBookedSpec.vars false #[Value.slice none 0 0, Value.slice none 0 0].toList 8 = some ([.nil, .nil], [], places) :=
  ⟨[], by kernel_rfl⟩
theorem tbLifted (os : Os) (started : os.Started) (H : Type) (enc : TypeId × Value → H) (F : Stop.Interp) :
    ReturnsInHanded {} Tryz.checked os 3 .any ((OpenSpec.ofChange Rows.topBookedSpec).preRow enc Tryz.prog Tryz.f3 Rows.topBookedRow.domain false Rows.topBookedRow.laid) (((OpenSpec.ofChange Rows.topBookedSpec).at F).post enc Tryz.prog Tryz.f3 false true false false) := by
  obtain ⟨places, hx⟩ := tbReads os enc
  refine returnsInHanded_of_row (C := Tryz.checked) (s := OpenSpec.ofChange Rows.topBookedSpec) own started (by kernel_rfl) Tryz.func3
    (witness_row_atRef (enc := enc) (C := Tryz.checked) false (tbWorld os) #[.slice none 0 0, .slice none 0 0] (World.laidAll_os _ _ _) (by kernel_rfl) (by kernel_rfl) (by kernel_rfl)
      (OpenSpec.preRow_of_cond 8 hx (by kernel_rfl) (fun k hk => by cases hk) (by kernel_rfl) (tbMet os _))) ?_
  intro W base args ds gs before hval hW _ _ _ hL _ _
  exact tbContract H enc W base args ds gs before hval hW hL
theorem tbSaid : Rows.TopBookedSaid :=
  OpenClaim.holds_of_cond 3 Tryz.f3 rfl rfl rfl rfl rfl rfl rfl ⟨rfl, rfl, rfl, rfl, rfl⟩ rfl rfl rfl rfl rfl (by kernel_rfl) Tryz.func3 (by kernel_rfl)
    (of_decide_eq_true (by kernel_rfl)) (by unfold Func.isWrapper; first | (rw [if_pos (by decide +kernel)]; kernel_rfl) | (rw [if_neg (by decide +kernel)]; exact ⟨rfl, rfl⟩))
    (fun os started H enc _ F => by rw [OpenClaim.pre_eq_preRow]; exact tbLifted os started H enc F)
theorem tbPlain (f : FuncId) (fn : Func) (hf : Tryz.pinned.checked.prog.funcNamed "petersham/petershamtop.TopBooked" = some f) (hfn : Tryz.pinned.checked.prog.funcs[f]? = some fn) :
    true = Tryz.pinned.checked.prog.looks [] ∧ ∀ (j : Nat) t, fn.params[j]? = some t → Tryz.pinned.checked.prog.wantsStandIn t = false := by
  obtain rfl : f = 3 := Option.some.inj ((show Tryz.prog.funcNamed "petersham/petershamtop.TopBooked" = some 3 by kernel_rfl).symm.trans hf) |>.symm
  obtain rfl : fn = Tryz.f3 := (Option.some.inj (Tryz.func3.symm.trans hfn)).symm
  refine ⟨by kernel_rfl, fun j t ht => ?_⟩
  rw [Tryz.params3] at ht
  have ht' := Array.mem_of_getElem? ht
  simp at ht'
  subst ht'
  exact (show Tryz.prog.wantsStandIn 22 = false by kernel_rfl)
/-- THE CARD. -/
theorem tbCard : Rows.TopBookedCardSaid :=
  Claim7.holds_tied_plain_at .later [] _ _ _ _ tbSaid (fun _ h => by cases h) (by kernel_rfl) (fun _ h => by cases h) topBooked_row_tie rfl ⟨rfl, rfl⟩ (by kernel_rfl) rfl tbPlain (by kernel_rfl)
end Go.Proofs.YtlpoiggdjggkiaaGreatDoor.tbooked
end
