/- What the proof of the claim's theorem uses, part 1. The conditions stand in each statement. -/
import Derived.WalkKit
import Derived.WalkSpells
import Derived.WalkLawsBesides
import Derived.WalkSmall
import Derived.Lib.Hide
import Derived.Laws.OwnMore
import Derived.Laws.CopyOwn
import Derived.Deep.Draws
import Derived.Laws.AppendOwnNone
import Derived.Test.YtekkhnjepcebkaaGreatDoorProg
import Derived.Outline
import Derived.BigQuiet
import Derived.Deep.QuietTactic
import Derived.Lib.OthersKept
import Derived.Laws.EntriesVeiled
import Derived.Shelf.Strings.Builder1
import Derived.Shelf.LaysM
import Derived.Shelf.Strconv.Itoa3
import Derived.Orders
import Derived.RegionTactic
import Derived.BigRegion
import Derived.Deep.DeepCutAuto
import Derived.Maps.OwnRows
import Derived.Maps.GroupsBeside
import Derived.Deep.RegionHeld3
import Derived.Lib.SliceRun
import Derived.RangeFuncNested
import Derived.RangeFuncBound
import Derived.RangeFuncCalls
import Derived.RangeFuncLeaves
import Derived.Shelf.Abstract
import Derived.Shelf.RegionOpen
import Derived.OwnWalkIn
import Derived.TacticsInMore
import Derived.LoopNIn
import Derived.LoopIn
import Derived.Sort.QuietIn
import Derived.Deep.Quiet
import Derived.Maps.AppendAt
import Derived.Shelf.Bits.Mul64
import Derived.ArgAppend
import Derived.Lib.MinMax
import Derived.ChangeKeysEq
import Derived.WalkMore
import Derived.Deep.CutBlock
import Derived.Laws.BytesArg
import Derived.Laws.IdiomStrings
import Derived.Shelf.Spec.SlicesInsert
import Derived.Shelf.Spec.SlicesInsertGrow
import Derived.Deep.RegionLaw
import Derived.Test.YtekkhnjepcebkaaGreatDoorCards
import Derived.Test.YtekkhnjepcebkaaGreatDoorTie
import Derived.ProofKit
import Derived.Deep.DeepHandedRow
import Derived.Lib.LaidTab
import Derived.Stop.LaidErr
import Derived.ChangeSame
import Derived.RowKit3
import Derived.ReadAgain
import Derived.OpenShut
import Derived.ChangeSlices
import Derived.SliceStrings
import Derived.Deep.Slices
import Derived.Deep.Fields
import Derived.Test.YtekkhnjepcebkaaGreatDoorCh7
set_option linter.unusedVariables false
set_option linter.unusedSimpArgs false
section
namespace Go.Proofs.YtekkhnjepcebkaaGreatDoor
open Go.RowKit
/-- A copy of ints within memory: from wherever the numbers ys lie, to the place k of the block g. -/
theorem run_copyG {P : Program} {t e : TypeId} {ty : TypeId} (ht : P.underlying t = some (.slice e)) (hsz : (P.info? e).map (·.size) = some 1) {w : World} {g : Nat} {zs ys : List Int} (hB : Blk w g e (zs.map iv).toArray) (k : Nat)
    {b off : Nat} (dl dc sl sc : Nat) (hn : ys.length = Nat.min sl dl) (hs : ∀ j y, ys[j]? = some y → w.cell? ⟨b, off + j, none⟩ = some (iv y)) (hfit : k + ys.length ≤ zs.length) :
    ∃ w2, (Builtin.copy_ #[t, t] ty #[.slice (some ⟨g, k, none⟩) dl dc, .slice (some ⟨b, off, none⟩) sl sc]).run P w = .ok (iv ys.length) w2 ∧ Blk w2 g e ((splice zs k ys).map iv).toArray ∧ Below g w w2 := by
  refine ⟨_, run_copy_row (P := P) w t t ty e g k dl dc ⟨b, off, none⟩ sl sc (zs.map iv).toArray e (ys.map iv) ht hsz hB (by simpa using hn) ?_ (by simpa using hfit) (ints_oneCell _ _) |>.trans ?_, ?_, below_setRow (Below.refl g w) (Nat.le_refl _) ((splice zs k ys).map iv).toArray⟩
  · intro j v hv
    rw [List.getElem?_map] at hv
    obtain ⟨y, hy, rfl⟩ := Option.map_eq_some_iff.1 hv
    have hadd : (⟨b, off, none⟩ : Addr).add j = ⟨b, off + j, none⟩ := by unfold Addr.add; split <;> simp_all
    rw [hadd]
    exact hs j y hy
  · simp [splice, goInt, List.map_append, List.map_take, List.map_drop]
  · exact setRow_heap w g _ _ e _ hB
theorem flat_int (xs : List Int) : xs.flatMap intE.cells = xs.map iv := by
  induction xs with
  | nil => rfl
  | cons x xs ih => rw [List.flatMap_cons, ih]; rfl
end Go.Proofs.YtekkhnjepcebkaaGreatDoor
end
section
namespace Go.Proofs.YtekkhnjepcebkaaGreatDoor
namespace Fl
open Go.RowKit
set_option maxRecDepth 100000
theorem check_of_good {l : List ByteArray} (h : Good l) : File.check l = 0 := by
  unfold File.check File.lined
  have h1 : ¬ 24 < l.length := by have := h.many; omega
  rw [if_neg h1, if_pos (List.all_eq_true.2 fun s hs => by have := h.wide s hs; simp only [File.wide, decide_eq_true_eq]; omega), if_pos (List.all_eq_true.2 fun s hs => h.ok s hs)]
end Fl
end Go.Proofs.YtekkhnjepcebkaaGreatDoor
end
section
namespace Go.Proofs.YtekkhnjepcebkaaGreatDoor
namespace File
set_option linter.unusedSectionVars false
section
variable {α : Type} [DecidableEq α]
theorem pairs_swap {a b : List α} : ∀ {l : List (Nat × Nat)} {i j : Nat}, Pairs a b i j l → Pairs b a j i (swap l)
  | [], _, _, _ => trivial
  | _ :: _, _, _, ⟨h1, h2, ⟨h3, h4, h5⟩, h6⟩ => ⟨h2, h1, ⟨h4, h3, h5.symm⟩, pairs_swap h6⟩
theorem back_go {a b : List α} : ∀ (l : List (Nat × Nat)) (i j : Nat), Pairs a b i j l → i ≤ a.length → j ≤ b.length → backGo ((j : Int) - i) (diffGo a b i j (l ++ [(a.length, b.length)])) = diffGo b a j i (swap l ++ [(b.length, a.length)]) := by
  intro l
  induction l with
  | nil =>
    intro i j _ hi hj
    simp only [List.nil_append, diffGo, swap, List.map_nil, List.append_nil]
    by_cases h : a.length = i ∧ b.length = j
    · rw [if_pos h, if_pos ⟨h.2, h.1⟩]; rfl
    · rw [if_neg h, if_neg (fun e => h ⟨e.2, e.1⟩)]
      simp only [backGo]
      congr 2
      omega
  | cons p r ih =>
    intro i j ⟨h1, h2, ⟨h3, h4, h5⟩, h6⟩ hi hj
    have := ih (p.1 + 1) (p.2 + 1) h6 (by omega) (by omega)
    rw [show ((p.2 + 1 : Nat) : Int) - ((p.1 + 1 : Nat) : Int) = (p.2 : Int) - p.1 by omega] at this
    simp only [List.cons_append, diffGo, swap, List.map_cons]
    by_cases h : p.1 = i ∧ p.2 = j
    · rw [if_pos h, if_pos ⟨h.2, h.1⟩]
      simp only [List.nil_append]
      obtain ⟨h7, h8⟩ := h
      subst h7 h8
      exact this
    · rw [if_neg h, if_neg (fun e => h ⟨e.2, e.1⟩)]
      simp only [List.cons_append, List.nil_append, backGo]
      rw [cut_length (Nat.le_of_lt h3) h1, cut_length (Nat.le_of_lt h4) h2]
      congr 1
      · congr 1
        omega
      · have h9 : (j : Int) - i + ((p.2 - j : Nat) : Int) - ((p.1 - i : Nat) : Int) = (p.2 : Int) - p.1 := by omega
        rw [h9]
        exact this
theorem back_back_go : ∀ (c : List (Edit α)) (n : Int), backGo (-n) (backGo n c) = c := by
  intro c
  induction c with
  | nil => intro n; rfl
  | cons x r ih =>
    intro n
    simp only [backGo]
    congr 1
    · cases x; simp; omega
    · have := ih (n + x.new.length - x.old.length)
      rw [show -n + (x.old.length : Int) - x.new.length = -(n + x.new.length - x.old.length) by omega]
      exact this
theorem back_back (c : List (Edit α)) : back (back c) = c := by
  have := back_back_go c 0
  simpa [back] using this
end
end File
end Go.Proofs.YtekkhnjepcebkaaGreatDoor
end
section
namespace Go.Proofs.YtekkhnjepcebkaaGreatDoor
namespace Fl
open Go.RowKit Go.Shelf
set_option maxRecDepth 100000
def mulRen : Ren := ⟨fun x => match x with | 212 => 139 | 263 => 178 | 264 => 179 | n => n,
  fun x => match x with | 46 => 192 | 51 => 230 | 146 => 231 | 53 => 146 | 148 => 233 | n => n, fun n => n⟩
theorem mulLays : Lays.n212 Tryz.prog mulRen where
  mixed := by kernel_rfl
  f212 := by kernel_rfl
  f263 := by kernel_rfl
  f264 := by kernel_rfl
  t46 := by kernel_rfl
  a46 := fun _ => by kernel_rfl
  z46 := fun _ => by kernel_rfl
  v46 := fun _ => by kernel_rfl
  t51 := by kernel_rfl
  a51 := fun _ => by kernel_rfl
  z51 := fun _ => by kernel_rfl
  v51 := fun _ => by kernel_rfl
  t53 := by kernel_rfl
  a53 := fun _ => by kernel_rfl
  z53 := fun _ => by kernel_rfl
  v53 := fun _ => by kernel_rfl
  t146 := by kernel_rfl
  a146 := fun _ => by kernel_rfl
  z146 := fun _ => by kernel_rfl
  v146 := fun _ => by kernel_rfl
  t148 := by kernel_rfl
  a148 := fun _ => by kernel_rfl
  z148 := fun _ => by kernel_rfl
  v148 := fun _ => by kernel_rfl
theorem mul_spec (n : Nat) (h : n ≤ 1000) (w : World) : Calls Tryz.prog 139 #[.int .u64 1, .int .u64 n] w fun e w' => e = .returned (.tuple #[.int .u64 0, .int .u64 n]) ∧ w = w' := by
  have := Any.bits_Mul mulLays 1 n (by omega) (by omega) w
  rw [Nat.one_mul, Nat.div_eq_of_lt (by omega), Nat.mod_eq_of_lt (by omega)] at this
  exact this.mono fun _ _ h => ⟨h.1, h.2.symm⟩
theorem rep_splice (x : Int) (n k m : Nat) (h : k + m ≤ n) : splice (List.replicate k x ++ List.replicate (n - k) 0) k (List.replicate m x) = List.replicate (k + m) x ++ List.replicate (n - (k + m)) 0 := by
  unfold splice
  rw [List.take_append_of_le_length (by simp), List.take_of_length_le (by simp), List.drop_append, List.drop_of_length_le (by simp), List.drop_replicate, List.nil_append, List.length_replicate, List.length_replicate, ← List.append_assoc, List.replicate_append_replicate]
  congr 2
  omega
theorem rep_at (x : Int) (n k j : Nat) (y : Int) (m : Nat) (hm : m ≤ k) (h : (List.replicate m x)[j]? = some y) : ((List.replicate k x ++ List.replicate (n - k) 0).map iv).toArray[j]? = some (iv y) := by
  have hj : j < m := by have := (List.getElem?_eq_some_iff.1 h).1; simpa using this
  rw [List.getElem?_replicate, if_pos hj] at h
  injection h with h
  subst h
  simp [List.getElem?_append_left, List.getElem?_replicate, show j < k by omega]
set_option maxHeartbeats 4000000 in
theorem repeat1_at (x : Int) (n : Nat) (w : World) (hn : n ≤ 1000) (g : Nat) (hg : g < w.heap.size) (hx0 : w.cell? ⟨g, 0, none⟩ = some (iv x)) : Calls Tryz.prog 85 #[.slice (some ⟨g, 0, none⟩) 1 1, iv n] w fun e w' =>
    ∃ v, e = .returned v ∧ Own intE 3 w.heap.size w' v (List.replicate n x) ∧ Below w.heap.size w w' := by
  have hsz : ((Tryz.prog).info? 3).map (·.size) = some 1 := by kernel_rfl
  by_cases h0 : n = 0
  · subst h0
    go_enter Tryz.func85, Tryz.ntmps85
    go_wp2_with (first
      | (go_at_call 139; refine (mul_spec 0 (by omega) _).mono ?_; rintro e w1 ⟨rfl, rfl⟩)
      | (at_make; refine wpMakeN intE tyInts 0 zero_int rfl _ _ rfl 0 rfl rfl (by unfold big; omega) ?_; intro w1 hown1 hb1; have hfull := hown1.full; rw [flat_int] at hfull; obtain ⟨hB1, hB1'⟩ := hfull;
         obtain ⟨w2, hcp, hB2, hb2⟩ := run_copyG (ty := 3) (ys := []) Tryz.underlying33 hsz hB1 0 0 0 1 1 rfl (b := g) (off := 0) (fun j y h => by cases h) (by simp)))
    go_loopw [8] (fun k wr => k = iv 0 ∧ wr = w2) (fun _ _ => 0)
    case atStart => exact ⟨rfl, rfl⟩
    case round =>
      obtain ⟨rfl, rfl⟩ := hrel
      go_wp2
      go_ret
      refine ⟨_, rfl, ?_, hb1.trans hb2⟩
      exact Own.ofBlk (xs := []) (by simpa [splice] using hB2) (Nat.le_refl _) (by simp [maxLen])
  · go_enter Tryz.func85, Tryz.ntmps85
    go_wp2_with (first
      | (go_at_call 139; refine (mul_spec n hn _).mono ?_; rintro e w1 ⟨rfl, rfl⟩)
      | (at_make; refine wpMakeN intE tyInts 0 zero_int rfl _ _ rfl n rfl rfl (by unfold big; omega) ?_; intro w1 hown1 hb1; have hfull := hown1.full; rw [flat_int] at hfull; obtain ⟨hB1, hB1'⟩ := hfull;
         obtain ⟨w2, hcp, hB2, hb2⟩ := run_copyG (ty := 3) (ys := [x]) Tryz.underlying33 hsz hB1 0 n n 1 1 ((Nat.min_eq_left (show 1 ≤ n by omega)).symm) (b := g) (off := 0) (fun j y h => by
           match j, h with
           | 0, h => (injection h with h; subst h; exact (hb1.cell (p := ⟨g, 0, none⟩) hg).trans hx0)) (by simp; omega)))
    have hB2' : Blk w2 w.heap.size 3 ((List.replicate 1 x ++ List.replicate (n - 1) 0).map iv).toArray := by
      have := rep_splice x n 0 1 (by omega)
      simp only [Nat.zero_add, List.replicate_zero, List.nil_append, Nat.sub_zero] at this
      rw [← this]
      exact hB2
    have hbA := hb1.trans hb2
    clear hB2 hcp hown1 hB1 hb1 hb2 hB1'
    go_loopw [8] (fun k wr => ∃ i : Nat, k = iv i ∧ 1 ≤ i ∧ i ≤ n ∧ Blk wr w.heap.size 3 ((List.replicate i x ++ List.replicate (n - i) 0).map iv).toArray ∧ Below w.heap.size w wr) (fun k _ => n - (intOf k).toNat)
    case atStart => exact ⟨1, rfl, by omega, by omega, hB2', hbA⟩
    case round =>
      obtain ⟨i, rfl, hi1, hin, hB, hb⟩ := hrel
      by_cases hlt : i < n
      · obtain ⟨m, hm⟩ : ∃ m, m = Nat.min i (n - i) := ⟨_, rfl⟩
        have hm1 : 1 ≤ m := by rw [hm]; exact Nat.le_min.2 ⟨by omega, by omega⟩
        have hm2 : m ≤ i := by rw [hm]; exact Nat.min_le_left _ _
        have hm3 : m ≤ n - i := by rw [hm]; exact Nat.min_le_right _ _
        obtain ⟨w3, hcp, hB3, hb3⟩ := run_copyG (P := Tryz.prog) (ty := 3) (w := wr.drew) (ys := List.replicate m x) Tryz.underlying33 hsz (show Blk wr.drew w.heap.size _ _ from hB) i (n - i) (n - i) i n (by rw [List.length_replicate]; exact hm) (b := w.heap.size) (off := 0) (fun j y h => by
          rw [Nat.zero_add, (show Blk wr.drew w.heap.size _ _ from hB).cell j]
          exact rep_at x n i j y m hm2 h) (by simp; omega)
        rw [rep_splice x n i m (by omega)] at hB3
        rw [List.length_replicate] at hcp
        have HB3 := Lib.hid hB3
        clear hB3
        go_wp2
        have ha1 : IntKind.i64.wrap ((i : Int) + (m : Int)) = ((i + m : Nat) : Int) := IntWalk.i64_in _ (by omega)
        clear hm
        go_region
        clear hcp ha1
        go_roundw
        case rel => exact ⟨_, _, _, _, _, _, _, _, _, _, _, _, _, _, ⟨i + m, rfl, by omega, by omega, HB3.out, hb.drew.trans hb3⟩, by push_cast; rfl⟩
        case measure => simp [intOf]; omega
      · obtain rfl : i = n := by omega
        go_wp2
        go_ret
        refine ⟨_, rfl, ?_, hb⟩
        have := Own.ofBlk (E := intE) (B := w.heap.size) (xs := List.replicate i x) (by rw [flat_int]; simpa using hB) (Nat.le_refl _) (by simp [maxLen]; omega)
        simpa using this
end Fl
end Go.Proofs.YtekkhnjepcebkaaGreatDoor
namespace Go.Proofs.YtekkhnjepcebkaaGreatDoor
namespace File
def putGo (old : List Int) (acc : List Int) (l : List (Nat × Nat)) : List Int := l.foldl (fun acc p => acc.set p.2 (old.getD p.1 0)) acc
/-- For each line of the v-th file the version in which it came. -/
def sinceAt (V : List (List ByteArray)) : Nat → List Int
  | 0 => List.replicate (V.getD 0 []).length 0
  | v + 1 => putGo (sinceAt V v) (List.replicate (V.getD (v + 1) []).length ((v + 1 : Nat) : Int)) (common (V.getD v []) (V.getD (v + 1) []))
theorem put_len (old : List Int) : ∀ (l : List (Nat × Nat)) (acc : List Int), (putGo old acc l).length = acc.length
  | [], _ => rfl
  | p :: l, acc => by
    show (putGo old (acc.set p.2 (old.getD p.1 0)) l).length = _
    rw [put_len old l, List.length_set]
theorem since_len (V : List (List ByteArray)) : ∀ v, (sinceAt V v).length = (V.getD v []).length
  | 0 => by simp [sinceAt]
  | v + 1 => by
    unfold sinceAt
    rw [put_len, List.length_replicate]
theorem put_snoc (old acc : List Int) (l : List (Nat × Nat)) (p : Nat × Nat) : putGo old acc (l ++ [p]) = (putGo old acc l).set p.2 (old.getD p.1 0) := by
  unfold putGo
  rw [List.foldl_append]; rfl
theorem since_take (V : List (List ByteArray)) (n : Nat) : ∀ v, v < n → sinceAt (V.take n) v = sinceAt V v
  | 0, h => by
    unfold sinceAt
    have : (V.take n).getD 0 [] = V.getD 0 [] := by simp [List.getD_eq_getElem?_getD, List.getElem?_take, h]
    rw [this]
  | v + 1, h => by
    have ih := since_take V n v (by omega)
    have e1 : (V.take n).getD v [] = V.getD v [] := by simp [List.getD_eq_getElem?_getD, List.getElem?_take, show v < n by omega]
    have e2 : (V.take n).getD (v + 1) [] = V.getD (v + 1) [] := by simp [List.getD_eq_getElem?_getD, List.getElem?_take, h]
    unfold sinceAt
    rw [ih, e1, e2]
theorem common_at {a b : List ByteArray} {p : Nat × Nat} (h : p ∈ common a b) : p.1 < a.length ∧ p.2 < b.length := by
  have : ∀ (l : List (Nat × Nat)) (i j : Nat), Pairs a b i j l → p ∈ l → p.1 < a.length ∧ p.2 < b.length := by
    intro l
    induction l with
    | nil => intro i j _ h; cases h
    | cons q r ih =>
      intro i j ⟨_, _, ⟨h1, h2, _⟩, h4⟩ hm
      rcases List.mem_cons.1 hm with rfl | hm
      · exact ⟨h1, h2⟩
      · exact ih _ _ h4 hm
  exact this _ 0 0 (common_pairs a b) h
end File
namespace Fl
open Go.RowKit
set_option maxRecDepth 100000
set_option maxHeartbeats 8000000 in
theorem since_spec (A : Option Addr) (rs : List (Rw ByteArray)) (c : Nat) (w : World) (n : Nat) (hn : rs.length = n + 1) (hm : n ≤ 100) (hs : Sl (rwE ByteArray) w A rs) (hr : RowsR strE w rs) (hg : ∀ r ∈ rs, Good r.xs) :
    Calls Tryz.prog 17 #[.slice A rs.length c] w fun e w' => ∃ v, e = .returned (.tuple #[v, iv 0]) ∧ Own intE 3 w.heap.size w' v (File.sinceAt (rs.map Rw.xs) n) ∧ Below w.heap.size w w' := by
  obtain ⟨V, hV⟩ : ∃ V, V = rs.map Rw.xs := ⟨_, rfl⟩
  rw [← hV]
  have HV : Hid (∀ (k : Nat) (x : Rw ByteArray), rs[k]? = some x → V.getD k [] = x.xs) := Lib.hid fun k x h => by rw [hV, List.getD_eq_getElem?_getD, List.getElem?_map, h]; rfl
  have HG := Lib.hid hg
  have HRR := Lib.hid fun W (h : Below w.heap.size w W) => hr.below h
  have hm0 : ((rs.length : Int) == 0) = false := by simp; intro h; rw [h] at hn; simp at hn
  have hrl : rs.length ≤ 101 := by omega
  have HN := Lib.hid hn
  clear hV hg hr hn
  go_enter Tryz.func17, Tryz.ntmps17
  go_wp2_with fail
  go_loopw [5, 6, 15] (fun _ _ i wr => ∃ k : Nat, k ≤ rs.length ∧ i = iv k ∧ Below w.heap.size w wr) (fun _ _ i _ => rs.length - (intOf i).toNat)
  case atStart => exact ⟨0, by omega, rfl, Below.refl _ _⟩
  case round =>
    obtain ⟨k, hk, rfl, hbr⟩ := hrel
    by_cases hlt : k < rs.length
    · have hki : (k : Int) < (rs.length : Int) := by omega
      obtain ⟨b, off, x, rfl, hb0, hx, hc0⟩ := Sl.atRw (hs.below hbr) hlt
      have hgx := HG.out x (mem_at hx)
      have hxr := HRR.out _ hbr x (mem_at hx)
      have HC := Lib.hid (check_spec x.A x.xs x.c wr (by have := hgx.many; unfold big; omega) hxr.1)
      rw [check_of_good hgx] at HC
      clear hx hgx hxr
      go_wp2_with fail
      refine HC.out.mono ?_
      rintro _ w1 ⟨rfl, hb1⟩
      go_wp2_with fail
      go_roundw
      case rel => exact ⟨k + 1, by omega, by go_num, hbr.next hb1 (Nat.le_refl _)⟩
      case measure => simp [intOf]; omega
    · have hki : ¬ (k : Int) < (rs.length : Int) := by omega
      clear hk hlt
      generalize wr = w2 at *
      have hb02 := hbr
      go_wp2_with fail
      go_loopw [7, 8, 9, 10, 12, 30] (fun v _ _ _ _ i wr => ∃ k : Nat, k ≤ rs.length ∧ i = iv k ∧ Hid (Own intE 3 w2.heap.size wr v (if k = 0 then [] else File.sinceAt V (k - 1))) ∧ Below w2.heap.size w2 wr) (fun _ _ _ _ _ i _ => rs.length - (intOf i).toNat)
      case atStart => exact ⟨0, by omega, rfl, Own.nil, Below.refl _ _⟩
      case round =>
        obtain ⟨k, hk, rfl, HO, hbr⟩ := hrel
        have hb0r := hb02.next hbr (Nat.le_refl _)
        by_cases hlt : k < rs.length
        · have hki : (k : Int) < (rs.length : Int) := by omega
          obtain ⟨b, off, fr, rfl, hb0, hx, hc0⟩ := Sl.atRw (hs.below hb0r) hlt
          have hgx := HG.out fr (mem_at hx)
          have hxm := hgx.many
          have hxv := HV.out k fr hx
          have HRP := Lib.hid (repeat1_at (k : Int) fr.xs.length (wr.alloc (.cells #[iv (k : Int)] 3)) (by omega) wr.heap.size (by simp) (by simp [go_sem]))
          have hbA : Below wr.heap.size wr (wr.alloc (.cells #[iv (k : Int)] 3)) := (Below.refl _ _).alloc (Nat.le_refl _) _
          have hxr := fun W (h : Below wr.heap.size wr W) => HRR.out W (hb0r.next h (Nat.le_refl _)) fr (mem_at hx)
          by_cases hk0 : k = 0
          · have hkz : ¬ (0 : Int) < (k : Int) := by omega
            have HS0 : Hid (List.replicate fr.xs.length (k : Int) = File.sinceAt V k) := Lib.hid (by rw [hk0]; unfold File.sinceAt; rw [← hk0, hxv, hk0]; rfl)
            clear hx hxr hxv hk0
            go_wp2_with fail
            refine HRP.out.mono ?_
            rintro _ w5 ⟨v5, rfl, ho5, hb5⟩
            have hbr5 := (hbr.next hbA (Nat.le_refl _)).next hb5 (Nat.le_refl _)
            go_wp2_with fail
            go_roundw
            case rel => exact ⟨k + 1, by omega, by go_num, Lib.hid (by rw [if_neg (by omega), Nat.add_sub_cancel, ← HS0.out]; exact ho5.base (hbr.next hbA (Nat.le_refl _)).size), hbr5⟩
            case measure => simp [intOf]; omega
          · obtain ⟨q, hq⟩ : ∃ q, k = q + 1 := ⟨k - 1, by omega⟩
            have hkz : (0 : Int) < (k : Int) := by omega
            have hql : q < rs.length := by omega
            have hqli : (q : Int) < (rs.length : Int) := by omega
            have eq2 : (k : Int) - 1 = (q : Int) := by omega
            have eq3 : IntKind.i64.wrap (q : Int) = (q : Int) := IntWalk.i64_in _ (by omega)
            have eq1 : IntKind.i64.wrap ((k : Int) - 1) = (q : Int) := by rw [eq2]; exact eq3
            obtain ⟨b', off', y, hA', _, hy, hd0⟩ := Sl.atRw (hs.below hb0r) hql
            injection hA' with hA'
            injection hA' with e1 e2 _
            subst e1; subst e2
            have hgy := HG.out y (mem_at hy)
            have hym := hgy.many
            have hyv := HV.out q y hy
            have hyr := fun W (h : Below wr.heap.size wr W) => HRR.out W (hb0r.next h (Nat.le_refl _)) y (mem_at hy)
            have hOO := HO.out
            rw [if_neg hk0, show k - 1 = q by omega] at hOO
            have hSS : File.sinceAt V k = File.putGo (File.sinceAt V q) (List.replicate fr.xs.length (k : Int)) (File.common y.xs fr.xs) := by
              have hx2 : V.getD (q + 1) [] = fr.xs := by rw [← hq]; exact hxv
              rw [hq]
              show File.putGo (File.sinceAt V q) (List.replicate (V.getD (q + 1) []).length ((q + 1 : Nat) : Int)) (File.common (V.getD q []) (V.getD (q + 1) [])) = _
              rw [hx2, hyv]
            have holn : (File.sinceAt V q).length = y.xs.length := by rw [File.since_len, hyv]
            obtain ⟨S0, hS0⟩ : ∃ S0, S0 = File.sinceAt V q := ⟨_, rfl⟩
            rw [← hS0] at hOO hSS holn
            obtain ⟨L, hL⟩ : ∃ L, L = File.common y.xs fr.xs := ⟨_, rfl⟩
            have HLM : Hid (∀ p ∈ L, p.1 < S0.length ∧ p.2 < fr.xs.length) := Lib.hid fun p hp => by
              rw [holn]; rw [hL] at hp; exact File.common_at hp
            have hLl : L.length ≤ 24 := by rw [hL, File.common_length]; exact Nat.le_trans (File.lcs_most _ _) hym
            have HCM := Lib.hid fun W (h : Below wr.heap.size wr W) => common_spec y.A y.xs y.c fr.A fr.xs fr.c W hym hxm (hyr W h).1 (hxr W h).1 (fun s hs => by have := hgy.wide s hs; omega) (fun s hs => by have := hgx.wide s hs; omega)
            rw [← hL] at hSS
            simp only [← hL] at HCM
            have HSS := Lib.hid hSS
            have HOO := Lib.hid hOO
            have HKQ := Lib.hid hq
            have hd1 := (hbA.cell (p := ⟨b, off + q, none⟩) hb0).trans hd0
            clear hx hxr hxv hk0 hq hy hyv hyr hOO hSS holn hS0 hL HO
            go_wp2_with fail
            refine HRP.out.mono ?_
            rintro _ w5 ⟨v5, rfl, ho5, hb5⟩
            have hbr5 := hbA.next hb5 (Nat.le_refl _)
            have hd5 := (hb5.cell (p := ⟨b, off + q, none⟩) (Nat.lt_of_lt_of_le hb0 hbA.size)).trans hd1
            have hb5s : b < w5.heap.size := Nat.lt_of_lt_of_le (Nat.lt_of_lt_of_le hb0 hbA.size) hb5.size
            go_wp2_with fail
            refine (HCM.out _ hbr5).mono ?_
            rintro _ w6 ⟨v6, rfl, ho6, hb6⟩
            obtain ⟨A6, c6, rfl, _, _⟩ := ho6.form
            have hbr6 := hbr5.next hb6 (Nat.le_refl _)
            have HL6 := Lib.hid (ho6.base hbr5.size)
            have ho5' : Own intE 3 wr.heap.size w6 v5 (List.replicate fr.xs.length (k : Int)) := (ho5.below hb6).base hbA.size
            have HOO6 := Lib.hid (HOO.out.below hbr6)
            clear ho5 hb5 hd5 hd1 hd0 ho6 hb6 HCM HRP hbA hc0
            generalize wr = w3 at *
            go_wp2_with fail
            go_loopw [12, 50] (fun _ i wx => ∃ j : Nat, j ≤ L.length ∧ i = iv j ∧ Hid (Own intE 3 w3.heap.size wx v5 (File.putGo S0 (List.replicate fr.xs.length (k : Int)) (L.take j))) ∧ Hid (Own intE 3 w2.heap.size wx u7 S0) ∧ Hid (Own pairE 137 w3.heap.size wx (.slice A6 L.length c6) L) ∧ Below w3.heap.size w6 wx) (fun _ i _ => L.length - (intOf i).toNat)
            case atStart => exact ⟨0, by omega, rfl, ho5', HOO6, HL6, Below.refl _ _⟩
            case round =>
              obtain ⟨j, hj, rfl, HNW, HOL, HLO, hbx⟩ := hrel
              by_cases hjl : j < L.length
              · have hji : (j : Int) < (L.length : Int) := by omega
                obtain ⟨bl, ol, p, hA6, hbl, hp, hc0, hc1⟩ := Sl.atPr HLO.out.sl hjl
                subst hA6
                obtain ⟨hp1, hp2⟩ := HLM.out p (mem_at hp)
                have htk : L.take (j + 1) = L.take j ++ [p] := by rw [List.take_add_one, hp]; rfl
                obtain ⟨px, py⟩ := p
                simp only at hp1 hp2 hc0 hc1
                have hnl : (File.putGo S0 (List.replicate fr.xs.length (k : Int)) (L.take j)).length = fr.xs.length := by rw [File.put_len, List.length_replicate]
                obtain ⟨gn, cn, x0, e5, hgn, hgnl, _, hcn, hfn⟩ := ownI HNW.out (k := py) (by rw [hnl]; exact hp2)
                rw [hnl] at e5
                subst e5
                obtain ⟨go_, co, ov, e7, _, hgol, hov, hco, _⟩ := ownI HOL.out (k := px) hp1
                subst e7
                have hgo3 : go_ < w3.heap.size := (HOO.out.lt go_ rfl).2
                have hne : go_ ≠ gn := by omega
                have hgd : S0.getD px 0 = ov := by rw [List.getD_eq_getElem?_getD, hov]; rfl
                have hbM : Below wr.heap.size wr (wr.alloc (.cells #[iv (px : Int), iv (py : Int)] 137)) := (Below.refl _ _).alloc (Nat.le_refl _) _
                have HBX : Hid (Blk (wr.alloc (.cells #[iv (px : Int), iv (py : Int)] 137)) wr.heap.size 137 #[iv (px : Int), iv (py : Int)]) := Lib.hid (Blk.new _ _ _)
                go_upto_region 19 with fail
                generalize wr.alloc (.cells #[iv (px : Int), iv (py : Int)] 137) = wM at *
                have HOC : Hid (∀ z, Below wM.heap.size wM z → z.cell? ⟨go_, px, none⟩ = some (iv ov)) := Lib.hid fun z h => ((hbM.next h (Nat.le_refl _)).cell (p := ⟨go_, px, none⟩) hgol).trans hco
                have HNC : Hid (∀ z, Below wM.heap.size wM z → z.cell? ⟨gn, py, none⟩ = some (iv x0) ∧ (∀ o, z.frozen? ⟨gn, o, none⟩ = false) ∧ gn < z.heap.size) := Lib.hid fun z h => ⟨((hbM.next h (Nat.le_refl _)).cell (p := ⟨gn, py, none⟩) hgnl).trans hcn, fun o => by
                  have := (hbM.next h (Nat.le_refl _)).block gn hgnl
                  have h2 := hfn o
                  unfold World.frozen? at h2 ⊢
                  simp only [this]
                  exact h2, Nat.lt_of_lt_of_le hgnl (hbM.next h (Nat.le_refl _)).size⟩
                have HNM := Lib.hid fun z (h : Below wM.heap.size wM z) => HNW.out.below (hbM.next h (Nat.le_refl _))
                have HOM := Lib.hid fun z (h : Below wM.heap.size wM z) => HOL.out.below (hbM.next h (Nat.le_refl _))
                have HLX := Lib.hid fun z (h : Below wM.heap.size wM z) => HLO.out.below (hbM.next h (Nat.le_refl _))
                have hpxi : (px : Int) < (S0.length : Int) := by omega
                have hpyi : (py : Int) < (fr.xs.length : Int) := by omega
                clear hc0 hc1 hp hcn hfn hco hov
                refine wp_free_lit (by kernel_rfl) 9 (by kernel_rfl) (by kernel_rfl) (by decide) (fun _ x => Below wM.heap.size wM x) (fun x x' => Below x.heap.size x x')
                  [fun _ u _ => u = .slice (some ⟨gn, 0, none⟩) fr.xs.length cn,
                   fun _ u _ => u = .pointer (some ⟨wr.heap.size, 1, none⟩),
                   fun _ u _ => u = iv (py : Int),
                   fun _ u _ => u = .slice (some ⟨go_, 0, none⟩) S0.length co,
                   fun _ u _ => u = .pointer (some ⟨wr.heap.size, 0, none⟩),
                   fun _ u _ => u = iv (px : Int),
                   fun _ u _ => u = .pointer (some ⟨go_, px, none⟩),
                   fun _ u _ => u = iv ov,
                   fun _ u _ => u = .pointer (some ⟨gn, py, none⟩)]
                  (Below.refl _ wM).drew ?_ ?_
                · simp only [List.take_succ_cons, List.take_zero, HopL]
                  refine ⟨?_, ?_, ?_, ?_, ?_, ?_, ?_, ?_, ?_, trivial⟩
                  · refine ⟨fun _ _ _ _ _ h => h, fun _ _ _ _ h _ => h, fun v n x hn hR hk => ?_⟩
                    simp only [List.take_succ_cons, List.take_zero, frameF, Act.put, List.setIfInBounds_toArray, List.set_cons_zero, List.set_cons_succ]
                    exact stepF_val (by first | rfl | simp [Region.wanted, yielded, *]) (by go_simp <;> omega) ⟨rfl, Below.refl _ _, hR⟩
                  · refine ⟨fun _ _ _ _ _ h => h, fun _ _ _ _ h _ => h, fun v n x hn hR hk => ?_⟩
                    simp only [List.take_succ_cons, List.take_zero, frameF, Act.put, List.setIfInBounds_toArray, List.set_cons_zero, List.set_cons_succ]
                    exact stepF_val (by first | rfl | simp [Region.wanted, yielded, *]) (by go_simp <;> omega) ⟨rfl, Below.refl _ _, hR⟩
                  · refine ⟨fun _ _ _ _ _ h => h, fun _ _ _ _ h _ => h, fun v n x hn hR hk => ?_⟩
                    have h1 : v 1 = .pointer (some ⟨wr.heap.size, 1, none⟩) := hk 1 (by kernel_rfl)
                    have g0 := (Blk.under HBX.out hR).cell 0
                    have g1 := (Blk.under HBX.out hR).cell 1
                    simp only [List.take_succ_cons, List.take_zero, frameF, Act.put, List.setIfInBounds_toArray, List.set_cons_zero, List.set_cons_succ]
                    exact stepF_val (by first | rfl | simp [Region.wanted, yielded, *]) (by go_simp <;> omega) ⟨rfl, Below.refl _ _, hR⟩
                  · refine ⟨fun _ _ _ _ _ h => h, fun _ _ _ _ h _ => h, fun v n x hn hR hk => ?_⟩
                    simp only [List.take_succ_cons, List.take_zero, frameF, Act.put, List.setIfInBounds_toArray, List.set_cons_zero, List.set_cons_succ]
                    exact stepF_val (by first | rfl | simp [Region.wanted, yielded, *]) (by go_simp <;> omega) ⟨rfl, Below.refl _ _, hR⟩
                  · refine ⟨fun _ _ _ _ _ h => h, fun _ _ _ _ h _ => h, fun v n x hn hR hk => ?_⟩
                    simp only [List.take_succ_cons, List.take_zero, frameF, Act.put, List.setIfInBounds_toArray, List.set_cons_zero, List.set_cons_succ]
                    exact stepF_val (by first | rfl | simp [Region.wanted, yielded, *]) (by go_simp <;> omega) ⟨rfl, Below.refl _ _, hR⟩
                  · refine ⟨fun _ _ _ _ _ h => h, fun _ _ _ _ h _ => h, fun v n x hn hR hk => ?_⟩
                    have h4 : v 4 = .pointer (some ⟨wr.heap.size, 0, none⟩) := hk 4 (by kernel_rfl)
                    have g0 := (Blk.under HBX.out hR).cell 0
                    have g1 := (Blk.under HBX.out hR).cell 1
                    simp only [List.take_succ_cons, List.take_zero, frameF, Act.put, List.setIfInBounds_toArray, List.set_cons_zero, List.set_cons_succ]
                    exact stepF_val (by first | rfl | simp [Region.wanted, yielded, *]) (by go_simp <;> omega) ⟨rfl, Below.refl _ _, hR⟩
                  · refine ⟨fun _ _ _ _ _ h => h, fun _ _ _ _ h _ => h, fun v n x hn hR hk => ?_⟩
                    have h3 : v 3 = .slice (some ⟨go_, 0, none⟩) S0.length co := hk 3 (by kernel_rfl)
                    have h5 : v 5 = iv (px : Int) := hk 5 (by kernel_rfl)
                    simp only [List.take_succ_cons, List.take_zero, frameF, Act.put, List.setIfInBounds_toArray, List.set_cons_zero, List.set_cons_succ]
                    exact stepF_val (by first | rfl | simp [Region.wanted, yielded, *]) (by go_simp <;> omega) ⟨rfl, Below.refl _ _, hR⟩
                  · refine ⟨fun _ _ _ _ _ h => h, fun _ _ _ _ h _ => h, fun v n x hn hR hk => ?_⟩
                    have h6 : v 6 = .pointer (some ⟨go_, px, none⟩) := hk 6 (by kernel_rfl)
                    have g2 := HOC.out x hR
                    simp only [List.take_succ_cons, List.take_zero, frameF, Act.put, List.setIfInBounds_toArray, List.set_cons_zero, List.set_cons_succ]
                    exact stepF_val (by first | rfl | simp [Region.wanted, yielded, *]) (by go_simp <;> omega) ⟨rfl, Below.refl _ _, hR⟩
                  · refine ⟨fun _ _ _ _ _ h => h, fun _ _ _ _ h _ => h, fun v n x hn hR hk => ?_⟩
                    have h0 : v 0 = .slice (some ⟨gn, 0, none⟩) fr.xs.length cn := hk 0 (by kernel_rfl)
                    have h2 : v 2 = iv (py : Int) := hk 2 (by kernel_rfl)
                    simp only [List.take_succ_cons, List.take_zero, frameF, Act.put, List.setIfInBounds_toArray, List.set_cons_zero, List.set_cons_succ]
                    exact stepF_val (by first | rfl | simp [Region.wanted, yielded, *]) (by go_simp <;> omega) ⟨rfl, Below.refl _ _, hR⟩
                · intro v n x1 hn hR hall
                  have h7 : v 7 = iv ov := hall 7 (by decide)
                  have h8 : v 8 = .pointer (some ⟨gn, py, none⟩) := hall 8 (by decide)
                  clear hall hn
                  simp only [List.drop_succ_cons, List.drop_zero, List.take_succ_cons, List.take_zero, frameF, Act.put, List.setIfInBounds_toArray, List.set_cons_zero, List.set_cons_succ, Nat.zero_add, Nat.reduceAdd, h7, h8]
                  obtain ⟨y1, y2, y3⟩ := HNC.out x1 hR
                  have hN2 : Own intE 3 w3.heap.size (x1.setCell ⟨gn, py, none⟩ (iv ov)) (.slice (some ⟨gn, 0, none⟩) fr.xs.length cn) (File.putGo S0 (List.replicate fr.xs.length (k : Int)) (L.take (j + 1))) := by
                    rw [htk, File.put_snoc, hgd]
                    exact setI (HNM.out x1 hR) (by rw [hnl]; exact hp2) ov
                  have hO2 : Own intE 3 w2.heap.size (x1.setCell ⟨gn, py, none⟩ (iv ov)) (.slice (some ⟨go_, 0, none⟩) S0.length co) S0 := (HOM.out x1 hR).keep (by simp [World.setCell]) fun b hb => Below.heap_setCell _ _ _ _ (by
                    have : go_ = b := by simpa [Value.ownBlock] using hb
                    show b ≠ gn; omega)
                  have hBn : ∃ cs, Blk x1 gn 3 cs := by
                    rcases (HNM.out x1 hR).2 with ⟨hv, _⟩ | ⟨g', cap, cur, hv, _, hB, _⟩
                    · cases hv
                    · injection hv with k1 _ _; injection k1 with k1; injection k1 with k1 _ _; subst k1; exact ⟨cur, hB⟩
                  have hL2 : Own pairE 137 w3.heap.size (x1.setCell ⟨gn, py, none⟩ (iv ov)) (.slice (some ⟨bl, ol, none⟩) L.length c6) L := (HLX.out x1 hR).keep (by simp [World.setCell]) fun b hb => Below.heap_setCell _ _ _ _ (by
                    obtain ⟨cs, hB⟩ := hBn
                    intro e
                    have e : b = gn := e
                    subst e
                    exact ownNeBlk (HLX.out x1 hR) hB (by decide) hb)
                  have hbz : Below w3.heap.size w6 (x1.setCell ⟨gn, py, none⟩ (iv ov)) := ((hbx.trans ((hbM.mono (Nat.le_trans hbr6.size hbx.size)).trans (hR.mono (Nat.le_trans (Nat.le_trans hbr6.size hbx.size) hbM.size))))).setCell (p := ⟨gn, py, none⟩) hgn _
                  have HN2 := Lib.hid hN2
                  have HO2 := Lib.hid hO2
                  have HL2 := Lib.hid hL2
                  clear hN2 hO2 hL2 hBn
                  go_wp2_with fail
                  go_roundw
                  case rel => exact ⟨j + 1, by omega, by go_num, HN2, HO2, HL2, hbz⟩
                  case measure => simp [intOf]; omega
              · have hji : ¬ (j : Int) < (L.length : Int) := by omega
                have hnw := HNW.out
                rw [List.take_of_length_le (by omega), ← HSS.out] at hnw
                have HNK := Lib.hid hnw
                have hb23 := hbr.next hbr6 (Nat.le_refl _)
                have hb2x : Below w2.heap.size w2 wr := hb23.trans (hbx.mono hbr.size)
                clear hnw HNW HOL
                go_wp2_with fail
                go_roundw
                case rel => exact ⟨k + 1, by omega, by go_num, Lib.hid (by rw [if_neg (by omega), Nat.add_sub_cancel]; exact HNK.out.base hbr.size), hb2x⟩
                case measure => simp [intOf]; omega
        · have hki : ¬ (k : Int) < (rs.length : Int) := by omega
          have hn := HN.out
          have hO := HO.out
          rw [if_neg (by omega), show k - 1 = n by omega] at hO
          have HO2 := Lib.hid (hO.base hb02.size)
          clear hn hO HO
          go_wp2_with fail
          go_ret2
          exact ⟨_, rfl, HO2.out, hb0r⟩
end Fl
end Go.Proofs.YtekkhnjepcebkaaGreatDoor
end
section
namespace Go.Proofs.YtekkhnjepcebkaaGreatDoor
namespace Fl
open Go.RowKit
set_option maxRecDepth 100000
theorem int_eq (p q : Int) : (p == q) = decide (p = q) := by rw [Bool.eq_iff_iff]; simp
theorem equalI (A : Option Addr) (xs : List Int) (c : Nat) (A' : Option Addr) (ys : List Int) (c' : Nat) (w : World) (hm : xs.length ≤ big) (hs : Sl intE w A xs) (hm' : ys.length ≤ big) (hs' : Sl intE w A' ys) :
    Calls Tryz.prog 87 #[.slice A xs.length c, .slice A' ys.length c'] w fun e w' => e = .returned (.bool (decide (xs = ys))) ∧ Below w.heap.size w w' := by
  unfold big at hm hm'
  by_cases hl : xs.length = ys.length
  · have hl' : ((xs.length : Int) != (ys.length : Int)) = false := by simp [hl]
    have HL := Lib.hid hl
    clear hl
    go_enter Tryz.func87, Tryz.ntmps87
    go_wp2
    go_loopw [5, 13] (fun _ i wr => ∃ (k : Nat), k ≤ xs.length ∧ i = iv k ∧ Hid (xs.take k = ys.take k) ∧ Below w.heap.size w wr) (fun _ i _ => xs.length - (intOf i).toNat)
    case atStart => exact ⟨0, by omega, rfl, rfl, Below.refl _ _⟩
    case round =>
      obtain ⟨k, hk, rfl, hf, hbw⟩ := hrel
      by_cases hlt : k < xs.length
      · obtain ⟨b, off, p, rfl, hb, hp, hp0⟩ := Sl.atI (hs.below hbw) hlt
        obtain ⟨b', off', q, rfl, hb', hq, hq0⟩ := Sl.atI (hs'.below hbw) (by have := HL.out; omega : k < ys.length)
        have hly : (k : Int) < (ys.length : Int) := by have := HL.out; omega
        have hlx : (k : Int) < (xs.length : Int) := by omega
        have heq := int_eq p q
        have HP := Lib.hid hp
        have HQ := Lib.hid hq
        clear hp hq hs hs'
        by_cases hpq : p = q
        · rw [decide_eq_true hpq] at heq
          have HPQ := Lib.hid hpq
          clear hpq
          go_wp2
          go_quiet (fail)
          have hqd : Below w.heap.size w (wr.drewN nq) := ⟨hbw.os, hbw.tape, hbw.output, hbw.size, hbw.block⟩
          generalize wr.drewN nq = wq at *
          go_wp2
          go_roundw
          case rel => exact ⟨k + 1, by omega, by go_num, by
            show xs.take (k + 1) = ys.take (k + 1)
            rw [List.take_add_one, List.take_add_one, HP.out, HQ.out, HPQ.out, hf.out], hqd⟩
          case measure => simp [intOf]; omega
        · rw [decide_eq_false hpq] at heq
          have HPQ := Lib.hid hpq
          clear hpq
          go_wp2
          go_quiet (fail)
          have hqd : Below w.heap.size w (wr.drewN nq) := ⟨hbw.os, hbw.tape, hbw.output, hbw.size, hbw.block⟩
          generalize wr.drewN nq = wq at *
          go_wp2
          go_ret
          exact ⟨ret_eq (by rw [decide_eq_false (take_ne' HP.out HQ.out HPQ.out)]; rfl), hqd⟩
      · have he : xs = ys := by
          have := hf.out
          rwa [List.take_of_length_le (by omega), List.take_of_length_le (by have := HL.out; omega)] at this
        have HE := Lib.hid he
        clear he
        go_wp2
        go_ret
        exact ⟨ret_eq (by rw [decide_eq_true HE.out]; rfl), (by first | exact hbw | exact hbw.drew)⟩
  · have hl' : ((xs.length : Int) != (ys.length : Int)) = true := by simp; omega
    go_enter Tryz.func87, Tryz.ntmps87
    go_wp2
    go_ret
    exact ⟨ret_eq (by rw [decide_eq_false (fun h => hl (by rw [h]))]; rfl), Below.refl _ _⟩
theorem eqI (A : Option Addr) (xs : List Int) (c : Nat) (A' : Option Addr) (ys : List Int) (c' : Nat) (w : World) (hm : xs.length ≤ big) (hs : Sl intE w A xs) (hm' : ys.length ≤ big) (hs' : Sl intE w A' ys) :
    Calls Tryz.prog 20 #[.slice A xs.length c, .slice A' ys.length c'] w fun e w' => e = .returned (.bool (decide (xs = ys))) ∧ Below w.heap.size w w' := by
  go_enter Tryz.func20, Tryz.ntmps20
  go_wp2_with (go_at_call 87; refine (equalI A xs c A' ys c' w hm hs hm' hs').mono ?_; rintro e w1 ⟨rfl, hb1⟩)
  go_ret
  exact ⟨rfl, hb1⟩
theorem equalRowsS (A : Option Addr) (xs : List (Rw ByteArray)) (c : Nat) (A' : Option Addr) (ys : List (Rw ByteArray)) (c' : Nat) (w : World) (hm : xs.length ≤ big) (hs : Sl (rwE ByteArray) w A xs) (hm' : ys.length ≤ big) (hs' : Sl (rwE ByteArray) w A' ys)
    (hx : ∀ r ∈ xs, Sl strE w r.A r.xs ∧ r.xs.length ≤ big) (hy : ∀ r ∈ ys, Sl strE w r.A r.xs ∧ r.xs.length ≤ big) :
    Calls Tryz.prog 88 #[.slice A xs.length c, .slice A' ys.length c', .func (.func 18) #[] #[]] w fun e w' => e = .returned (.bool (decide (xs.map Rw.xs = ys.map Rw.xs))) ∧ Below w.heap.size w w' := by
  unfold big at hm hm'
  by_cases hl : xs.length = ys.length
  · have hl' : ((xs.length : Int) != (ys.length : Int)) = false := by simp [hl]
    have HL := Lib.hid hl
    clear hl
    go_enter Tryz.func88, Tryz.ntmps88
    go_wp2
    go_loopw [7, 8, 9, 17] (fun _ _ _ i wr => ∃ (k : Nat), k ≤ xs.length ∧ i = iv k ∧ Hid ((xs.map Rw.xs).take k = (ys.map Rw.xs).take k) ∧ Below w.heap.size w wr) (fun _ _ _ i _ => xs.length - (intOf i).toNat)
    case atStart => exact ⟨0, by omega, rfl, rfl, Below.refl _ _⟩
    case round =>
      obtain ⟨k, hk, rfl, hf, hbw⟩ := hrel
      by_cases hlt : k < xs.length
      · obtain ⟨b, off, x, rfl, hb, hx0, hc0⟩ := Sl.atRw (hs.below hbw) hlt
        obtain ⟨b', off', y, rfl, hb', hy0, hd0⟩ := Sl.atRw (hs'.below hbw) (by have := HL.out; omega : k < ys.length)
        have hly : (k : Int) < (ys.length : Int) := by have := HL.out; omega
        have hlx : (k : Int) < (xs.length : Int) := by omega
        obtain ⟨ox, lx1⟩ := hx x (mem_at hx0)
        obtain ⟨oy, ly1⟩ := hy y (mem_at hy0)
        have HS := Lib.hid (equalS x.A x.xs x.c y.A y.xs y.c wr lx1 (ox.below hbw) ly1 (oy.below hbw))
        have HX : Hid ((xs.map Rw.xs)[k]? = some x.xs) := Lib.hid (by rw [List.getElem?_map, hx0]; rfl)
        have HY : Hid ((ys.map Rw.xs)[k]? = some y.xs) := Lib.hid (by rw [List.getElem?_map, hy0]; rfl)
        clear hx0 hy0 hs hs' hx hy ox oy
        by_cases hxy : x.xs = y.xs
        · rw [decide_eq_true hxy] at HS
          have HXY := Lib.hid hxy
          clear hxy
          go_wp2_with fail
          refine HS.out.mono ?_
          rintro e w2 ⟨rfl, hb2⟩
          go_wp2_with fail
          go_roundw
          case rel => exact ⟨k + 1, by omega, by go_num, by
            show (xs.map Rw.xs).take (k + 1) = (ys.map Rw.xs).take (k + 1)
            rw [List.take_add_one, List.take_add_one, HX.out, HY.out, HXY.out, hf.out], hbw.next hb2 (Nat.le_refl _)⟩
          case measure => simp [intOf]; omega
        · rw [decide_eq_false hxy] at HS
          have HXY := Lib.hid hxy
          clear hxy
          go_wp2_with fail
          refine HS.out.mono ?_
          rintro e w2 ⟨rfl, hb2⟩
          go_wp2_with fail
          go_ret
          exact ⟨ret_eq (by rw [decide_eq_false (take_ne' HX.out HY.out HXY.out)]; rfl), hbw.next hb2 (Nat.le_refl _)⟩
      · have he : xs.map Rw.xs = ys.map Rw.xs := by
          have := hf.out
          rwa [List.take_of_length_le (by rw [List.length_map]; omega), List.take_of_length_le (by rw [List.length_map]; have := HL.out; omega)] at this
        have HE := Lib.hid he
        clear he
        go_wp2
        go_ret
        exact ⟨ret_eq (by rw [decide_eq_true HE.out]; rfl), hbw⟩
  · have hl' : ((xs.length : Int) != (ys.length : Int)) = true := by simp; omega
    go_enter Tryz.func88, Tryz.ntmps88
    go_wp2
    go_ret
    exact ⟨ret_eq (by rw [decide_eq_false (fun h => hl (by have := congrArg List.length h; simpa using this))]; rfl), Below.refl _ _⟩
theorem eqRowsS (A : Option Addr) (xs : List (Rw ByteArray)) (c : Nat) (A' : Option Addr) (ys : List (Rw ByteArray)) (c' : Nat) (w : World) (hm : xs.length ≤ big) (hs : Sl (rwE ByteArray) w A xs) (hm' : ys.length ≤ big) (hs' : Sl (rwE ByteArray) w A' ys)
    (hx : ∀ r ∈ xs, Sl strE w r.A r.xs ∧ r.xs.length ≤ big) (hy : ∀ r ∈ ys, Sl strE w r.A r.xs ∧ r.xs.length ≤ big) :
    Calls Tryz.prog 21 #[.slice A xs.length c, .slice A' ys.length c'] w fun e w' => e = .returned (.bool (decide (xs.map Rw.xs = ys.map Rw.xs))) ∧ Below w.heap.size w w' := by
  go_enter Tryz.func21, Tryz.ntmps21
  go_wp2_with fail
  refine (equalRowsS A xs c A' ys c' w hm hs hm' hs' hx hy).mono ?_
  rintro e w1 ⟨rfl, hb1⟩
  go_wp2_with fail
  go_ret
  exact ⟨rfl, hb1⟩
theorem tyRowsS : SlTy Tryz.prog 23 22 1 := slTy_of (z := .slice none 0 0) (bytes := 24) Tryz.underlying23 (by kernel_rfl) rfl (by decide)
set_option maxHeartbeats 1000000 in
theorem dupRowsS (A : Option Addr) (xs : List (Rw ByteArray)) (c : Nat) (w : World) (hm : xs.length ≤ big) (hs : Sl (rwE ByteArray) w A xs) (hx : ∀ r ∈ xs, Sl strE w r.A r.xs ∧ r.xs.length ≤ big) :
    Calls Tryz.prog 12 #[.slice A xs.length c] w fun e w' => ∃ v rs, e = .returned v ∧ Own (rwE ByteArray) 22 w.heap.size w' v rs ∧ rs.map Rw.xs = xs.map Rw.xs ∧ (∀ r ∈ rs, Own strE 9 w.heap.size w' (.slice r.A r.xs.length r.c) r.xs ∧ r.xs.length ≤ r.c) ∧ Below w.heap.size w w' := by
  go_enter Tryz.func12, Tryz.ntmps12
  go_wp2_with (at_make; refine wpMake0 (rwE ByteArray) tyRowsS rfl _ _ rfl xs.length rfl rfl hm ?_; intro w1 hown1 hb1)
  unfold big at hm
  have hG1 := hb1.size
  go_loopw [3, 5, 11] (fun v _ i wr => ∃ (k : Nat) (rs : List (Rw ByteArray)), k ≤ xs.length ∧ i = iv (k : Int) ∧ Hid (Own (rwE ByteArray) 22 w.heap.size wr v rs) ∧ Hid (rs.map Rw.xs = (xs.map Rw.xs).take k) ∧ Hid (∀ r ∈ rs, Own strE 9 w.heap.size wr (.slice r.A r.xs.length r.c) r.xs ∧ r.xs.length ≤ r.c) ∧ Below w.heap.size w wr) (fun _ _ i _ => xs.length - (intOf i).toNat)
  case atStart => exact ⟨0, [], Nat.zero_le _, rfl, hown1, Lib.hid rfl, Lib.hid (fun r h => by cases h), hb1⟩
  case round =>
    obtain ⟨k, rs, hk, rfl, HO, HM, HR, hbr⟩ := hrel
    by_cases hlt : k < xs.length
    · have hki : (k : Int) < (xs.length : Int) := by omega
      obtain ⟨b, off, x, rfl, hb, hx0, hc0⟩ := Sl.atRw (hs.below hbr) hlt
      obtain ⟨hsx, hlx⟩ := hx x (mem_at hx0)
      have HD := Lib.hid (dupS x.A x.xs x.c wr hlx (hsx.below hbr))
      have HXK : Hid ((xs.map Rw.xs)[k]? = some x.xs) := Lib.hid (by rw [List.getElem?_map, hx0]; rfl)
      have hrl : rs.length = k := by have := congrArg List.length HM.out; rw [List.length_map, List.length_take, List.length_map] at this; omega
      have HRL := Lib.hid hrl
      clear hx0 hsx hrl
      go_wp2_with fail
      refine HD.out.mono ?_
      rintro e w2 ⟨v2, rfl, ho2, hb2⟩
      obtain ⟨X, cx, rfl, hcx, _⟩ := ho2.form
      have hb02 := hbr.next hb2 (Nat.le_refl _)
      have HO2 := Lib.hid (HO.out.below hb2)
      have HR2 : Hid (∀ r ∈ rs, Own strE 9 w.heap.size w2 (.slice r.A r.xs.length r.c) r.xs ∧ r.xs.length ≤ r.c) := Lib.hid fun r hr => ⟨(HR.out r hr).1.below hb2, (HR.out r hr).2⟩
      have ho2 := Lib.hid (ho2.base hbr.size)
      clear HO HR HD
      go_wp2_with (at_builtin; refine wpApp1 (rwE ByteArray) tyRowsS rfl _ _ rfl HO2.out (⟨X, cx, x.xs⟩ : Rw ByteArray) rfl rfl rfl hb02.size (by have := HRL.out; unfold big; omega) ?_; intro v3 w3 hown3 hb3 hk3)
      have HR3 : Hid (∀ r ∈ rs ++ [(⟨X, cx, x.xs⟩ : Rw ByteArray)], Own strE 9 w.heap.size w3 (.slice r.A r.xs.length r.c) r.xs ∧ r.xs.length ≤ r.c) := Lib.hid fun r hr => by
        have hrow : ∀ r' : Rw ByteArray, Own strE 9 w.heap.size w2 (.slice r'.A r'.xs.length r'.c) r'.xs → Own strE 9 w.heap.size w3 (.slice r'.A r'.xs.length r'.c) r'.xs := fun r' ho => ho.keep (by have := hb3.size; omega) fun g hg => hk3 g (ho.lt g hg).2 (fun hv => Own.two HO2.out ho (by decide) hv hg)
        rcases List.mem_append.1 hr with hr | hr
        · exact ⟨hrow r (HR2.out r hr).1, (HR2.out r hr).2⟩
        · simp only [List.mem_singleton] at hr
          subst hr
          exact ⟨hrow _ ho2.out, hcx⟩
      have HM3 : Hid ((rs ++ [(⟨X, cx, x.xs⟩ : Rw ByteArray)]).map Rw.xs = (xs.map Rw.xs).take (k + 1)) := Lib.hid (by rw [List.map_append, HM.out, List.take_add_one, HXK.out]; rfl)
      have HO3 := Lib.hid hown3
      clear hown3 HO2 HR2 HM hk3
      go_roundw
      case rel => exact ⟨k + 1, _, by omega, by go_num, HO3, HM3, HR3, hb02.trans hb3⟩
      case measure => simp [intOf]; omega
    · have hki : ¬ (k : Int) < (xs.length : Int) := by omega
      have HM2 : Hid (rs.map Rw.xs = xs.map Rw.xs) := Lib.hid (by rw [HM.out, List.take_of_length_le (by rw [List.length_map]; omega)])
      clear HM
      go_wp2_with fail
      go_ret
      exact ⟨_, rfl, rs, HO.out, HM2.out, HR.out, hbr⟩
end Fl
end Go.Proofs.YtekkhnjepcebkaaGreatDoor
end
section
namespace Go.Proofs.YtekkhnjepcebkaaGreatDoor
namespace File
set_option linter.unusedSectionVars false
section
variable {α : Type} [DecidableEq α]
/-- Conflicts lie one behind the other, with a line between them. -/
def Parts (n : Nat) : Nat → List (Nat × Nat) → Prop
  | _, [] => True
  | i, p :: r => i ≤ p.1 ∧ p.1 ≤ p.2 ∧ p.2 ≤ n ∧ Parts n (p.2 + 1) r
theorem Parts.weaken {n : Nat} : ∀ {l : List (Nat × Nat)} {i i' : Nat}, Parts n i l → i' ≤ i → Parts n i' l
  | [], _, _, _, _ => trivial
  | _ :: _, _, _, ⟨h1, h2⟩, h => ⟨Nat.le_trans h h1, h2⟩
theorem joinGo_parts {base : List α} {n : Nat} : ∀ {l : List (Block α)} {i j : Nat}, BlocksOk n i l → Parts n i (joinGo base j l).2
  | [], _, _, _ => trivial
  | b :: r, i, j, ⟨h1, h2, h3, _, _, _, _, h8⟩ => by
    have ih : Parts n (b.hi + 1) (joinGo base b.hi r).2 := joinGo_parts h8
    simp only [joinGo]
    split
    · exact ih.weaken (by omega)
    · split
      · exact ih.weaken (by omega)
      · exact ⟨h1, h2, h3, ih⟩
theorem join_parts (base a b : List α) : Parts base.length 0 (join base a b).2 := joinGo_parts (blocks_ok (chain_diff base a) (chain_diff base b) (within_diff base a) (within_diff base b))
theorem mem_cut {a : List α} {i k : Nat} {s : α} (h : s ∈ cut a i k) : s ∈ a := List.mem_of_mem_drop (List.mem_of_mem_take h)
end
end File
end Go.Proofs.YtekkhnjepcebkaaGreatDoor
namespace Go.Proofs.YtekkhnjepcebkaaGreatDoor
namespace File
theorem ordered_of : ∀ {c : List (Edit ByteArray)} {lo : Nat}, Chain lo c → ordered c = true
  | [], _, _ => rfl
  | [_], _, _ => rfl
  | x :: y :: r, lo, ⟨h1, h2⟩ => by
    have ih := ordered_of h2
    unfold ordered
    rw [Bool.and_eq_true, Bool.not_eq_true', decide_eq_false_iff_not]
    refine ⟨?_, ih⟩
    have := h2.1
    unfold Edit.hi at this
    omega
theorem go_some {a b : List ByteArray} : ∀ (l : List (Nat × Nat)) (i j : Nat), Pairs a b i j l → i ≤ a.length → j ≤ b.length → ∀ x ∈ diffGo a b i j (l ++ [(a.length, b.length)]), 0 < x.old.length + x.new.length
  | [], i, j, _, hi, hj, x, hx => by
    simp only [List.nil_append, diffGo, List.append_nil] at hx
    split at hx
    · cases hx
    · rename_i h
      rw [List.mem_singleton.1 hx]
      simp only [cut_length (Nat.le_refl _) hi, cut_length (Nat.le_refl _) hj]
      omega
  | p :: r, i, j, ⟨h1, h2, ⟨h3, h4, _⟩, h6⟩, hi, hj, x, hx => by
    simp only [List.cons_append, diffGo] at hx
    rcases List.mem_append.1 hx with hx | hx
    · split at hx
      · cases hx
      · rename_i h
        rw [List.mem_singleton.1 hx]
        simp only [cut_length (Nat.le_of_lt h3) h1, cut_length (Nat.le_of_lt h4) h2]
        omega
    · exact go_some r _ _ h6 (by omega) (by omega) x hx
theorem go_mem {a b : List ByteArray} : ∀ (l : List (Nat × Nat)) (i j : Nat), ∀ x ∈ diffGo a b i j l, (∀ s ∈ x.old, s ∈ a) ∧ (∀ s ∈ x.new, s ∈ b) ∧ x.old.length ≤ a.length ∧ x.new.length ≤ b.length
  | [], _, _, _, h => by cases h
  | p :: r, i, j, x, h => by
    unfold diffGo at h
    rcases List.mem_append.1 h with h | h
    · split at h
      · cases h
      · rw [List.mem_singleton.1 h]
        exact ⟨fun s hs => mem_cut hs, fun s hs => mem_cut hs, cut_len _ _ _, cut_len _ _ _⟩
    · exact go_mem r _ _ x h
theorem lined_ok {l : List ByteArray} (h : ∀ s ∈ l, okLine s = true ∧ s.size ≤ 40) : lined l = 0 := by
  unfold lined
  rw [if_pos (List.all_eq_true.2 fun s hs => by have := (h s hs).2; simp only [wide, decide_eq_true_eq]; omega), if_pos (List.all_eq_true.2 fun s hs => (h s hs).1)]
theorem ch_go {a b : List ByteArray} (ga : Fl.Good a) (gb : Fl.Good b) {l : List (Nat × Nat)} (hp : Pairs a b 0 0 l) : ChOk (diffGo a b 0 0 (l ++ [(a.length, b.length)])) := by
  obtain ⟨hc, hw⟩ := chain_go l 0 0 hp (Nat.zero_le _) (Nat.zero_le _)
  have h1 := ga.many
  have h2 := gb.many
  have hm := go_mem (a := a) (b := b) (l ++ [(a.length, b.length)]) 0 0
  refine ⟨fun x hx => ?_, fun x hx => by have := (hm x hx).2.2.1; omega, fun x hx => by have := (hm x hx).2.2.2; omega, go_some l 0 0 hp (Nat.zero_le _) (Nat.zero_le _), lined_ok fun s hs => ?_, ordered_of hc⟩
  · have k1 : ((0 : Nat) : Int) ≤ x.at_ := hc.pos x hx
    have k2 : x.at_.toNat + x.old.length ≤ a.length := hw x hx
    omega
  · obtain ⟨x, hx, hs⟩ := List.mem_flatMap.1 hs
    rcases List.mem_append.1 hs with hs | hs
    · have := (hm x hx).1 s hs; exact ⟨ga.ok s this, ga.wide s this⟩
    · have := (hm x hx).2.1 s hs; exact ⟨gb.ok s this, gb.wide s this⟩
theorem backTry_of : ∀ {c : List (Edit ByteArray)} {n : Int}, (∀ x ∈ backGo n c, x.at_ ≤ 24) → backTry n c = some (backGo n c)
  | [], _, _ => rfl
  | x :: r, n, h => by
    have h0 := h ⟨x.at_ + n, x.new, x.old⟩ (by simp [backGo])
    simp only at h0
    unfold backTry backGo
    rw [if_neg (by omega), show n + ((x.new.length : Int) - (x.old.length : Int)) = n + x.new.length - x.old.length by omega, backTry_of (fun y hy => h y (by unfold backGo; exact List.mem_cons_of_mem _ hy))]
    rfl
/-- A change of a file into another one, and back. -/
theorem back_facts {a b : List ByteArray} (ga : Fl.Good a) (gb : Fl.Good b) : checkChange (diff a b) = 0 ∧ checkChange (back (diff a b)) = 0 ∧ backAns (diff a b) = (back (diff a b), 0) ∧ backAns (back (diff a b)) = (diff a b, 0) := by
  have hp := common_pairs a b
  have e1 : back (diff a b) = diffGo b a 0 0 (swap (common a b) ++ [(b.length, a.length)]) := by
    have := back_go (common a b) 0 0 hp (Nat.zero_le _) (Nat.zero_le _)
    simpa [back, diff] using this
  have c1 : ChOk (diff a b) := ch_go ga gb hp
  have c2 : ChOk (back (diff a b)) := by rw [e1]; exact ch_go gb ga (pairs_swap hp)
  have e2 := back_back (diff a b)
  refine ⟨ch_zero c1, ch_zero c2, ?_, ?_⟩
  · unfold backAns
    rw [if_pos (ch_zero c1), backTry_of (n := 0) (fun x hx => (c2.at_ x hx).2)]
    rfl
  · unfold backAns
    rw [if_pos (ch_zero c2), backTry_of (n := 0) (fun x hx => (c1.at_ x (by rw [← e2]; exact hx)).2)]
    show (back (back (diff a b)), (0 : Int)) = _
    rw [e2]
end File
end Go.Proofs.YtekkhnjepcebkaaGreatDoor
namespace Go.Proofs.YtekkhnjepcebkaaGreatDoor
namespace File
section
variable {α : Type} [DecidableEq α]
theorem parts_len {n : Nat} : ∀ {l : List (Nat × Nat)} {i : Nat}, Parts n i l → l ≠ [] → l.length + i ≤ n + 1
  | [], _, _, h => absurd rfl h
  | [p], i, ⟨h1, h2, h3, _⟩, _ => by simp; omega
  | p :: q :: r, i, ⟨h1, h2, h3, h4⟩, _ => by
    have := parts_len h4 (by simp)
    simp only [List.length_cons] at this ⊢
    omega
end
end File
end Go.Proofs.YtekkhnjepcebkaaGreatDoor
namespace Go.Proofs.YtekkhnjepcebkaaGreatDoor
namespace File
theorem joinAns_good {base a b : List ByteArray} (gB : Fl.Good base) (ga : Fl.Good a) (gb : Fl.Good b) : joinAns base a b = if 24 < (join base a b).1.length then (2, [], []) else (0, (join base a b).1, (join base a b).2) := by
  unfold joinAns Fl.errOf
  rw [if_neg (by rw [Fl.check_of_good gB]; simp), if_pos (Fl.check_of_good ga), if_neg (by rw [Fl.check_of_good gb]; simp)]
theorem joinAns_small {base a b : List ByteArray} (gB : Fl.Good base) (ga : Fl.Good a) (gb : Fl.Good b) : (joinAns base a b).2.1.length ≤ 24 ∧ (joinAns base a b).2.2.length ≤ 25 := by
  rw [joinAns_good gB ga gb]
  split
  · exact ⟨Nat.zero_le _, Nat.zero_le _⟩
  · refine ⟨by simp only; omega, ?_⟩
    have hp := join_parts base a b
    simp only
    by_cases h : (join base a b).2 = []
    · rw [h]; exact Nat.zero_le _
    · have := parts_len hp h
      have := gB.many
      omega
end File
end Go.Proofs.YtekkhnjepcebkaaGreatDoor
end
section
namespace Go.Proofs.YtekkhnjepcebkaaGreatDoor
namespace File
set_option linter.unusedSectionVars false
section
variable {α : Type} [DecidableEq α]
/-- Which copy has the next edit. -/
def firstCopy : List (Edit α) → List (Edit α) → Bool
  | [], _ => true
  | _ :: _, [] => false
  | x :: _, y :: _ => decide (y.at_ < x.at_)
def Firsts : List (Bool × Edit α) → Prop
  | [] => True
  | p :: r => p.1 = firstCopy (filt false (p :: r)) (filt true (p :: r)) ∧ Firsts r
theorem merge_firsts : ∀ (n : Nat) (c d : List (Edit α)), c.length + d.length ≤ n → Firsts (mergeGo n c d)
  | 0, _, _, _ => trivial
  | n + 1, [], [], _ => trivial
  | n + 1, [], y :: d, h => by
    obtain ⟨h1, h2⟩ := merge_filt (n + 1) [] (y :: d) h
    refine ⟨?_, merge_firsts n [] d (by simp at h ⊢; omega)⟩
    show true = firstCopy (filt false (mergeGo (n + 1) [] (y :: d))) (filt true (mergeGo (n + 1) [] (y :: d)))
    rw [h1, h2]; rfl
  | n + 1, x :: c, [], h => by
    obtain ⟨h1, h2⟩ := merge_filt (n + 1) (x :: c) [] h
    refine ⟨?_, merge_firsts n c [] (by simp at h ⊢; omega)⟩
    show false = firstCopy (filt false (mergeGo (n + 1) (x :: c) [])) (filt true (mergeGo (n + 1) (x :: c) []))
    rw [h1, h2]; rfl
  | n + 1, x :: c, y :: d, h => by
    obtain ⟨h1, h2⟩ := merge_filt (n + 1) (x :: c) (y :: d) h
    by_cases hlt : y.at_ < x.at_
    · have e : mergeGo (n + 1) (x :: c) (y :: d) = (true, y) :: mergeGo n (x :: c) d := by
        show (if y.at_ < x.at_ then _ else _) = _
        rw [if_pos hlt]
      rw [e] at h1 h2 ⊢
      refine ⟨?_, merge_firsts n (x :: c) d (by simp at h ⊢; omega)⟩
      rw [h1, h2]
      exact (decide_eq_true hlt).symm
    · have e : mergeGo (n + 1) (x :: c) (y :: d) = (false, x) :: mergeGo n c (y :: d) := by
        show (if y.at_ < x.at_ then _ else _) = _
        rw [if_neg hlt]
      rw [e] at h1 h2 ⊢
      refine ⟨?_, merge_firsts n c (y :: d) (by simp at h ⊢; omega)⟩
      rw [h1, h2]
      exact (decide_eq_false hlt).symm
/-- Blocks that grew edit by edit; the first one is of the copy f. -/
inductive Conn (f : Bool) : Block α → Prop
  | new (x : Edit α) : 0 ≤ x.at_ → Conn f (Block.new f x)
  | add (b : Block α) (k : Bool) (x : Edit α) : Conn f b → 0 ≤ x.at_ → x.lo ≤ b.hi → (∀ y, y ∈ b.e0 ∨ y ∈ b.e1 → y.lo ≤ x.lo) → (∀ y, y ∈ (if k then b.e1 else b.e0) → y.hi < x.lo) → Conn f (b.add k x)
theorem Conn.first {f : Bool} {b : Block α} (h : Conn f b) : (if f then b.e1 else b.e0) ≠ [] := by
  induction h with
  | new x _ => cases f <;> simp [Block.new]
  | add b k x _ _ _ _ _ ih => cases f <;> cases k <;> simp_all [Block.add]
theorem Conn.pos {f : Bool} {b : Block α} (h : Conn f b) : ∀ y, y ∈ b.e0 ∨ y ∈ b.e1 → 0 ≤ y.at_ ∧ b.lo ≤ y.lo ∧ y.hi ≤ b.hi := by
  induction h with
  | new x h0 =>
    intro y hy
    have : y = x := by cases f <;> simpa [Block.new] using hy
    subst this
    exact ⟨h0, Nat.le_refl _, Nat.le_refl _⟩
  | add b k x hc h0 _ hl _ ih =>
    intro y hy
    have : (y ∈ b.e0 ∨ y ∈ b.e1) ∨ y = x := by
      cases k <;> simp only [Block.add, Bool.false_eq_true, if_false, if_true, List.mem_append, List.mem_singleton] at hy
      · rcases hy with (h | h) | h
        · exact .inl (.inl h)
        · exact .inr h
        · exact .inl (.inr h)
      · rcases hy with h | (h | h)
        · exact .inl (.inl h)
        · exact .inl (.inr h)
        · exact .inr h
    rcases this with h | rfl
    · obtain ⟨a1, a2, a3⟩ := ih y h
      exact ⟨a1, a2, Nat.le_trans a3 (Nat.le_max_left _ _)⟩
    · refine ⟨h0, ?_, Nat.le_max_right _ _⟩
      have hf := hc.first
      obtain ⟨z, hz⟩ : ∃ z, z ∈ b.e0 ∨ z ∈ b.e1 := by
        cases f
        · obtain ⟨z, r, hzr⟩ := List.exists_cons_of_ne_nil hf
          exact ⟨z, .inl (by simp only [Bool.false_eq_true, if_false] at hzr; rw [hzr]; simp)⟩
        · obtain ⟨z, r, hzr⟩ := List.exists_cons_of_ne_nil hf
          exact ⟨z, .inr (by simp only [if_true] at hzr; rw [hzr]; simp)⟩
      exact Nat.le_trans (ih z hz).2.1 (hl z hz)
theorem Conn.loAt {f : Bool} {b : Block α} (h : Conn f b) : ∃ y, (y ∈ b.e0 ∨ y ∈ b.e1) ∧ y.lo = b.lo := by
  induction h with
  | new x h0 => exact ⟨x, by cases f <;> simp [Block.new], rfl⟩
  | add b k x _ _ _ _ _ ih =>
    obtain ⟨y, hy, he⟩ := ih
    refine ⟨y, ?_, he⟩
    cases k
    · rcases hy with h | h
      · exact .inl (List.mem_append_left _ h)
      · exact .inr h
    · rcases hy with h | h
      · exact .inl h
      · exact .inr (List.mem_append_left _ h)
theorem Conn.hiAt {f : Bool} {b : Block α} (h : Conn f b) : ∃ y, (y ∈ b.e0 ∨ y ∈ b.e1) ∧ y.hi = b.hi := by
  induction h with
  | new x h0 => exact ⟨x, by cases f <;> simp [Block.new], rfl⟩
  | add b k x _ _ _ _ _ ih =>
    obtain ⟨y, hy, he⟩ := ih
    by_cases hm : b.hi ≤ x.hi
    · refine ⟨x, ?_, (Nat.max_eq_right hm).symm⟩
      cases k
      · exact .inl (List.mem_append_right _ (by simp))
      · exact .inr (List.mem_append_right _ (by simp))
    · refine ⟨y, ?_, he.trans (Nat.max_eq_left (by omega)).symm⟩
      cases k
      · rcases hy with h | h
        · exact .inl (List.mem_append_left _ h)
        · exact .inr h
      · rcases hy with h | h
        · exact .inl h
        · exact .inr (List.mem_append_left _ h)
theorem meet_of {x y : Edit α} (hx : 0 ≤ x.at_) (hy : 0 ≤ y.at_) (h1 : x.lo ≤ y.hi) (h2 : y.lo ≤ x.hi) : meet x y = true := by
  unfold Edit.lo Edit.hi at h1 h2
  unfold meet
  simp only [Bool.and_eq_true, decide_eq_true_eq]
  omega
theorem meet_no {x y : Edit α} (hx : 0 ≤ x.at_) (hy : 0 ≤ y.at_) (h : y.hi < x.lo) : meet x y = false := by
  unfold Edit.lo Edit.hi at h
  unfold meet
  simp only [Bool.and_eq_false_iff, decide_eq_false_iff_not]
  omega
/-- No next edit meets one that is there. -/
def Still (e0 e1 : List (Edit α)) (i0 i1 : Nat) : Prop :=
  (∀ x, e0[i0]? = some x → ∀ j y, j < i1 → e1[j]? = some y → meet x y = false) ∧ ∀ x, e1[i1]? = some x → ∀ j y, j < i0 → e0[j]? = some y → meet x y = false
theorem Conn.whole {f : Bool} {b : Block α} (h : Conn f b) : ∀ {i0 i1 : Nat}, i0 ≤ b.e0.length → i1 ≤ b.e1.length → 0 < (if f then i1 else i0) → Still b.e0 b.e1 i0 i1 → i0 = b.e0.length ∧ i1 = b.e1.length := by
  induction h with
  | new x h0 =>
    intro i0 i1 h1 h2 h3 _
    cases f <;> simp [Block.new] at h1 h2 h3 ⊢ <;> omega
  | add b k x hc h0 hl hle hown ih =>
    intro i0 i1 h1 h2 h3 hs
    have hfst := hc.first
    cases k
    · simp only [Block.add, Bool.false_eq_true, if_false, List.length_append, List.length_cons, List.length_nil] at h1 h2 hs ⊢
      obtain ⟨s1, s2⟩ := hs
      by_cases hi : i0 = b.e0.length + 1
      · have hst : Still b.e0 b.e1 b.e0.length i1 := ⟨fun z hz => (by rw [List.getElem?_eq_none (Nat.le_refl _)] at hz; cases hz), fun z hz j y hj hy => s2 z hz j y (by omega) (by rw [List.getElem?_append_left hj]; exact hy)⟩
        have := ih (Nat.le_refl _) h2 (by
          cases f
          · simp only [Bool.false_eq_true, if_false] at hfst ⊢
            exact List.length_pos_iff.2 hfst
          · exact h3) hst
        exact ⟨hi, this.2⟩
      · have hst : Still b.e0 b.e1 i0 i1 := ⟨fun z hz j y hj hy => s1 z (by
          rw [List.getElem?_append_left (List.getElem?_eq_some_iff.1 hz).1]; exact hz) j y hj hy, fun z hz j y hj hy => s2 z hz j y hj (by
          rw [List.getElem?_append_left (List.getElem?_eq_some_iff.1 hy).1]; exact hy)⟩
        obtain ⟨e0, e1⟩ := ih (by omega) h2 h3 hst
        exfalso
        obtain ⟨y, hy, hye⟩ := hc.hiAt
        have hp := hc.pos y hy
        rcases hy with hy | hy
        · have := hown y (by simpa using hy)
          omega
        · obtain ⟨j, hj⟩ := List.getElem?_of_mem hy
          have hjl := (List.getElem?_eq_some_iff.1 hj).1
          have := s1 x (by rw [e0]; simp) j y (by omega) hj
          rw [meet_of h0 hp.1 (by omega) (Nat.le_trans (hle y (.inr hy)) x.lo_hi)] at this
          cases this
    · simp only [Block.add, if_true, List.length_append, List.length_cons, List.length_nil] at h1 h2 hs ⊢
      obtain ⟨s1, s2⟩ := hs
      by_cases hi : i1 = b.e1.length + 1
      · have hst : Still b.e0 b.e1 i0 b.e1.length := ⟨fun z hz j y hj hy => s1 z hz j y (by omega) (by rw [List.getElem?_append_left hj]; exact hy), fun z hz => by rw [List.getElem?_eq_none (Nat.le_refl _)] at hz; cases hz⟩
        have := ih h1 (Nat.le_refl _) (by
          cases f
          · exact h3
          · simp only [if_true] at hfst ⊢
            exact List.length_pos_iff.2 hfst) hst
        exact ⟨this.1, hi⟩
      · have hst : Still b.e0 b.e1 i0 i1 := ⟨fun z hz j y hj hy => s1 z hz j y hj (by
          rw [List.getElem?_append_left (List.getElem?_eq_some_iff.1 hy).1]; exact hy), fun z hz j y hj hy => s2 z (by
          rw [List.getElem?_append_left (List.getElem?_eq_some_iff.1 hz).1]; exact hz) j y hj hy⟩
        obtain ⟨e0, e1⟩ := ih h1 (by omega) h3 hst
        exfalso
        obtain ⟨y, hy, hye⟩ := hc.hiAt
        have hp := hc.pos y hy
        rcases hy with hy | hy
        · obtain ⟨j, hj⟩ := List.getElem?_of_mem hy
          have hjl := (List.getElem?_eq_some_iff.1 hj).1
          have := s2 x (by rw [e1]; simp) j y (by omega) hj
          rw [meet_of h0 hp.1 (by omega) (Nat.le_trans (hle y (.inl hy)) x.lo_hi)] at this
          cases this
        · have := hown y (by simpa using hy)
          omega
/-- Blocks, one after the other, of what two copies have left. -/
def Steps : List (Edit α) → List (Edit α) → List (Block α) → Prop
  | c, d, [] => c = [] ∧ d = []
  | c, d, b :: r => ∃ c' d', c = b.e0 ++ c' ∧ d = b.e1 ++ d' ∧ Conn (firstCopy c d) b ∧ (∀ x, x ∈ c' ∨ x ∈ d' → 0 ≤ x.at_ ∧ b.hi < x.lo) ∧ Steps c' d' r
theorem chain_hi : ∀ {c : List (Edit α)} {x : Edit α} {lo : Nat} {r : List (Edit α)}, Chain lo (c ++ x :: r) → ∀ y ∈ c, y.hi < x.lo
  | z :: c, x, lo, r, ⟨h1, h2⟩, y, hy => by
    rcases List.mem_cons.1 hy with rfl | hy
    · have := (Chain.suf h2).1
      unfold Edit.lo
      omega
    · exact chain_hi h2 y hy
theorem grow_steps : ∀ (l : List (Bool × Edit α)) (b : Block α) (f : Bool), Conn f b → f = firstCopy (b.e0 ++ filt false l) (b.e1 ++ filt true l) → Firsts l → Sorted l → (∃ lo, Chain lo (b.e0 ++ filt false l)) → (∃ lo, Chain lo (b.e1 ++ filt true l)) → (∀ p ∈ l, 0 ≤ p.2.at_) → (∀ p ∈ l, ∀ y, y ∈ b.e0 ∨ y ∈ b.e1 → y.lo ≤ p.2.lo) → Steps (b.e0 ++ filt false l) (b.e1 ++ filt true l) (grow b l) := by
  intro l
  induction l with
  | nil =>
    intro b f hc hf _ _ _ _ _ _
    exact ⟨[], [], rfl, rfl, hf ▸ hc, fun x h => (by rcases h with h | h <;> cases h), rfl, rfl⟩
  | cons p r ih =>
    intro b f hc hf hF hS h0 h1 hp hle
    obtain ⟨k, x⟩ := p
    obtain ⟨s1, s2⟩ := List.pairwise_cons.1 hS
    have hx0 := hp (k, x) List.mem_cons_self
    have hr0 : ∀ p ∈ r, 0 ≤ p.2.at_ := fun p hm => hp p (List.mem_cons_of_mem _ hm)
    simp only [grow]
    split
    · rename_i hxl
      have hxle := hle (k, x) List.mem_cons_self
      cases k
      · have hca : Conn f (b.add false x) := .add b false x hc hx0 hxl hxle (fun y hy => by
          obtain ⟨lo, h0⟩ := h0
          simp only [filt, if_pos] at h0
          exact chain_hi h0 y (by simpa using hy))
        have e0 : b.e0 ++ filt false ((false, x) :: r) = (b.add false x).e0 ++ filt false r := by simp [Block.add, filt]
        have e1 : b.e1 ++ filt true ((false, x) :: r) = (b.add false x).e1 ++ filt true r := by simp [Block.add, filt]
        rw [e0, e1] at hf ⊢
        rw [e0] at h0
        rw [e1] at h1
        refine ih (b.add false x) f hca hf hF.2 s2 h0 h1 hr0 fun p hm y hy => ?_
        have h8 := s1 p hm
        have h9 := hle p (List.mem_cons_of_mem _ hm) y
        simp only [Block.add, Bool.false_eq_true, if_false, List.mem_append, List.mem_singleton] at hy
        rcases hy with (hy | rfl) | hy
        · exact h9 (.inl hy)
        · exact h8
        · exact h9 (.inr hy)
      · have hca : Conn f (b.add true x) := .add b true x hc hx0 hxl hxle (fun y hy => by
          obtain ⟨lo, h1⟩ := h1
          simp only [filt, if_pos] at h1
          exact chain_hi h1 y (by simpa using hy))
        have e0 : b.e0 ++ filt false ((true, x) :: r) = (b.add true x).e0 ++ filt false r := by simp [Block.add, filt]
        have e1 : b.e1 ++ filt true ((true, x) :: r) = (b.add true x).e1 ++ filt true r := by simp [Block.add, filt]
        rw [e0, e1] at hf ⊢
        rw [e0] at h0
        rw [e1] at h1
        refine ih (b.add true x) f hca hf hF.2 s2 h0 h1 hr0 fun p hm y hy => ?_
        have h8 := s1 p hm
        have h9 := hle p (List.mem_cons_of_mem _ hm) y
        simp only [Block.add, if_true, List.mem_append, List.mem_singleton] at hy
        rcases hy with hy | hy | rfl
        · exact h9 (.inl hy)
        · exact h9 (.inr hy)
        · exact h8
    · rename_i hxl
      refine ⟨filt false ((k, x) :: r), filt true ((k, x) :: r), rfl, rfl, hf ▸ hc, fun y hy => ?_, ?_⟩
      · have hm : ∃ q, (q, y) ∈ (k, x) :: r := by
          rcases hy with hy | hy
          · exact ⟨_, mem_filt hy⟩
          · exact ⟨_, mem_filt hy⟩
        obtain ⟨q, hm⟩ := hm
        refine ⟨hp _ hm, ?_⟩
        rcases List.mem_cons.1 hm with h | h
        · injection h with _ h
          subst h
          exact Nat.lt_of_not_le hxl
        · have := s1 _ h
          exact Nat.lt_of_lt_of_le (Nat.lt_of_not_le hxl) this
      · have e0 : filt false ((k, x) :: r) = (Block.new k x).e0 ++ filt false r := by cases k <;> simp [Block.new, filt]
        have e1 : filt true ((k, x) :: r) = (Block.new k x).e1 ++ filt true r := by cases k <;> simp [Block.new, filt]
        have hk := hF.1
        have c0 : ∃ lo, Chain lo (filt false ((k, x) :: r)) := by
          obtain ⟨lo, h0⟩ := h0
          refine ⟨0, chain_other h0 fun y _ => Nat.zero_le _⟩
        have c1 : ∃ lo, Chain lo (filt true ((k, x) :: r)) := by
          obtain ⟨lo, h1⟩ := h1
          refine ⟨0, chain_other h1 fun y _ => Nat.zero_le _⟩
        rw [e0] at c0
        rw [e1] at c1
        rw [e0, e1] at hk ⊢
        refine ih (Block.new k x) k (.new x hx0) hk hF.2 s2 c0 c1 hr0 fun p hm y hy => ?_
        have : y = x := by cases k <;> simpa [Block.new] using hy
        subst this
        exact s1 p hm
theorem blocks_steps {c d : List (Edit α)} (hc : Chain 0 c) (hd : Chain 0 d) : Steps c d (blocks c d) := by
  obtain ⟨k1, k2⟩ := merge_filt (c.length + d.length) c d (Nat.le_refl _)
  have hs := merge_sorted (c.length + d.length) 0 c d (Nat.le_refl _) hc hd
  have hf := merge_firsts (c.length + d.length) c d (Nat.le_refl _)
  have hp : ∀ p ∈ mergeGo (c.length + d.length) c d, 0 ≤ p.2.at_ := by
    intro p hp
    have hm := filt_mem hp
    cases hb : p.1 with
    | false => rw [hb, k1] at hm; exact_mod_cast hc.pos _ hm
    | true => rw [hb, k2] at hm; exact_mod_cast hd.pos _ hm
  unfold blocks merge
  generalize mergeGo (c.length + d.length) c d = l at *
  subst k1 k2
  cases l with
  | nil => exact ⟨rfl, rfl⟩
  | cons p r =>
    obtain ⟨k, x⟩ := p
    obtain ⟨s1, s2⟩ := List.pairwise_cons.1 hs
    have e0 : filt false ((k, x) :: r) = (Block.new k x).e0 ++ filt false r := by cases k <;> simp [Block.new, filt]
    have e1 : filt true ((k, x) :: r) = (Block.new k x).e1 ++ filt true r := by cases k <;> simp [Block.new, filt]
    have hk := hf.1
    rw [e0, e1] at hk ⊢
    rw [e0] at hc
    rw [e1] at hd
    refine grow_steps r (Block.new k x) k (.new x (hp _ List.mem_cons_self)) hk hf.2 s2 ⟨0, hc⟩ ⟨0, hd⟩ (fun p hm => hp p (List.mem_cons_of_mem _ hm)) fun p hm y hy => ?_
    have : y = x := by cases k <;> simpa [Block.new] using hy
    subst this
    exact s1 p hm
/-- The least beginning, and the greatest end, of edits. -/
def loOf (n : Nat) (l : List (Edit α)) : Nat := l.foldl (fun m x => min m x.lo) n
def hiOf (n : Nat) (l : List (Edit α)) : Nat := l.foldl (fun m x => max m x.hi) n
theorem loOf_le : ∀ (l : List (Edit α)) (n : Nat), loOf n l ≤ n ∧ (∀ x ∈ l, loOf n l ≤ x.lo) ∧ (loOf n l = n ∨ ∃ x ∈ l, loOf n l = x.lo)
  | [], n => ⟨Nat.le_refl _, fun _ h => (by cases h), .inl rfl⟩
  | x :: l, n => by
    obtain ⟨h1, h2, h3⟩ := loOf_le l (min n x.lo)
    refine ⟨Nat.le_trans h1 (Nat.min_le_left _ _), fun y hy => ?_, ?_⟩
    · rcases List.mem_cons.1 hy with rfl | hy
      · exact Nat.le_trans h1 (Nat.min_le_right _ _)
      · exact h2 y hy
    · show loOf (min n x.lo) l = n ∨ _
      rcases h3 with h | ⟨y, hy, h⟩
      · rw [Nat.min_def] at h
        split at h
        · rename_i hm; exact .inl (by rw [Nat.min_eq_left hm]; rw [Nat.min_eq_left hm] at h1; exact h)
        · rename_i hm; exact .inr ⟨x, List.mem_cons_self, by show loOf (min n x.lo) l = _; rw [Nat.min_def, if_neg hm]; exact h⟩
      · exact .inr ⟨y, List.mem_cons_of_mem _ hy, h⟩
theorem hiOf_ge : ∀ (l : List (Edit α)) (n : Nat), n ≤ hiOf n l ∧ (∀ x ∈ l, x.hi ≤ hiOf n l) ∧ (hiOf n l = n ∨ ∃ x ∈ l, hiOf n l = x.hi)
  | [], n => ⟨Nat.le_refl _, fun _ h => (by cases h), .inl rfl⟩
  | x :: l, n => by
    obtain ⟨h1, h2, h3⟩ := hiOf_ge l (max n x.hi)
    refine ⟨Nat.le_trans (Nat.le_max_left _ _) h1, fun y hy => ?_, ?_⟩
    · rcases List.mem_cons.1 hy with rfl | hy
      · exact Nat.le_trans (Nat.le_max_right _ _) h1
      · exact h2 y hy
    · show hiOf (max n x.hi) l = n ∨ _
      rcases h3 with h | ⟨y, hy, h⟩
      · by_cases hm : n ≤ x.hi
        · exact .inr ⟨x, List.mem_cons_self, by show hiOf (max n x.hi) l = _; rw [h, Nat.max_eq_right hm]⟩
        · exact .inl (by rw [h, Nat.max_eq_left (by omega)])
      · exact .inr ⟨y, List.mem_cons_of_mem _ hy, h⟩
theorem Conn.los {f : Bool} {b : Block α} (h : Conn f b) {n : Nat} (hn : b.lo ≤ n) : loOf (loOf n b.e0) b.e1 = b.lo := by
  obtain ⟨a1, a2, a3⟩ := loOf_le b.e0 n
  obtain ⟨b1, b2, b3⟩ := loOf_le b.e1 (loOf n b.e0)
  obtain ⟨y, hy, he⟩ := h.loAt
  have hle : loOf (loOf n b.e0) b.e1 ≤ b.lo := by
    rcases hy with hy | hy
    · have := a2 y hy; omega
    · have := b2 y hy; omega
  have hge : b.lo ≤ loOf (loOf n b.e0) b.e1 := by
    rcases b3 with e | ⟨x, hx, e⟩
    · rw [e]
      rcases a3 with e | ⟨x, hx, e⟩
      · omega
      · rw [e]; exact (h.pos x (.inl hx)).2.1
    · rw [e]; exact (h.pos x (.inr hx)).2.1
  omega
theorem Conn.his {f : Bool} {b : Block α} (h : Conn f b) : hiOf (hiOf 0 b.e0) b.e1 = b.hi := by
  obtain ⟨a1, a2, a3⟩ := hiOf_ge b.e0 0
  obtain ⟨b1, b2, b3⟩ := hiOf_ge b.e1 (hiOf 0 b.e0)
  obtain ⟨y, hy, he⟩ := h.hiAt
  have hge : b.hi ≤ hiOf (hiOf 0 b.e0) b.e1 := by
    rcases hy with hy | hy
    · have := a2 y hy; omega
    · have := b2 y hy; omega
  have hle : hiOf (hiOf 0 b.e0) b.e1 ≤ b.hi := by
    rcases b3 with e | ⟨x, hx, e⟩
    · rw [e]
      rcases a3 with e | ⟨x, hx, e⟩
      · omega
      · rw [e]; exact (h.pos x (.inl hx)).2.2
    · rw [e]; exact (h.pos x (.inr hx)).2.2
  omega
/-- The state of a growing block: as far as it goes in either copy, counted from the first edit of all. -/
structure Grows (c d : List (Edit α)) (k0 k1 : Nat) (b : Block α) (i0 i1 : Nat) : Prop where
  lo0 : k0 ≤ i0
  hi0 : i0 ≤ k0 + b.e0.length
  lo1 : k1 ≤ i1
  hi1 : i1 ≤ k1 + b.e1.length
  first : 0 < (if firstCopy (c.drop k0) (d.drop k1) then i1 - k1 else i0 - k0)
theorem Steps.front {c d : List (Edit α)} {b : Block α} {r : List (Block α)} (h : Steps c d (b :: r)) : b.e0 = c.take b.e0.length ∧ b.e1 = d.take b.e1.length ∧ Conn (firstCopy c d) b ∧ Steps (c.drop b.e0.length) (d.drop b.e1.length) r ∧ (∀ x, x ∈ c.drop b.e0.length ∨ x ∈ d.drop b.e1.length → 0 ≤ x.at_ ∧ b.hi < x.lo) := by
  obtain ⟨c', d', rfl, rfl, hc, hx, hs⟩ := h
  refine ⟨by simp, by simp, hc, by simpa using hs, by simpa using hx⟩
/-- An edit that meets one of the block belongs to it. -/
theorem Grows.in0 {c d : List (Edit α)} {k0 k1 i0 i1 : Nat} {b : Block α} {r : List (Block α)} (hs : Steps (c.drop k0) (d.drop k1) (b :: r)) (h : Grows c d k0 k1 b i0 i1) {x y : Edit α} {j : Nat} (hx : c[i0]? = some x) (hj : k1 ≤ j) (hj1 : j < i1) (hy : d[j]? = some y) (hm : meet x y = true) : Grows c d k0 k1 b (i0 + 1) i1 := by
  obtain ⟨f0, f1, hc, _, hout⟩ := hs.front
  refine ⟨by have := h.lo0; omega, ?_, h.lo1, h.hi1, ?_⟩
  · apply Classical.byContradiction
    intro hgt
    have he : i0 = k0 + b.e0.length := by have := h.hi0; omega
    have hxm : x ∈ (c.drop k0).drop b.e0.length := by
      rw [List.drop_drop, ← he]
      exact List.mem_of_getElem? (i := 0) (by rw [List.getElem?_drop]; exact hx)
    have hym : y ∈ b.e1 := by
      rw [f1]
      refine List.mem_of_getElem? (i := j - k1) ?_
      rw [List.getElem?_take, if_pos (by have := h.hi1; omega), List.getElem?_drop, show k1 + (j - k1) = j by omega]
      exact hy
    have h1 := hout x (.inl hxm)
    have h2 := hc.pos y (.inr hym)
    rw [meet_no h1.1 h2.1 (by omega)] at hm
    cases hm
  · have h8 := h.first
    have l0 := h.lo0
    have l1 := h.lo1
    split at h8 <;> rename_i h9 <;> simp only [h9, if_true, if_false, Bool.false_eq_true] <;> omega
theorem Grows.in1 {c d : List (Edit α)} {k0 k1 i0 i1 : Nat} {b : Block α} {r : List (Block α)} (hs : Steps (c.drop k0) (d.drop k1) (b :: r)) (h : Grows c d k0 k1 b i0 i1) {x y : Edit α} {j : Nat} (hx : d[i1]? = some x) (hj : k0 ≤ j) (hj1 : j < i0) (hy : c[j]? = some y) (hm : meet x y = true) : Grows c d k0 k1 b i0 (i1 + 1) := by
  obtain ⟨f0, f1, hc, _, hout⟩ := hs.front
  refine ⟨h.lo0, h.hi0, by have := h.lo1; omega, ?_, ?_⟩
  · apply Classical.byContradiction
    intro hgt
    have he : i1 = k1 + b.e1.length := by have := h.hi1; omega
    have hxm : x ∈ (d.drop k1).drop b.e1.length := by
      rw [List.drop_drop, ← he]
      exact List.mem_of_getElem? (i := 0) (by rw [List.getElem?_drop]; exact hx)
    have hym : y ∈ b.e0 := by
      rw [f0]
      refine List.mem_of_getElem? (i := j - k0) ?_
      rw [List.getElem?_take, if_pos (by have := h.hi0; omega), List.getElem?_drop, show k0 + (j - k0) = j by omega]
      exact hy
    have h1 := hout x (.inr hxm)
    have h2 := hc.pos y (.inl hym)
    rw [meet_no h1.1 h2.1 (by omega)] at hm
    cases hm
  · have h8 := h.first
    have l0 := h.lo0
    have l1 := h.lo1
    split at h8 <;> rename_i h9 <;> simp only [h9, if_true, if_false, Bool.false_eq_true] <;> omega
/-- A block that grows no more is the block. -/
theorem Grows.done {c d : List (Edit α)} {k0 k1 i0 i1 : Nat} {b : Block α} {r : List (Block α)} (hs : Steps (c.drop k0) (d.drop k1) (b :: r)) (h : Grows c d k0 k1 b i0 i1)
    (h0 : ∀ x, c[i0]? = some x → ∀ j y, k1 ≤ j → j < i1 → d[j]? = some y → meet x y = false) (h1 : ∀ x, d[i1]? = some x → ∀ j y, k0 ≤ j → j < i0 → c[j]? = some y → meet x y = false) : i0 = k0 + b.e0.length ∧ i1 = k1 + b.e1.length := by
  obtain ⟨f0, f1, hc, _, _⟩ := hs.front
  have l0 := h.lo0
  have l1 := h.lo1
  have u0 := h.hi0
  have u1 := h.hi1
  have g0 : ∀ j y, b.e0[j]? = some y → c[k0 + j]? = some y := fun j y hy => by
    rw [f0, List.getElem?_take] at hy
    split at hy
    · rwa [List.getElem?_drop] at hy
    · cases hy
  have g1 : ∀ j y, b.e1[j]? = some y → d[k1 + j]? = some y := fun j y hy => by
    rw [f1, List.getElem?_take] at hy
    split at hy
    · rwa [List.getElem?_drop] at hy
    · cases hy
  have := hc.whole (i0 := i0 - k0) (i1 := i1 - k1) (by omega) (by omega) h.first ⟨fun x hx j y hj hy => h0 x (by
      have := g0 _ _ hx
      rwa [show k0 + (i0 - k0) = i0 by omega] at this) (k1 + j) y (by omega) (by omega) (g1 _ _ hy), fun x hx j y hj hy => h1 x (by
      have := g1 _ _ hx
      rwa [show k1 + (i1 - k1) = i1 by omega] at this) (k0 + j) y (by omega) (by omega) (g0 _ _ hy)⟩
  omega
end
end File
end Go.Proofs.YtekkhnjepcebkaaGreatDoor
end
section
namespace Go.Proofs.YtekkhnjepcebkaaGreatDoor
open Go.RowKit
section
variable {ops : Array Oper}
def InvL (P : Program) (ops : Array Oper) (a₀ : Act) (I : (Nat → Bool) → (Nat → Value) → World → Prop) : Nat → List Oper → Prop
  | _, [] => True
  | i, o :: l => InvOp P ops a₀ I i o ∧ InvL P ops a₀ I (i + 1) l
theorem inv_from {P : Program} {a₀ : Act} {I : (Nat → Bool) → (Nat → Value) → World → Prop} : ∀ (l : List Oper) (k : Nat), InvL P ops a₀ I k l → ∀ i o, l[i]? = some o → InvOp P ops a₀ I (k + i) o := by
  intro l
  induction l with
  | nil => intro k _ i o h; simp at h
  | cons x l ih =>
    rintro k ⟨h1, h2⟩ i o h
    cases i with
    | zero => simp at h; subst h; exact h1
    | succ i => rw [show k + (i + 1) = k + 1 + i by omega]; exact ih _ h2 i o (by simpa using h)
theorem wp_inv_lit {P : Program} {Q : Exit → Act → World → Prop} {id : Nat} {a : Act} {w : World} {l : List Oper} (hmx : P.follows .mixedOrders = true) (m : Nat) (h : drawOk l.toArray = true) (ht : tailOk l.toArray m = true) (hm : m ≤ l.length) (I : (Nat → Bool) → (Nat → Value) → World → Prop)
    (h0 : ∀ v, I (fun _ => false) v w.drew) (hop : InvL P l.toArray a I 0 (l.take m))
    (hend : ∀ T v w, (∀ j, j < m → T j = true) → I T v w → wpList P l.toArray Q (l.drop m) (frameF (l.take m) 0 v a) w) : (Code.region id l.toArray true).wp P Q a w :=
  wp_inv hmx h m ht (by simpa using hm) I h0 (fun i o hi him => by
    have := inv_from (l.take m) 0 hop i o (by rw [List.getElem?_take_of_lt him]; simpa using hi)
    rwa [Nat.zero_add] at this) (by simpa using hend)
end
end Go.Proofs.YtekkhnjepcebkaaGreatDoor
namespace Go.Proofs.YtekkhnjepcebkaaGreatDoor
open Go.RowKit
/-- One operation: a plain one gives its value and leaves memory alone; the special one (s) comes from Pre to Post. -/
structure OneOp (P : Program) (ops : Array Oper) (a₀ : Act) (s : Nat) (G : World → Prop) (c : List Value) (Pre : World → Prop) (Post : Value → World → Prop) (i : Nat) (o : Oper) : Prop where
  plain : i ≠ s → ∀ v w, G w → (∀ j, ((masks ops.toList).getD i 0).testBit j = true → j ≠ s → v j = c.getD j undef) → StepF P ops o (frameF (ops.toList.take i) 0 v a₀) w fun u w' => u = c.getD i undef ∧ w' = w
  special : i = s → ∀ v w, G w → Pre w → (∀ j, ((masks ops.toList).getD i 0).testBit j = true → j ≠ s → v j = c.getD j undef) → StepF P ops o (frameF (ops.toList.take i) 0 v a₀) w fun u w' => Post u w' ∧ G w'
section
variable {P : Program} {ops : Array Oper} {a₀ : Act} {s : Nat} {G : World → Prop} {c : List Value} {Pre : World → Prop} {Post : Value → World → Prop} {i : Nat} {o : Oper}
theorem one_plain (hi : i ≠ s) (h : ∀ v w, G w → (∀ j, ((masks ops.toList).getD i 0).testBit j = true → j ≠ s → v j = c.getD j undef) → StepF P ops o (frameF (ops.toList.take i) 0 v a₀) w fun u w' => u = c.getD i undef ∧ w' = w) : OneOp P ops a₀ s G c Pre Post i o := ⟨fun _ => h, fun e => absurd e hi⟩
theorem one_special (hi : i = s) (h : ∀ v w, G w → Pre w → (∀ j, ((masks ops.toList).getD i 0).testBit j = true → j ≠ s → v j = c.getD j undef) → StepF P ops o (frameF (ops.toList.take i) 0 v a₀) w fun u w' => Post u w' ∧ G w') : OneOp P ops a₀ s G c Pre Post i o := ⟨fun e => absurd hi e, fun _ => h⟩
end
def OneL (P : Program) (ops : Array Oper) (a₀ : Act) (s : Nat) (G : World → Prop) (c : List Value) (Pre : World → Prop) (Post : Value → World → Prop) : Nat → List Oper → Prop
  | _, [] => True
  | i, o :: l => OneOp P ops a₀ s G c Pre Post i o ∧ OneL P ops a₀ s G c Pre Post (i + 1) l
theorem wp_one_lit {P : Program} {Q : Exit → Act → World → Prop} {id : Nat} {a : Act} {w : World} {l : List Oper} (hmx : P.follows .mixedOrders = true) (m : Nat) (h : drawOk l.toArray = true) (ht : tailOk l.toArray m = true) (hm : m ≤ l.length) (s : Nat) (hs : s < m) (G : World → Prop) (c : List Value) (Pre : World → Prop) (Post : Value → World → Prop)
    (hG : G w.drew) (hP : Pre w.drew) (hop : OneL P l.toArray a s G c Pre Post 0 (l.take m))
    (hend : ∀ v w, G w → Post (v s) w → (∀ j, j < m → j ≠ s → v j = c.getD j undef) → wpList P l.toArray Q (l.drop m) (frameF (l.take m) 0 v a) w) : (Code.region id l.toArray true).wp P Q a w := by
  refine wp_inv_lit hmx m h ht hm (fun T v w => G w ∧ (T s = false → Pre w) ∧ (T s = true → Post (v s) w) ∧ ∀ j, T j = true → j ≠ s → v j = c.getD j undef) (fun v => ⟨hG, fun _ => hP, fun e => (by cases e), fun j e => (by cases e)⟩) ?_ ?_
  · have key : ∀ (ls : List Oper) (k : Nat), OneL P l.toArray a s G c Pre Post k ls → InvL P l.toArray a (fun T v w => G w ∧ (T s = false → Pre w) ∧ (T s = true → Post (v s) w) ∧ ∀ j, T j = true → j ≠ s → v j = c.getD j undef) k ls := by
      intro ls
      induction ls with
      | nil => intro k _; trivial
      | cons o ls ih =>
        rintro k ⟨h1, h2⟩
        refine ⟨⟨fun T v w hI hT hmk _ => ?_⟩, ih (k + 1) h2⟩
        obtain ⟨i1, i2, i3, i4⟩ := hI
        by_cases hk : k = s
        · refine (h1.special hk v w i1 (i2 (by rw [← hk]; exact hT)) fun j hj hne => i4 j (hmk j hj) hne).mono fun u w' ⟨p1, p2⟩ => ?_
          subst hk
          refine ⟨p2, fun e => by simp at e, fun _ => by simpa using p1, fun j hj hne => ?_⟩
          have hj' : T j = true := by simpa [hne] using hj
          show (if j = k then u else v j) = _
          rw [if_neg hne]
          exact i4 j hj' hne
        · refine (h1.plain hk v w i1 fun j hj hne => i4 j (hmk j hj) hne).mono fun u w' ⟨p1, p2⟩ => ?_
          subst p2
          have hsk : decide (s = k) = false := by simp; omega
          refine ⟨i1, fun e => i2 (by simpa [hsk] using e), fun e => ?_, fun j hj hne => ?_⟩
          · show Post (if s = k then u else v s) w'
            rw [if_neg (fun e => hk e.symm)]
            exact i3 (by simpa [hsk] using e)
          · show (if j = k then u else v j) = _
            by_cases hjk : j = k
            · rw [if_pos hjk, hjk]; exact p1
            · rw [if_neg hjk]
              exact i4 j (by simpa [hjk] using hj) hne
    exact key _ 0 hop
  · intro T v w hT ⟨i1, _, i3, i4⟩
    exact hend v w i1 (i3 (hT s hs)) fun j hj hne => i4 j (hT j hj) hne
theorem stepF_appA {α : Type} (E : Enc α) {P : Program} {t e : TypeId} (hT : SlTy P t e E.sz) {ops : Array Oper} {o : Oper} {a : Act} {K : Value → World → Prop} {w : World}
    (hw : Region.wanted o (yielded ops a.tmps) = true) (s x : Operand) (ho : o.op = .call { callee := .builtin .append, args := #[s, x], argTypes := #[t, t] })
    {B : Nat} {v : Value} {xs : List α} (hown : Own E e B w v xs) {A : Option Addr} {n c : Nat} {ys : List α} (hy : Sl E w A ys) (hyn : n = ys.length) (hs : a.eval s = v) (hx : a.eval x = .slice A n c)
    (hB : B ≤ w.heap.size) (hn : xs.length + ys.length ≤ big)
    (h : ∀ v' w', Own E e B w' v' (xs ++ ys) → Below B w w' → (∀ b, b < w.heap.size → v.ownBlock ≠ some b → w'.heap[b]? = w.heap[b]?) → K v' w') : StepF P ops o a w K := by
  subst hyn
  obtain ⟨i, z, hi, hz, hsz, hby, hzc⟩ := hT.info
  unfold big at hn
  cases A with
  | none =>
    have hys : ys = [] := by
      by_cases h0 : ys = []
      · exact h0
      · obtain ⟨b, off, hA, _⟩ := hy h0
        cases hA
    subst hys
    have hrun : (Builtin.append_ #[t, t] o.type #[v, .slice none 0 c]).run P w = .ok v w := by
      rcases hown.2 with ⟨rfl, hn'⟩ | ⟨g, cap, cur, rfl, _, _, hnc, _⟩
      · simp [Builtin.append_, run_underlying hT.ht, sizeOf, typeInfo, hi, Builtin.lenOf, Builtin.firstCells]
      · simp [Builtin.append_, run_underlying hT.ht, sizeOf, typeInfo, hi, Builtin.lenOf, Builtin.firstCells, hnc, storeCells]
    simp only [List.length_nil] at hx
    refine stepF_new hw ?_ (h v w (by simpa using hown) (Below.refl _ _) fun _ _ _ => rfl)
    simp [execOp, ho, resolve, invoke, builtin, hs, hx, hrun, Result.andThen]
  | some ad =>
    obtain ⟨v', w', hr, h2, h3, _⟩ := run_append_own (P := P) w B t o.type e i z E.sz i.bytes hT.ht hi hz hsz rfl hzc E.pos v xs.length (xs.flatMap E.cells) hown
      ad ys.length c (ys.flatMap E.cells) (flat_length E ys) (fun j u hu => by
        obtain ⟨k, y, k', rfl, hk, hu⟩ := flat_inv E ys j u hu
        obtain ⟨b, off', hA, _, hc⟩ := hy (by intro e; subst e; simp at hk)
        injection hA with hA
        subst hA
        rw [Addr.add_lit]
        have := hc k y hk k' u hu
        rw [show off' + k * E.sz + k' = off' + (k * E.sz + k') from by omega] at this
        exact this) (fun u hu => by
        obtain ⟨y, _, hu⟩ := List.mem_flatMap.1 hu
        exact E.one y u hu) (by unfold maxLen; omega) (by have := Nat.mul_le_mul hn hby; omega) hB
    refine stepF_new hw ?_ (h v' w' (by unfold Own; simpa using h2) ((Below.refl B w).grown h3 hB fun k hk => (Own.lt hown k hk).1) fun b hb hv => h3.block b hb (fun e => hv e.symm))
    unfold execOp
    simp only [ho, resolve, invoke, builtin, Sem.run_bind, Sem.run_pure, Result.andThen_ok, List.map_toArray, List.map_cons, List.map_nil, hs, hx, hr]
end Go.Proofs.YtekkhnjepcebkaaGreatDoor
end
