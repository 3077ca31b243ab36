/- What the proof of the claim's theorem uses, part 2. The conditions stand in each statement. -/
import Derived.WalkKit
import Derived.WalkSpells
import Derived.WalkLawsBesides
import Derived.WalkSmall
import Derived.Lib.Hide
import Derived.Laws.OwnMore
import Derived.Laws.CopyOwn
import Derived.Deep.Draws
import Derived.Laws.AppendOwnNone
import Derived.Test.YtlpoiggdjggkiaaGreatDoorProg
import Derived.Outline
import Derived.BigQuiet
import Derived.Deep.QuietTactic
import Derived.Lib.OthersKept
import Derived.Laws.EntriesVeiled
import Derived.Shelf.Strings.Builder1
import Derived.Shelf.LaysM
import Derived.Shelf.Strconv.Itoa3
import Derived.Orders
import Derived.RegionTactic
import Derived.BigRegion
import Derived.Deep.DeepCutAuto
import Derived.Maps.OwnRows
import Derived.Maps.GroupsBeside
import Derived.Deep.RegionHeld3
import Derived.Lib.SliceRun
import Derived.RangeFuncNested
import Derived.RangeFuncBound
import Derived.RangeFuncCalls
import Derived.RangeFuncLeaves
import Derived.Shelf.Abstract
import Derived.Shelf.RegionOpen
import Derived.OwnWalkIn
import Derived.TacticsInMore
import Derived.LoopNIn
import Derived.LoopIn
import Derived.Sort.QuietIn
import Derived.Deep.Quiet
import Derived.Maps.AppendAt
import Derived.Test.YtlpoiggdjggkiaaGreatDoorCards
import Derived.Test.YtlpoiggdjggkiaaGreatDoorTie
import Derived.ProofKit
import Derived.Deep.DeepHandedRow
import Derived.Lib.LaidTab
import Derived.Stop.LaidErr
import Derived.ChangeSame
import Derived.RowKit3
import Derived.ReadAgain
import Derived.OpenShut
import Derived.ChangeSlices
import Derived.WalkMore
import Derived.Maps.Own
import Derived.Maps.OwnOps
import Derived.Maps.OwnSet
import Derived.Shelf.Spec.SlicesInsert
import Derived.Shelf.Spec.SlicesInsertGrow
import Derived.Shelf.Bits.Mul64
import Derived.Deep.RegionLaw
import Derived.ChangeKeysEq
import Derived.Lib.Atoi
import Derived.Lib.Fields
import Derived.Shelf.Strings.SplitShaped
import Derived.Shelf.Strconv.Atoi
import Derived.Lay
import Derived.MakeChecks
import Derived.Deep.DeepWitnessRowRef
import Derived.Test.YtlpoiggdjggkiaaGreatDoorTbp1
set_option linter.unusedVariables false
set_option linter.unusedSimpArgs false
section
namespace Go.Proofs.YtlpoiggdjggkiaaGreatDoor
namespace File
def great (l : List Int) : Int := l.foldl max 0
end File
namespace Fl
open Go.RowKit
set_option maxRecDepth 100000
theorem greatest_spec (A : Option Addr) (xs : List Int) (c : Nat) (w : World) (hm : xs.length ≤ big) (hs : Sl intE w A xs) :
    Calls Tryz.prog 100 #[.slice A xs.length c] w fun e w' => e = .returned (iv (File.great xs)) ∧ w = w' := by
  unfold big at hm
  go_enter Tryz.func100, Tryz.ntmps100
  go_wp2
  go_loop [3, 8] (fun v i => ∃ (k : Nat) (m : Int), k ≤ xs.length ∧ i = iv k ∧ v = iv m ∧ Hid ((xs.drop k).foldl max m = File.great xs)) (fun _ i => xs.length - (intOf i).toNat)
  case atStart => exact ⟨0, 0, by omega, rfl, rfl, rfl⟩
  case round =>
    obtain ⟨k, m, hk, rfl, rfl, hr⟩ := hrel
    by_cases hlt : k < xs.length
    · obtain ⟨b, off, x, rfl, hb, hx, hc⟩ := hs.atI hlt
      have hr' := hr.out
      rw [drop_at hx, List.foldl_cons] at hr'
      have HR := Lib.hid hr'
      clear hr hr' hx
      go_wp2
      all_goals
        go_round
        case rel => exact ⟨k + 1, max m x, by omega, by go_num, by first | rfl | (congr 1; omega), HR⟩
        case measure => simp [intOf]; omega
    · have hr' := hr.out
      rw [drop_end hlt] at hr'
      go_wp2
      go_ret
      exact ⟨ret_eq (by rw [← hr']; rfl), rfl⟩
/-- Block g is the table of the numbers f. -/
def Grid (w : World) (g : Nat) (f : Nat → Nat → Nat) : Prop := ∃ cs : Array Value, Blk w g 185 cs ∧ cs.size = 625 ∧ ∀ i j, i < 25 → j < 25 → cs[i * 25 + j]? = some (iv (f i j))
theorem Grid.below {w w' : World} {g : Nat} {f : Nat → Nat → Nat} (h : Grid w g f) (hb : Below w.heap.size w w') : Grid w' g f := by
  obtain ⟨cs, h1, h2, h3⟩ := h
  exact ⟨cs, h1.under hb, h2, h3⟩
theorem Grid.cell {w : World} {g : Nat} {f : Nat → Nat → Nat} (h : Grid w g f) {i j : Nat} (hi : i < 25) (hj : j < 25) : w.cell? ⟨g, i * 25 + j, none⟩ = some (iv (f i j)) := by
  obtain ⟨cs, h1, h2, h3⟩ := h
  rw [h1.cell]; exact h3 i j hi hj
theorem Grid.lt {w : World} {g : Nat} {f : Nat → Nat → Nat} (h : Grid w g f) : g < w.heap.size := by
  obtain ⟨cs, h1, _⟩ := h; exact h1.lt
theorem Grid.frozen {w : World} {g : Nat} {f : Nat → Nat → Nat} (h : Grid w g f) : ∀ o, w.frozen? ⟨g, o, none⟩ = false := by
  obtain ⟨cs, h1, _⟩ := h; exact h1.frozen
theorem Grid.set_ {w : World} {g : Nat} {f : Nat → Nat → Nat} (h : Grid w g f) {i j : Nat} (hi : i < 25) (hj : j < 25) (n : Nat) : Grid (w.setCell ⟨g, i * 25 + j, none⟩ (iv n)) g (fun p q => if p = i ∧ q = j then n else f p q) := by
  obtain ⟨cs, h1, h2, h3⟩ := h
  refine ⟨_, h1.set_ (i * 25 + j) (iv n), by simpa using h2, fun p q hp hq => ?_⟩
  by_cases he : p = i ∧ q = j
  · obtain ⟨rfl, rfl⟩ := he
    rw [Array.getElem?_setIfInBounds_self_of_lt (by omega)]
    simp
  · show _ = some (iv ((if p = i ∧ q = j then n else f p q : Nat) : Int))
    rw [if_neg he, Array.getElem?_setIfInBounds_ne (by omega)]
    exact h3 p q hp hq
theorem zeroCells : ∀ i j : Nat, i < 25 → j < 25 → Tryz.zeroCells185[i * 25 + j]? = some (iv 0) := by
  intro i j hi hj
  have h : Tryz.zeroCells185 = Array.replicate 625 (iv 0) := by kernel_rfl
  rw [h, Array.getElem?_replicate, if_pos (by omega)]
theorem Sl.fresh {α : Type} (E : Enc α) (w : World) (t : TypeId) (arr : Array Value) (xs : List α) (h : arr.toList = xs.flatMap E.cells) (hm : xs.length ≤ maxLen) : Sl E (w.alloc (.cells arr t)) (some ⟨w.heap.size, 0, none⟩) xs := by
  have hb : Blk (w.alloc (.cells arr t)) w.heap.size t (xs.flatMap E.cells).toArray := by
    rw [← h]; exact Blk.new w t arr
  exact (Own.ofBlk (E := E) (B := 0) hb (Nat.zero_le _) hm).sl
theorem str_eq (x y : ByteArray) : (x.toList == y.toList) = decide (x = y) := by
  rw [ByteArray.toList_eq, ByteArray.toList_eq]
  by_cases h : x = y
  · subst h; simp
  · rw [decide_eq_false h, beq_eq_false_iff_ne]
    intro he
    apply h
    apply ByteArray.ext
    exact Array.toList_inj.1 he
theorem great2 (X Y : Nat) : iv (File.great [(X : Int), Y]) = iv (max X Y : Nat) := by
  show iv (max (max 0 (X : Int)) Y) = _
  congr 1
  omega
def partTab (a b : List ByteArray) (i j : Nat) (p q : Nat) : Nat := if i < p ∨ (p = i ∧ j ≤ q) then File.from_ a b p q else 0
theorem Grid.congr {w : World} {g : Nat} {f f' : Nat → Nat → Nat} (h : Grid w g f) (he : ∀ i j, i < 25 → j < 25 → f i j = f' i j) : Grid w g f' := by
  obtain ⟨cs, h1, h2, h3⟩ := h
  exact ⟨cs, h1, h2, fun i j hi hj => by rw [← he i j hi hj]; exact h3 i j hi hj⟩
set_option maxHeartbeats 4000000 in
theorem lens_spec (A : Option Addr) (a : List ByteArray) (c : Nat) (A' : Option Addr) (b : List ByteArray) (c' : Nat) (w : World) (hal : a.length ≤ 24) (hbl : b.length ≤ 24) (hsa : Sl strE w A a) (hsb : Sl strE w A' b) :
    Calls Tryz.prog 80 #[.slice A a.length c, .slice A' b.length c'] w fun e w' => ∃ g, e = .returned (.pointer (some ⟨g, 0, none⟩)) ∧ Grid w' g (File.from_ a b) ∧ Below w.heap.size w w' := by
  go_enter Tryz.func80, Tryz.ntmps80
  go_upto_region 2 with fail
  have hB0 : Blk (w.alloc (.cells Tryz.zeroCells185 185)) w.heap.size 185 Tryz.zeroCells185 := Blk.new _ _ _
  have hG0 : Grid (w.alloc (.cells Tryz.zeroCells185 185)) w.heap.size (fun _ _ => 0) := ⟨_, hB0, by kernel_rfl, fun i j hi hj => zeroCells i j hi hj⟩
  have hb0 : Below w.heap.size w (w.alloc (.cells Tryz.zeroCells185 185)) := (Below.refl _ _).alloc (Nat.le_refl _) _
  generalize w.alloc (.cells Tryz.zeroCells185 185) = w1 at *
  clear hB0
  go_wp2_with fail
  go_loopw [6, 7] (fun v _ wr => ∃ (i : Nat), i ≤ a.length ∧ v = iv ((i : Int) - 1) ∧ Grid wr w.heap.size (partTab a b i 0) ∧ Below w.heap.size w wr) (fun v _ _ => (intOf v + 1).toNat)
  case atStart =>
    refine ⟨a.length, Nat.le_refl _, rfl, hG0.congr fun p q hp hq => ?_, hb0⟩
    unfold partTab
    split
    · rename_i h
      rw [File.from_endA (by omega)]
    · rfl
  case round =>
    obtain ⟨i, hi, rfl, hG, hbw⟩ := hrel
    by_cases hlt : 0 < i
    · obtain ⟨p, rfl⟩ : ∃ p, i = p + 1 := ⟨i - 1, by omega⟩
      have hpi : (0 : Int) ≤ (p : Int) := by omega
      have e1 : ((p + 1 : Nat) : Int) - 1 = (p : Int) := by omega
      rw [e1]
      clear e1
      go_wp2_with fail
      go_loopw [7] (fun v wx => ∃ (j : Nat), j ≤ b.length ∧ v = iv ((j : Int) - 1) ∧ Grid wx w.heap.size (partTab a b p j) ∧ Below w.heap.size w wx) (fun v _ => (intOf v + 1).toNat)
      case atStart =>
        refine ⟨b.length, Nat.le_refl _, rfl, hG.congr fun r s hr hs => ?_, hbw⟩
        unfold partTab
        by_cases h1 : p + 1 ≤ r
        · rw [if_pos (by omega), if_pos (by omega)]
        · rw [if_neg (by omega)]
          split
          · rw [File.from_endB (by omega)]
          · rfl
      case round =>
        clear hG hbw
        obtain ⟨j, hj, rfl, hGx, hbx⟩ := hrel
        by_cases hlt2 : 0 < j
        · obtain ⟨q, rfl⟩ : ∃ q, j = q + 1 := ⟨j - 1, by omega⟩
          have hqi : (0 : Int) ≤ (q : Int) := by omega
          have e1 : ((q + 1 : Nat) : Int) - 1 = (q : Int) := by omega
          rw [e1]
          clear e1
          have hp25 : p + 1 < 25 := by omega
          have hq25 : q + 1 < 25 := by omega
          have hX : partTab a b p (q + 1) (p + 1) q = File.from_ a b (p + 1) q := by unfold partTab; rw [if_pos (by omega)]
          have hY : partTab a b p (q + 1) p (q + 1) = File.from_ a b p (q + 1) := by unfold partTab; rw [if_pos (by omega)]
          have hZ : partTab a b p (q + 1) (p + 1) (q + 1) = File.from_ a b (p + 1) (q + 1) := by unfold partTab; rw [if_pos (by omega)]
          obtain ⟨X, hXe⟩ : ∃ X, X = File.from_ a b (p + 1) q := ⟨_, rfl⟩
          obtain ⟨Y, hYe⟩ : ∃ Y, Y = File.from_ a b p (q + 1) := ⟨_, rfl⟩
          obtain ⟨Z, hZe⟩ : ∃ Z, Z = File.from_ a b (p + 1) (q + 1) := ⟨_, rfl⟩
          rw [← hXe] at hX
          rw [← hYe] at hY
          rw [← hZe] at hZ
          have HX := Lib.hid hXe
          have HY := Lib.hid hYe
          have HZ := Lib.hid hZe
          have e1 : IntKind.i64.wrap ((p : Int) + 1) = ((p + 1 : Nat) : Int) := IntWalk.i64_in _ (by omega)
          have e2 : IntKind.i64.wrap ((q : Int) + 1) = ((q + 1 : Nat) : Int) := IntWalk.i64_in _ (by omega)
          have hpl : (p : Int) < 25 := by omega
          have hql : (q : Int) < 25 := by omega
          have hpl1 : (p : Int) + 1 < 25 := by omega
          have hql1 : (q : Int) + 1 < 25 := by omega
          have hpl0 : (0 : Int) ≤ (p : Int) + 1 := by omega
          have hql0 : (0 : Int) ≤ (q : Int) + 1 := by omega
          have hpt : ((p : Int) + 1).toNat = p + 1 := by omega
          have hqt : ((q : Int) + 1).toNat = q + 1 := by omega
          clear hXe hYe hZe
          go_upto_region 8 with fail
          have HFF : Hid (∀ x : World, Below wr.heap.size wr x → x.cell? ⟨w.heap.size, (p + 1) * 25 + q, none⟩ = some (iv X) ∧ x.cell? ⟨w.heap.size, p * 25 + (q + 1), none⟩ = some (iv Y) ∧ w.heap.size < x.heap.size) := Lib.hid fun x h =>
            ⟨by rw [(hGx.below h).cell (by omega) (by omega), hX], by rw [(hGx.below h).cell (by omega) (by omega), hY], (hGx.below h).lt⟩
          have HGX := Lib.hid hGx
          have HBX := Lib.hid hbx
          clear hGx hbx hX hY
          refine wp_free_lit (by kernel_rfl) 18 (by kernel_rfl) (by kernel_rfl) (by decide) (fun _ x => Below wr.heap.size wr x) (fun x x' => Below x.heap.size x x')
            [fun _ u _ => u = iv p,
             fun _ u _ => u = iv q,
             fun _ u _ => u = iv p,
             fun _ u _ => u = iv ((p + 1 : Nat) : Int),
             fun _ u _ => u = iv q,
             fun _ u _ => u = .pointer (some ⟨w.heap.size, (p + 1) * 25, none⟩),
             fun _ u _ => u = .pointer (some ⟨w.heap.size, (p + 1) * 25 + q, none⟩),
             fun _ u _ => u = iv X,
             fun _ u _ => u = iv p,
             fun _ u _ => u = iv q,
             fun _ u _ => u = iv ((q + 1 : Nat) : Int),
             fun _ u _ => u = .pointer (some ⟨w.heap.size, p * 25, none⟩),
             fun _ u _ => u = .pointer (some ⟨w.heap.size, p * 25 + (q + 1), none⟩),
             fun _ u _ => u = iv Y,
             fun _ u x => ∃ g, u = .slice (some ⟨g, 0, none⟩) 2 2 ∧ Sl intE x (some ⟨g, 0, none⟩) [(X : Int), Y],
             fun _ u _ => u = iv (max X Y : Nat),
             fun _ u _ => u = .pointer (some ⟨w.heap.size, p * 25, none⟩),
             fun _ u _ => u = .pointer (some ⟨w.heap.size, p * 25 + q, none⟩)]
            (Below.refl _ wr).drew ?_ ?_
          · simp only [List.take_succ_cons, List.take_zero, HopL]
            refine ⟨?_, ?_, ?_, ?_, ?_, ?_, ?_, ?_, ?_, ?_, ?_, ?_, ?_, ?_, ?_, ?_, ?_, ?_, trivial⟩
            · refine ⟨fun _ _ _ _ _ h => h, fun _ _ _ _ h _ => h, fun v n x hn hR hk => ?_⟩
              obtain ⟨f0, f1, f2⟩ := HFF.out x hR
              skip
              simp only [List.take_succ_cons, List.take_zero, frameF, Act.put, List.setIfInBounds_toArray, List.set_cons_zero, List.set_cons_succ]
              exact stepF_val (by rfl) (by go_simp) ⟨rfl, Below.refl _ _, hR⟩
            · refine ⟨fun _ _ _ _ _ h => h, fun _ _ _ _ h _ => h, fun v n x hn hR hk => ?_⟩
              obtain ⟨f0, f1, f2⟩ := HFF.out x hR
              skip
              simp only [List.take_succ_cons, List.take_zero, frameF, Act.put, List.setIfInBounds_toArray, List.set_cons_zero, List.set_cons_succ]
              exact stepF_val (by rfl) (by go_simp) ⟨rfl, Below.refl _ _, hR⟩
            · refine ⟨fun _ _ _ _ _ h => h, fun _ _ _ _ h _ => h, fun v n x hn hR hk => ?_⟩
              obtain ⟨f0, f1, f2⟩ := HFF.out x hR
              skip
              simp only [List.take_succ_cons, List.take_zero, frameF, Act.put, List.setIfInBounds_toArray, List.set_cons_zero, List.set_cons_succ]
              exact stepF_val (by rfl) (by go_simp) ⟨rfl, Below.refl _ _, hR⟩
            · refine ⟨fun _ _ _ _ _ h => h, fun _ _ _ _ h _ => h, fun v n x hn hR hk => ?_⟩
              obtain ⟨f0, f1, f2⟩ := HFF.out x hR
              have h0 : v 2 = iv p := hk 2 (by kernel_rfl)
              simp only [List.take_succ_cons, List.take_zero, frameF, Act.put, List.setIfInBounds_toArray, List.set_cons_zero, List.set_cons_succ]
              exact stepF_val (by rfl) (by go_simp) ⟨rfl, Below.refl _ _, hR⟩
            · refine ⟨fun _ _ _ _ _ h => h, fun _ _ _ _ h _ => h, fun v n x hn hR hk => ?_⟩
              obtain ⟨f0, f1, f2⟩ := HFF.out x hR
              skip
              simp only [List.take_succ_cons, List.take_zero, frameF, Act.put, List.setIfInBounds_toArray, List.set_cons_zero, List.set_cons_succ]
              exact stepF_val (by rfl) (by go_simp) ⟨rfl, Below.refl _ _, hR⟩
            · refine ⟨fun _ _ _ _ _ h => h, fun _ _ _ _ h _ => h, fun v n x hn hR hk => ?_⟩
              obtain ⟨f0, f1, f2⟩ := HFF.out x hR
              have h0 : v 3 = iv ((p + 1 : Nat) : Int) := hk 3 (by kernel_rfl)
              simp only [List.take_succ_cons, List.take_zero, frameF, Act.put, List.setIfInBounds_toArray, List.set_cons_zero, List.set_cons_succ]
              exact stepF_val (by rfl) (by go_simp) ⟨rfl, Below.refl _ _, hR⟩
            · refine ⟨fun _ _ _ _ _ h => h, fun _ _ _ _ h _ => h, fun v n x hn hR hk => ?_⟩
              obtain ⟨f0, f1, f2⟩ := HFF.out x hR
              (have h0 : v 5 = .pointer (some ⟨w.heap.size, (p + 1) * 25, none⟩) := hk 5 (by kernel_rfl); have h1 : v 4 = iv q := hk 4 (by kernel_rfl))
              simp only [List.take_succ_cons, List.take_zero, frameF, Act.put, List.setIfInBounds_toArray, List.set_cons_zero, List.set_cons_succ]
              exact stepF_val (by rfl) (by go_simp) ⟨rfl, Below.refl _ _, hR⟩
            · refine ⟨fun _ _ _ _ _ h => h, fun _ _ _ _ h _ => h, fun v n x hn hR hk => ?_⟩
              obtain ⟨f0, f1, f2⟩ := HFF.out x hR
              have h0 : v 6 = .pointer (some ⟨w.heap.size, (p + 1) * 25 + q, none⟩) := hk 6 (by kernel_rfl)
              simp only [List.take_succ_cons, List.take_zero, frameF, Act.put, List.setIfInBounds_toArray, List.set_cons_zero, List.set_cons_succ]
              exact stepF_val (by rfl) (by go_simp) ⟨rfl, Below.refl _ _, hR⟩
            · refine ⟨fun _ _ _ _ _ h => h, fun _ _ _ _ h _ => h, fun v n x hn hR hk => ?_⟩
              obtain ⟨f0, f1, f2⟩ := HFF.out x hR
              skip
              simp only [List.take_succ_cons, List.take_zero, frameF, Act.put, List.setIfInBounds_toArray, List.set_cons_zero, List.set_cons_succ]
              exact stepF_val (by rfl) (by go_simp) ⟨rfl, Below.refl _ _, hR⟩
            · refine ⟨fun _ _ _ _ _ h => h, fun _ _ _ _ h _ => h, fun v n x hn hR hk => ?_⟩
              obtain ⟨f0, f1, f2⟩ := HFF.out x hR
              skip
              simp only [List.take_succ_cons, List.take_zero, frameF, Act.put, List.setIfInBounds_toArray, List.set_cons_zero, List.set_cons_succ]
              exact stepF_val (by rfl) (by go_simp) ⟨rfl, Below.refl _ _, hR⟩
            · refine ⟨fun _ _ _ _ _ h => h, fun _ _ _ _ h _ => h, fun v n x hn hR hk => ?_⟩
              obtain ⟨f0, f1, f2⟩ := HFF.out x hR
              have h0 : v 9 = iv q := hk 9 (by kernel_rfl)
              simp only [List.take_succ_cons, List.take_zero, frameF, Act.put, List.setIfInBounds_toArray, List.set_cons_zero, List.set_cons_succ]
              exact stepF_val (by rfl) (by go_simp) ⟨rfl, Below.refl _ _, hR⟩
            · refine ⟨fun _ _ _ _ _ h => h, fun _ _ _ _ h _ => h, fun v n x hn hR hk => ?_⟩
              obtain ⟨f0, f1, f2⟩ := HFF.out x hR
              have h0 : v 8 = iv p := hk 8 (by kernel_rfl)
              simp only [List.take_succ_cons, List.take_zero, frameF, Act.put, List.setIfInBounds_toArray, List.set_cons_zero, List.set_cons_succ]
              exact stepF_val (by rfl) (by go_simp) ⟨rfl, Below.refl _ _, hR⟩
            · refine ⟨fun _ _ _ _ _ h => h, fun _ _ _ _ h _ => h, fun v n x hn hR hk => ?_⟩
              obtain ⟨f0, f1, f2⟩ := HFF.out x hR
              (have h0 : v 11 = .pointer (some ⟨w.heap.size, p * 25, none⟩) := hk 11 (by kernel_rfl); have h1 : v 10 = iv ((q + 1 : Nat) : Int) := hk 10 (by kernel_rfl))
              simp only [List.take_succ_cons, List.take_zero, frameF, Act.put, List.setIfInBounds_toArray, List.set_cons_zero, List.set_cons_succ]
              exact stepF_val (by rfl) (by go_simp) ⟨rfl, Below.refl _ _, hR⟩
            · refine ⟨fun _ _ _ _ _ h => h, fun _ _ _ _ h _ => h, fun v n x hn hR hk => ?_⟩
              obtain ⟨f0, f1, f2⟩ := HFF.out x hR
              have h0 : v 12 = .pointer (some ⟨w.heap.size, p * 25 + (q + 1), none⟩) := hk 12 (by kernel_rfl)
              simp only [List.take_succ_cons, List.take_zero, frameF, Act.put, List.setIfInBounds_toArray, List.set_cons_zero, List.set_cons_succ]
              exact stepF_val (by rfl) (by go_simp) ⟨rfl, Below.refl _ _, hR⟩
            · refine ⟨fun _ _ _ _ _ h => h, fun _ _ _ _ h hS => ?_, fun v n x hn hR hk => ?_⟩
              · obtain ⟨g, h1, h2⟩ := h
                exact ⟨g, h1, h2.below hS⟩
              · have h0 : v 7 = iv X := hk 7 (by kernel_rfl)
                have h1 : v 13 = iv Y := hk 13 (by kernel_rfl)
                simp only [List.take_succ_cons, List.take_zero, frameF, Act.put, List.setIfInBounds_toArray, List.set_cons_zero, List.set_cons_succ]
                exact stepF_new (u := .slice (some ⟨x.heap.size, 0, none⟩) 2 2) (w' := x.alloc (.cells #[iv X, iv Y] 3)) (by rfl) (by go_simp) ⟨⟨x.heap.size, rfl, Sl.fresh intE x 3 #[iv X, iv Y] [(X : Int), Y] rfl (by simp [maxLen])⟩, (Below.refl _ _).alloc (Nat.le_refl _) _, hR.alloc hR.size _⟩
            · refine ⟨fun _ _ _ _ _ h => h, fun _ _ _ _ h _ => h, fun v n x hn hR hk => ?_⟩
              have h14 : ∃ g, v 14 = .slice (some ⟨g, 0, none⟩) 2 2 ∧ Sl intE x (some ⟨g, 0, none⟩) [(X : Int), Y] := hk 14 (by kernel_rfl)
              obtain ⟨g, h1, h2⟩ := h14
              simp only [List.take_succ_cons, List.take_zero, frameF, Act.put, List.setIfInBounds_toArray, List.set_cons_zero, List.set_cons_succ]
              refine stepF_call (by rfl) (by go_simp) (greatest_spec (some ⟨g, 0, none⟩) [(X : Int), Y] 2 x (by simp [big]) h2) ?_
              rintro e x' ⟨rfl, rfl⟩
              exact ⟨_, rfl, great2 X Y, Below.refl _ _, hR⟩
            · refine ⟨fun _ _ _ _ _ h => h, fun _ _ _ _ h _ => h, fun v n x hn hR hk => ?_⟩
              obtain ⟨f0, f1, f2⟩ := HFF.out x hR
              have h0 : v 0 = iv p := hk 0 (by kernel_rfl)
              simp only [List.take_succ_cons, List.take_zero, frameF, Act.put, List.setIfInBounds_toArray, List.set_cons_zero, List.set_cons_succ]
              exact stepF_val (by rfl) (by go_simp) ⟨rfl, Below.refl _ _, hR⟩
            · refine ⟨fun _ _ _ _ _ h => h, fun _ _ _ _ h _ => h, fun v n x hn hR hk => ?_⟩
              obtain ⟨f0, f1, f2⟩ := HFF.out x hR
              (have h0 : v 16 = .pointer (some ⟨w.heap.size, p * 25, none⟩) := hk 16 (by kernel_rfl); have h1 : v 1 = iv q := hk 1 (by kernel_rfl))
              simp only [List.take_succ_cons, List.take_zero, frameF, Act.put, List.setIfInBounds_toArray, List.set_cons_zero, List.set_cons_succ]
              exact stepF_val (by rfl) (by go_simp) ⟨rfl, Below.refl _ _, hR⟩
          · intro v n x hn hR hall
            have h15 : v 15 = iv (max X Y : Nat) := hall 15 (by decide)
            have h17 : v 17 = .pointer (some ⟨w.heap.size, p * 25 + q, none⟩) := hall 17 (by decide)
            have hst := (HGX.out.below hR).set_ (i := p) (j := q) (by omega) (by omega) (max X Y)
            have hgl := (HGX.out.below hR).lt
            have m0 := (HGX.out.below hR).cell (i := p) (j := q) (by omega) (by omega)
            have m1 := (HGX.out.below hR).frozen
            have HST := Lib.hid hst
            have HBS := Lib.hid ((HBX.out.next hR (Nat.le_refl _)).setCell (p := ⟨w.heap.size, p * 25 + q, none⟩) (Nat.le_refl _) (iv (max X Y : Nat)))
            clear hall hR hst HFF
            simp only [List.drop_succ_cons, List.drop_zero, List.take_succ_cons, List.take_zero, frameF, Act.put, List.setIfInBounds_toArray, List.set_cons_zero, List.set_cons_succ, h15, h17]
            go_upto_region 9 with fail
            generalize x.setCell ⟨w.heap.size, p * 25 + q, none⟩ (iv (max X Y : Nat)) = wS at *
            have hpa : p < a.length := by omega
            have hqb : q < b.length := by omega
            obtain ⟨ba, offa, sa, rfl, hba, hxa, hca⟩ := Sl.atS (hsa.below HBS.out) hpa
            obtain ⟨bb, offb, sb, rfl, hbb, hxb, hcb⟩ := Sl.atS (hsb.below HBS.out) hqb
            have hpai : (p : Int) < (a.length : Int) := by omega
            have hqbi : (q : Int) < (b.length : Int) := by omega
            have HXA := Lib.hid hxa
            have HXB := Lib.hid hxb
            clear hxa hxb m0 m1
            have hsq := str_eq sa sb
            have HSA : Hid (a[p]'hpa = sa) := Lib.hid (by have := HXA.out; rw [List.getElem?_eq_getElem hpa] at this; injection this)
            have HSB : Hid (b[q]'hqb = sb) := Lib.hid (by have := HXB.out; rw [List.getElem?_eq_getElem hqb] at this; injection this)
            by_cases hsab : sa = sb
            · have heq : (sa.toList == sb.toList) = true := by rw [hsq]; simpa using hsab
              have HEQ := Lib.hid hsab
              clear hsq hsab
              have hZl : Z ≤ 24 := by have := File.from_le a b (p + 1) (q + 1); rw [← HZ.out] at this; omega
              obtain ⟨M, hM⟩ : ∃ M, M = max X Y := ⟨_, rfl⟩
              rw [← hM] at HST
              have hHM : Hid (M = max X Y) := Lib.hid hM
              have e3 : IntKind.i64.wrap ((Z : Int) + 1) = ((Z + 1 : Nat) : Int) := IntWalk.i64_in _ (by omega)
              go_quiet (fail)
              go_upto_region 10 with fail
              have HSTn : Hid (Grid (wS.drewN nq) w.heap.size fun p_1 q_1 => if p_1 = p ∧ q_1 = q then M else partTab a b p (q + 1) p_1 q_1) := Lib.hid HST.out
              have HBSn : Hid (Below w.heap.size w (wS.drewN nq)) := Lib.hid ⟨HBS.out.os, HBS.out.tape, HBS.out.output, HBS.out.size, HBS.out.block⟩
              generalize wS.drewN nq = wT at *
              clear hM
              have HFF : Hid (∀ x : World, Below wT.heap.size wT x → x.cell? ⟨w.heap.size, p * 25 + q, none⟩ = some (iv M) ∧ x.cell? ⟨w.heap.size, (p + 1) * 25 + (q + 1), none⟩ = some (iv Z) ∧ w.heap.size < x.heap.size) := Lib.hid fun x h =>
                ⟨by rw [(HSTn.out.below h).cell (by omega) (by omega), if_pos ⟨rfl, rfl⟩], by rw [(HSTn.out.below h).cell (by omega) (by omega), if_neg (by omega), hZ], (HSTn.out.below h).lt⟩
              refine wp_free_lit (by kernel_rfl) 19 (by kernel_rfl) (by kernel_rfl) (by decide) (fun _ x => Below wT.heap.size wT x) (fun x x' => Below x.heap.size x x')
                [fun _ u _ => u = iv p,
                 fun _ u _ => u = iv q,
                 fun _ u _ => u = iv p,
                 fun _ u _ => u = iv q,
                 fun _ u _ => u = .pointer (some ⟨w.heap.size, p * 25, none⟩),
                 fun _ u _ => u = .pointer (some ⟨w.heap.size, p * 25 + q, none⟩),
                 fun _ u _ => u = iv M,
                 fun _ u _ => u = iv p,
                 fun _ u _ => u = iv ((p + 1 : Nat) : Int),
                 fun _ u _ => u = iv q,
                 fun _ u _ => u = iv ((q + 1 : Nat) : Int),
                 fun _ u _ => u = .pointer (some ⟨w.heap.size, (p + 1) * 25, none⟩),
                 fun _ u _ => u = .pointer (some ⟨w.heap.size, (p + 1) * 25 + (q + 1), none⟩),
                 fun _ u _ => u = iv Z,
                 fun _ u _ => u = iv ((Z + 1 : Nat) : Int),
                 fun _ u x => ∃ g, u = .slice (some ⟨g, 0, none⟩) 2 2 ∧ Sl intE x (some ⟨g, 0, none⟩) [(M : Int), ((Z + 1 : Nat) : Int)],
                 fun _ u _ => u = iv (max M (Z + 1) : Nat),
                 fun _ u _ => u = .pointer (some ⟨w.heap.size, p * 25, none⟩),
                 fun _ u _ => u = .pointer (some ⟨w.heap.size, p * 25 + q, none⟩)]
                (Below.refl _ wT).drew ?_ ?_
              · simp only [List.take_succ_cons, List.take_zero, HopL]
                refine ⟨?_, ?_, ?_, ?_, ?_, ?_, ?_, ?_, ?_, ?_, ?_, ?_, ?_, ?_, ?_, ?_, ?_, ?_, ?_, trivial⟩
                · refine ⟨fun _ _ _ _ _ h => h, fun _ _ _ _ h _ => h, fun v n x hn hR hk => ?_⟩
                  obtain ⟨f0, f1, f2⟩ := HFF.out x hR
                  skip
                  simp only [List.take_succ_cons, List.take_zero, frameF, Act.put, List.setIfInBounds_toArray, List.set_cons_zero, List.set_cons_succ]
                  exact stepF_val (by rfl) (by go_simp) ⟨rfl, Below.refl _ _, hR⟩
                · refine ⟨fun _ _ _ _ _ h => h, fun _ _ _ _ h _ => h, fun v n x hn hR hk => ?_⟩
                  obtain ⟨f0, f1, f2⟩ := HFF.out x hR
                  skip
                  simp only [List.take_succ_cons, List.take_zero, frameF, Act.put, List.setIfInBounds_toArray, List.set_cons_zero, List.set_cons_succ]
                  exact stepF_val (by rfl) (by go_simp) ⟨rfl, Below.refl _ _, hR⟩
                · refine ⟨fun _ _ _ _ _ h => h, fun _ _ _ _ h _ => h, fun v n x hn hR hk => ?_⟩
                  obtain ⟨f0, f1, f2⟩ := HFF.out x hR
                  skip
                  simp only [List.take_succ_cons, List.take_zero, frameF, Act.put, List.setIfInBounds_toArray, List.set_cons_zero, List.set_cons_succ]
                  exact stepF_val (by rfl) (by go_simp) ⟨rfl, Below.refl _ _, hR⟩
                · refine ⟨fun _ _ _ _ _ h => h, fun _ _ _ _ h _ => h, fun v n x hn hR hk => ?_⟩
                  obtain ⟨f0, f1, f2⟩ := HFF.out x hR
                  skip
                  simp only [List.take_succ_cons, List.take_zero, frameF, Act.put, List.setIfInBounds_toArray, List.set_cons_zero, List.set_cons_succ]
                  exact stepF_val (by rfl) (by go_simp) ⟨rfl, Below.refl _ _, hR⟩
                · refine ⟨fun _ _ _ _ _ h => h, fun _ _ _ _ h _ => h, fun v n x hn hR hk => ?_⟩
                  obtain ⟨f0, f1, f2⟩ := HFF.out x hR
                  have h0 : v 2 = iv p := hk 2 (by kernel_rfl)
                  simp only [List.take_succ_cons, List.take_zero, frameF, Act.put, List.setIfInBounds_toArray, List.set_cons_zero, List.set_cons_succ]
                  exact stepF_val (by rfl) (by go_simp) ⟨rfl, Below.refl _ _, hR⟩
                · refine ⟨fun _ _ _ _ _ h => h, fun _ _ _ _ h _ => h, fun v n x hn hR hk => ?_⟩
                  obtain ⟨f0, f1, f2⟩ := HFF.out x hR
                  (have h0 : v 4 = .pointer (some ⟨w.heap.size, p * 25, none⟩) := hk 4 (by kernel_rfl); have h1 : v 3 = iv q := hk 3 (by kernel_rfl))
                  simp only [List.take_succ_cons, List.take_zero, frameF, Act.put, List.setIfInBounds_toArray, List.set_cons_zero, List.set_cons_succ]
                  exact stepF_val (by rfl) (by go_simp) ⟨rfl, Below.refl _ _, hR⟩
                · refine ⟨fun _ _ _ _ _ h => h, fun _ _ _ _ h _ => h, fun v n x hn hR hk => ?_⟩
                  obtain ⟨f0, f1, f2⟩ := HFF.out x hR
                  have h0 : v 5 = .pointer (some ⟨w.heap.size, p * 25 + q, none⟩) := hk 5 (by kernel_rfl)
                  simp only [List.take_succ_cons, List.take_zero, frameF, Act.put, List.setIfInBounds_toArray, List.set_cons_zero, List.set_cons_succ]
                  exact stepF_val (by rfl) (by go_simp) ⟨rfl, Below.refl _ _, hR⟩
                · refine ⟨fun _ _ _ _ _ h => h, fun _ _ _ _ h _ => h, fun v n x hn hR hk => ?_⟩
                  obtain ⟨f0, f1, f2⟩ := HFF.out x hR
                  skip
                  simp only [List.take_succ_cons, List.take_zero, frameF, Act.put, List.setIfInBounds_toArray, List.set_cons_zero, List.set_cons_succ]
                  exact stepF_val (by rfl) (by go_simp) ⟨rfl, Below.refl _ _, hR⟩
                · refine ⟨fun _ _ _ _ _ h => h, fun _ _ _ _ h _ => h, fun v n x hn hR hk => ?_⟩
                  obtain ⟨f0, f1, f2⟩ := HFF.out x hR
                  have h0 : v 7 = iv p := hk 7 (by kernel_rfl)
                  simp only [List.take_succ_cons, List.take_zero, frameF, Act.put, List.setIfInBounds_toArray, List.set_cons_zero, List.set_cons_succ]
                  exact stepF_val (by rfl) (by go_simp) ⟨rfl, Below.refl _ _, hR⟩
                · refine ⟨fun _ _ _ _ _ h => h, fun _ _ _ _ h _ => h, fun v n x hn hR hk => ?_⟩
                  obtain ⟨f0, f1, f2⟩ := HFF.out x hR
                  skip
                  simp only [List.take_succ_cons, List.take_zero, frameF, Act.put, List.setIfInBounds_toArray, List.set_cons_zero, List.set_cons_succ]
                  exact stepF_val (by rfl) (by go_simp) ⟨rfl, Below.refl _ _, hR⟩
                · refine ⟨fun _ _ _ _ _ h => h, fun _ _ _ _ h _ => h, fun v n x hn hR hk => ?_⟩
                  obtain ⟨f0, f1, f2⟩ := HFF.out x hR
                  have h0 : v 9 = iv q := hk 9 (by kernel_rfl)
                  simp only [List.take_succ_cons, List.take_zero, frameF, Act.put, List.setIfInBounds_toArray, List.set_cons_zero, List.set_cons_succ]
                  exact stepF_val (by rfl) (by go_simp) ⟨rfl, Below.refl _ _, hR⟩
                · refine ⟨fun _ _ _ _ _ h => h, fun _ _ _ _ h _ => h, fun v n x hn hR hk => ?_⟩
                  obtain ⟨f0, f1, f2⟩ := HFF.out x hR
                  have h0 : v 8 = iv ((p + 1 : Nat) : Int) := hk 8 (by kernel_rfl)
                  simp only [List.take_succ_cons, List.take_zero, frameF, Act.put, List.setIfInBounds_toArray, List.set_cons_zero, List.set_cons_succ]
                  exact stepF_val (by rfl) (by go_simp) ⟨rfl, Below.refl _ _, hR⟩
                · refine ⟨fun _ _ _ _ _ h => h, fun _ _ _ _ h _ => h, fun v n x hn hR hk => ?_⟩
                  obtain ⟨f0, f1, f2⟩ := HFF.out x hR
                  (have h0 : v 11 = .pointer (some ⟨w.heap.size, (p + 1) * 25, none⟩) := hk 11 (by kernel_rfl); have h1 : v 10 = iv ((q + 1 : Nat) : Int) := hk 10 (by kernel_rfl))
                  simp only [List.take_succ_cons, List.take_zero, frameF, Act.put, List.setIfInBounds_toArray, List.set_cons_zero, List.set_cons_succ]
                  exact stepF_val (by rfl) (by go_simp) ⟨rfl, Below.refl _ _, hR⟩
                · refine ⟨fun _ _ _ _ _ h => h, fun _ _ _ _ h _ => h, fun v n x hn hR hk => ?_⟩
                  obtain ⟨f0, f1, f2⟩ := HFF.out x hR
                  have h0 : v 12 = .pointer (some ⟨w.heap.size, (p + 1) * 25 + (q + 1), none⟩) := hk 12 (by kernel_rfl)
                  simp only [List.take_succ_cons, List.take_zero, frameF, Act.put, List.setIfInBounds_toArray, List.set_cons_zero, List.set_cons_succ]
                  exact stepF_val (by rfl) (by go_simp) ⟨rfl, Below.refl _ _, hR⟩
                · refine ⟨fun _ _ _ _ _ h => h, fun _ _ _ _ h _ => h, fun v n x hn hR hk => ?_⟩
                  obtain ⟨f0, f1, f2⟩ := HFF.out x hR
                  have h0 : v 13 = iv Z := hk 13 (by kernel_rfl)
                  simp only [List.take_succ_cons, List.take_zero, frameF, Act.put, List.setIfInBounds_toArray, List.set_cons_zero, List.set_cons_succ]
                  exact stepF_val (by rfl) (by go_simp) ⟨rfl, Below.refl _ _, hR⟩
                · refine ⟨fun _ _ _ _ _ h => h, fun _ _ _ _ h hS => ?_, fun v n x hn hR hk => ?_⟩
                  · obtain ⟨g, h1, h2⟩ := h
                    exact ⟨g, h1, h2.below hS⟩
                  · have h0 : v 6 = iv M := hk 6 (by kernel_rfl)
                    have h1 : v 14 = iv ((Z + 1 : Nat) : Int) := hk 14 (by kernel_rfl)
                    simp only [List.take_succ_cons, List.take_zero, frameF, Act.put, List.setIfInBounds_toArray, List.set_cons_zero, List.set_cons_succ]
                    exact stepF_new (u := .slice (some ⟨x.heap.size, 0, none⟩) 2 2) (w' := x.alloc (.cells #[iv M, iv ((Z + 1 : Nat) : Int)] 3)) (by rfl) (by go_simp) ⟨⟨x.heap.size, rfl, Sl.fresh intE x 3 #[iv M, iv ((Z + 1 : Nat) : Int)] [(M : Int), ((Z + 1 : Nat) : Int)] rfl (by simp [maxLen])⟩, (Below.refl _ _).alloc (Nat.le_refl _) _, hR.alloc hR.size _⟩
                · refine ⟨fun _ _ _ _ _ h => h, fun _ _ _ _ h _ => h, fun v n x hn hR hk => ?_⟩
                  have h14 : ∃ g, v 15 = .slice (some ⟨g, 0, none⟩) 2 2 ∧ Sl intE x (some ⟨g, 0, none⟩) [(M : Int), ((Z + 1 : Nat) : Int)] := hk 15 (by kernel_rfl)
                  obtain ⟨g, h1, h2⟩ := h14
                  simp only [List.take_succ_cons, List.take_zero, frameF, Act.put, List.setIfInBounds_toArray, List.set_cons_zero, List.set_cons_succ]
                  refine stepF_call (by rfl) (by go_simp) (greatest_spec (some ⟨g, 0, none⟩) [(M : Int), ((Z + 1 : Nat) : Int)] 2 x (by simp [big]) h2) ?_
                  rintro e x' ⟨rfl, rfl⟩
                  exact ⟨_, rfl, great2 M (Z + 1), Below.refl _ _, hR⟩
                · refine ⟨fun _ _ _ _ _ h => h, fun _ _ _ _ h _ => h, fun v n x hn hR hk => ?_⟩
                  obtain ⟨f0, f1, f2⟩ := HFF.out x hR
                  have h0 : v 0 = iv p := hk 0 (by kernel_rfl)
                  simp only [List.take_succ_cons, List.take_zero, frameF, Act.put, List.setIfInBounds_toArray, List.set_cons_zero, List.set_cons_succ]
                  exact stepF_val (by rfl) (by go_simp) ⟨rfl, Below.refl _ _, hR⟩
                · refine ⟨fun _ _ _ _ _ h => h, fun _ _ _ _ h _ => h, fun v n x hn hR hk => ?_⟩
                  obtain ⟨f0, f1, f2⟩ := HFF.out x hR
                  (have h0 : v 17 = .pointer (some ⟨w.heap.size, p * 25, none⟩) := hk 17 (by kernel_rfl); have h1 : v 1 = iv q := hk 1 (by kernel_rfl))
                  simp only [List.take_succ_cons, List.take_zero, frameF, Act.put, List.setIfInBounds_toArray, List.set_cons_zero, List.set_cons_succ]
                  exact stepF_val (by rfl) (by go_simp) ⟨rfl, Below.refl _ _, hR⟩
              · intro v' n x hn hR hall
                have h15 : v' 16 = iv (max M (Z + 1) : Nat) := hall 16 (by decide)
                have h17 : v' 18 = .pointer (some ⟨w.heap.size, p * 25 + q, none⟩) := hall 18 (by decide)
                have hst := (HSTn.out.below hR).set_ (i := p) (j := q) (by omega) (by omega) (max M (Z + 1))
                have hgl := (HSTn.out.below hR).lt
                have m0 := (HSTn.out.below hR).cell (i := p) (j := q) (by omega) (by omega)
                have m1 := (HSTn.out.below hR).frozen
                have HGf : Hid (Grid (x.setCell ⟨w.heap.size, p * 25 + q, none⟩ (iv (max M (Z + 1) : Nat))) w.heap.size (partTab a b p q)) := Lib.hid (hst.congr fun r t hr ht => by
                  unfold partTab
                  have hs := File.from_step hpa hqb
                  rw [HSA.out, HSB.out, if_pos HEQ.out, ← HX.out, ← HY.out, ← HZ.out, ← hHM.out] at hs
                  by_cases h1 : r = p ∧ t = q
                  · rw [if_pos h1, if_pos (by omega), h1.1, h1.2, hs]
                  · rw [if_neg h1, if_neg h1]
                    by_cases h2 : p < r ∨ (r = p ∧ q + 1 ≤ t)
                    · rw [if_pos h2, if_pos (by omega)]
                    · rw [if_neg h2, if_neg (by omega)])
                have HBf := Lib.hid ((HBSn.out.next hR (Nat.le_refl _)).setCell (p := ⟨w.heap.size, p * 25 + q, none⟩) (Nat.le_refl _) (iv (max M (Z + 1) : Nat)))
                clear hall hR hst HFF
                simp only [List.drop_succ_cons, List.drop_zero, List.take_succ_cons, List.take_zero, frameF, Act.put, List.setIfInBounds_toArray, List.set_cons_zero, List.set_cons_succ, h15, h17]
                go_wp2_with fail
                go_roundw
                case rel => exact ⟨q, by omega, rfl, HGf.out, HBf.out⟩
                case measure => simp [intOf]
            · have heq : (sa.toList == sb.toList) = false := by rw [hsq]; simpa using hsab
              have HEQ := Lib.hid hsab
              clear hsq hsab
              have HGf : Hid (Grid wS w.heap.size (partTab a b p q)) := Lib.hid (HST.out.congr fun r t hr ht => by
                unfold partTab
                have hs := File.from_step hpa hqb
                rw [HSA.out, HSB.out, if_neg HEQ.out, ← HX.out, ← HY.out] at hs
                by_cases h1 : r = p ∧ t = q
                · rw [if_pos h1, if_pos (by omega), h1.1, h1.2, hs]
                · rw [if_neg h1]
                  by_cases h2 : p < r ∨ (r = p ∧ q + 1 ≤ t)
                  · rw [if_pos h2, if_pos (by omega)]
                  · rw [if_neg h2, if_neg (by omega)])
              go_quiet (fail)
              have hGn : Grid (wS.drewN nq) w.heap.size (partTab a b p q) := HGf.out
              have hBn : Below w.heap.size w (wS.drewN nq) := ⟨HBS.out.os, HBS.out.tape, HBS.out.output, HBS.out.size, HBS.out.block⟩
              go_wp2_with fail
              go_roundw
              case rel => exact ⟨q, by omega, rfl, hGn, hBn⟩
              case measure => simp [intOf]
        · obtain rfl : j = 0 := by omega
          go_wp2_with fail
          go_roundw
          case rel => exact ⟨p, by omega, rfl, hGx, hbx⟩
          case measure => simp [intOf]
    · obtain rfl : i = 0 := by omega
      go_wp2_with fail
      go_ret
      exact ⟨_, rfl, hG.congr fun p q _ _ => by unfold partTab; rw [if_pos (by omega)], hbw⟩
end Fl
end Go.Proofs.YtlpoiggdjggkiaaGreatDoor
end
section
namespace Go.Proofs.YtlpoiggdjggkiaaGreatDoor
namespace Fl
open Go.RowKit Go.Maps Go.WideMaps Go.ChangeShapes
set_option maxRecDepth 100000
theorem both_spec (A : Option Addr) (a : List ByteArray) (c : Nat) (A' : Option Addr) (b : List ByteArray) (c' : Nat) (w : World) (ha : a.length ≤ big) (hb : b.length ≤ big) (hsa : Sl strE w A a) (hsb : Sl strE w A' b) :
    Calls Tryz.prog 26 #[.slice A a.length c, .slice A' b.length c'] w fun e w' => e = .returned (iv (if File.check a = 0 then File.check b else File.check a)) ∧ Below w.heap.size w w' := by
  have HA := Lib.hid (check_spec A a c w ha hsa)
  by_cases h : File.check a = 0
  · rw [if_pos h]
    rw [h] at HA
    clear h
    go_enter Tryz.func26, Tryz.ntmps26
    go_wp2_with fail
    refine HA.out.mono ?_
    rintro e w1 ⟨rfl, hb1⟩
    have HB := Lib.hid (check_spec A' b c' w1 hb (hsb.below hb1))
    go_wp2_with fail
    refine HB.out.mono ?_
    rintro e w2 ⟨rfl, hb2⟩
    go_wp2_with fail
    go_ret
    exact ⟨rfl, hb1.next hb2 (Nat.le_refl _)⟩
  · rw [if_neg h]
    have hne : (File.check a != 0) = true := by simpa using h
    clear h
    go_enter Tryz.func26, Tryz.ntmps26
    go_wp2_with fail
    refine HA.out.mono ?_
    rintro e w1 ⟨rfl, hb1⟩
    go_wp2_with fail
    go_ret
    exact ⟨rfl, hb1⟩
theorem laws : Keyed Tryz.prog 9 := string_keyed Tryz.underlying9
theorem key_str {s : ByteArray} (h : s.size ≤ maxLen) : keyOf Tryz.prog 9 (.string s) = some (.string s.data.toList) := keyOf_string_mk Tryz.underlying9 h
theorem zeroInts (w : World) : (zeroValue 29).run Tryz.prog w = .ok (.slice none 0 0) w := by kernel_rfl
/-- How a group reads. -/
def Reads (l : List Int) (d : DataW Unit) : Prop := (d = .nil ∧ l = []) ∨ d = .slice (lits .i64 l) []
/-- The places of a line. -/
def posOf (s : ByteArray) : List ByteArray → Nat → List Int
  | [], _ => []
  | x :: l, i => if x = s then (i : Int) :: posOf s l (i + 1) else posOf s l (i + 1)
/-- Block m says where the lines of l are; the places lie from B on. -/
def Where (w : World) (m B : Nat) (l : List ByteArray) : Prop := ∃ (n : Nat) (D : DataW Unit), n ≤ l.length ∧ w.ownsGroups (H := Unit) Tryz.prog 9 B 3 .i64 m n D ∧ ∀ s : ByteArray, s.size ≤ maxLen → Reads (posOf s l 0) (D.atKey (.string s.data.toList) .nil)
theorem Where.below {w w' : World} {m B : Nat} {l : List ByteArray} (h : Where w m B l) (hb : Below w.heap.size w w') : Where w' m B l := by
  obtain ⟨n, D, h1, h2, h3⟩ := h
  have hg : w.grownBy w' none := ⟨hb.os, hb.tape, hb.output, hb.size, fun k hk _ => hb.block k hk⟩
  exact ⟨n, D, h1, h2.kept hg (by simp) (h2.rowsAbove (by simp)), h3⟩
theorem where_nil (w : World) (o : Obj) : Where ((w.alloc (.map #[] 0)).alloc o) w.heap.size (w.heap.size + 2) [] := by
  refine ⟨0, .map [], Nat.le_refl _, ?_, fun s _ => .inl ⟨rfl, rfl⟩⟩
  refine ⟨#[], 0, ?_, ⟨by simp, Go.MapKept.stamped_empty 0, by simp⟩, Nat.le_refl _, rfl, by omega, by simp, by simp⟩
  rw [Below.heap_alloc _ _ _ (by simp), (MapKept.heap_alloc w _).1]
theorem posOf_snoc (s x : ByteArray) : ∀ (l : List ByteArray) (i : Nat), posOf s (l ++ [x]) i = posOf s l i ++ (if x = s then [((i + l.length : Nat) : Int)] else []) := by
  intro l
  induction l with
  | nil => intro i; simp [posOf]
  | cons y l ih =>
    intro i
    simp only [List.cons_append, posOf, ih, List.length_cons]
    rw [show i + 1 + l.length = i + (l.length + 1) by omega]
    split <;> simp
theorem Reads.unique {l l' : List Int} {d : DataW Unit} (h : Reads l d) (h' : Reads l' d) : l = l' := by
  rcases h with ⟨rfl, rfl⟩ | rfl
  · rcases h' with ⟨_, rfl⟩ | h'
    · rfl
    · cases h'
  · rcases h' with ⟨h', _⟩ | h'
    · cases h'
    · injection h' with h'
      unfold lits at h'
      revert h'
      induction l generalizing l' with
      | nil => intro h; cases l' with
        | nil => rfl
        | cons _ _ => simp at h
      | cons y l ih => intro h; cases l' with
        | nil => simp at h
        | cons y' l' =>
          simp only [List.map_cons, List.cons.injEq] at h
          obtain ⟨h1, h2⟩ := h
          rw [ih h2]
          congr 1
          injection h1 with h1
          injection h1
theorem reads_of {w : World} {base : Nat} {v : Value} {zs : List Int} (h : w.ownsInts base 3 .i64 v zs) : Reads zs (rowDatum (H := Unit) .i64 v zs) := by
  rcases h.datum (H := Unit) with ⟨h1, h2⟩ | h1
  · exact .inl ⟨h1, h2⟩
  · exact .inr h1
section
variable {ops : Array Oper} {o : Oper} {a : Act} {K : Act → World → Prop} {Q : Exit → Act → World → Prop} {E' : Prop} {w : World}
/-- What where[s] gives, if v is read. -/
structure Look (w : World) (ob : Obj) (m B n : Nat) (D : DataW Unit) (s : ByteArray) (v : Value) (zs : List Int) : Prop where
  at_ : D.atKey (.string s.data.toList) .nil = rowDatum .i64 v zs
  own : (w.alloc ob).ownsInts B 3 .i64 v zs
  len : zs.length ≤ n
  back : (w.alloc ob).groupBack Tryz.prog 155 9 B 3 .i64 m n D (.string s) (.string s.data.toList) v
/-- where[s] in a world and behind one new block. -/
theorem look_both {m B n : Nat} {D : DataW Unit} (ob : Obj) (hown : w.ownsGroups (H := Unit) Tryz.prog 9 B 3 .i64 m n D) (hn : n < maxLen) {s : ByteArray} (hs : s.size ≤ maxLen) :
    ∃ v zs v2 zs2, (Instr.lookup 155 (.map (some m)) (.string s) false).run Tryz.prog w = .ok v w ∧ (Instr.lookup 155 (.map (some m)) (.string s) false).run Tryz.prog (w.alloc ob) = .ok v2 (w.alloc ob) ∧ Look w ob m B n D s v zs ∧ Look w ob m B n D s v2 zs2 := by
  have hown' : (w.alloc ob).ownsGroups (H := Unit) Tryz.prog 9 B 3 .i64 m n D := hown.kept (World.grownBy_alloc w ob none) (by simp) (hown.rowsAbove (by simp))
  obtain ⟨v, zs, hrun, hat, hoi, hzl, hback⟩ := hown.at laws Tryz.underlying155 (zeroInts _) hn (key_str hs)
  obtain ⟨v2, zs2, hrun2, hat2, hoi2, hzl2, hback2⟩ := hown'.at laws Tryz.underlying155 (zeroInts _) hn (key_str hs)
  refine ⟨v, zs, v2, zs2, hrun, hrun2, ⟨hat, hoi.alloc _, hzl, fun w1 v' zs' hg h1 h2 h3 => hback w1 v' zs' ((World.grownBy_alloc _ _ _).trans hg) h1 h2 (h3.imp id ?_)⟩, ⟨hat2, hoi2, hzl2, hback2⟩⟩
  rintro ⟨g, h4, h5⟩
  exact ⟨g, h4, by simp at h5; omega⟩
theorem info_int : (Tryz.prog.info? 3).map (fun i => (i.zero, i.size, i.bytes)) = some (some (.int .i64 0), 1, 8) := by kernel_rfl
/-- append(where[s], j) at such a step. -/
theorem stepAppW {W : World} (hgd : o.guard = none) (s x : Operand) (ho : o.op = .call { callee := .builtin .append, args := #[s, x], argTypes := #[29, 29] }) {B : Nat} {v : Value} {zs : List Int} (j : Nat) (hj : j < 1000)
    (hW : W = w.alloc (.cells #[iv j] 3)) (hown : W.ownsInts B 3 .i64 v zs) (hz : zs.length < 1000) (hs : a.eval s = v) {G : Nat} (hG : G = w.heap.size) (hx : a.eval x = .slice (some ⟨G, 0, none⟩) 1 1) (hB : B ≤ w.heap.size)
    (h : ∀ v' w', w'.ownsInts B 3 .i64 v' (zs ++ [(j : Int)]) → W.grownBy w' v.ownBlock → (v'.ownBlock = v.ownBlock ∨ ∃ g, v'.ownBlock = some g ∧ W.heap.size ≤ g) → K (a.put o.dst v') w') :
    if Region.wanted o (yielded ops a.tmps) = true then Oper.wp Tryz.prog o a W K Q else E' := by
  subst hW hG
  have hw : Region.wanted o (yielded ops a.tmps) = true := by simp [Region.wanted, hgd]
  rw [if_pos hw]
  obtain ⟨i0, hi, hz0, hz1, hz2⟩ := info_parts info_int
  obtain ⟨v', w', hr, h2, h3, h4, h5⟩ := run_append_own_at (P := Tryz.prog) (w.alloc (.cells #[iv j] 3)) B 29 o.type 3 i0 (.int .i64 0) 1 8 Tryz.underlying29 hi hz0 hz1 hz2 rfl (by decide) v zs.length (zs.map (Value.int .i64)) hown.1 ⟨w.heap.size, 0, none⟩ 1 1 [iv j] rfl (cell_one_new _ _ _) (ints_oneCell .i64 [(j : Int)]) (by unfold maxLen; omega) (by omega) (by simp; omega)
  unfold Oper.wp execOp
  simp only [ho, resolve, invoke, builtin, Sem.run_bind, Sem.run_pure, Result.andThen_ok, List.map_toArray, List.map_cons, List.map_nil, hs, hx, hr]
  exact h v' w' (hown.appended h2 (by have h1 : IntKind.i64.min = -9223372036854775808 := rfl; have h2 : IntKind.i64.max = 9223372036854775807 := rfl; simp only [Lit.wf, Bool.and_eq_true, decide_eq_true_eq, h1, h2]; omega)) h3 (h5.imp id fun h => ⟨_, h, Nat.le_refl _⟩)
end
/-- What a round of the loop leaves. -/
theorem where_snoc {w w1 w2 : World} {m B n : Nat} {D : DataW Unit} {l : List ByteArray} {s : ByteArray} {v v' : Value} {zs : List Int} {j : Nat} (hj : l.length = j) (hn : n ≤ l.length) (hD : IsMap D)
    (hr : ∀ s : ByteArray, s.size ≤ maxLen → Reads (posOf s l 0) (D.atKey (.string s.data.toList) .nil)) (hs : s.size ≤ maxLen)
    (hat : D.atKey (.string s.data.toList) .nil = rowDatum .i64 v zs) (hoi : w.ownsInts B 3 .i64 v zs) (hoi' : w1.ownsInts B 3 .i64 v' (zs ++ [(j : Int)]))
    (hg : w2.ownsGroups Tryz.prog 9 B 3 .i64 m (n + 1) (D.put (.string s.data.toList) (rowDatum .i64 v' (zs ++ [(j : Int)])))) : Where w2 m B (l ++ [s]) := by
  subst hj
  refine ⟨n + 1, _, by simp; omega, hg, fun s' hs' => ?_⟩
  rw [posOf_snoc]
  by_cases h : s = s'
  · subst h
    rw [atKey_put_same hD (by trivial)]
    have hz : posOf s l 0 = zs := (hr s hs).unique (by rw [hat]; exact reads_of hoi)
    rw [if_pos rfl, hz, Nat.zero_add]
    exact reads_of hoi'
  · rw [if_neg h, List.append_nil, atKey_put_other]
    · exact hr s' hs'
    · intro e
      injection e with e
      exact h (ByteArray.ext (by cases hh : s.data; cases hh' : s'.data; rw [hh, hh'] at e; simp at e; rw [e]))
end Fl
end Go.Proofs.YtlpoiggdjggkiaaGreatDoor
end
section
namespace Go.Proofs.YtlpoiggdjggkiaaGreatDoor
namespace Fl
open Go.RowKit Go.Maps Go.WideMaps Go.ChangeShapes
set_option maxRecDepth 100000
abbrev bp (b : Nat) : Value := .pointer (some ⟨b, 0, none⟩)
def pairE : Enc (Nat × Nat) := ⟨fun p => [iv (p.1 : Int), iv (p.2 : Int)], 2, fun _ => rfl, fun _ u h => by simp at h; rcases h with rfl | rfl <;> rfl, by decide⟩
theorem tyPairs : SlTy Tryz.prog 129 128 2 := slTy_of (z := .agg #[iv 0, iv 0]) (bytes := 16) Tryz.underlying129 (by kernel_rfl) rfl (by decide)
/-- The places of a line, as natural numbers. -/
def posN (s : ByteArray) : List ByteArray → Nat → List Nat
  | [], _ => []
  | x :: l, i => if x = s then i :: posN s l (i + 1) else posN s l (i + 1)
theorem posOf_eq (s : ByteArray) : ∀ (l : List ByteArray) (i : Nat), posOf s l i = (posN s l i).map fun (n : Nat) => (n : Int) := by
  intro l
  induction l with
  | nil => intro i; rfl
  | cons x l ih => intro i; unfold posOf posN; rw [ih]; split <;> rfl
theorem posN_lt {s : ByteArray} : ∀ (l : List ByteArray) (i : Nat), ∀ y ∈ posN s l i, y < i + l.length := by
  intro l
  induction l with
  | nil => intro i y h; cases h
  | cons x l ih =>
    intro i y h
    unfold posN at h
    rw [List.length_cons]
    split at h
    · rcases List.mem_cons.1 h with h | h
      · omega
      · have := ih _ _ h; omega
    · have := ih _ _ h; omega
theorem posN_length {s : ByteArray} : ∀ (l : List ByteArray) (i : Nat), (posN s l i).length ≤ l.length := by
  intro l
  induction l with
  | nil => intro i; exact Nat.le_refl _
  | cons x l ih =>
    intro i
    unfold posN
    have := ih (i + 1)
    split
    · simpa using this
    · rw [List.length_cons]; omega
/-- The test of the search. -/
def test (a b : List ByteArray) (F x j y : Nat) : Bool := decide (j ≤ y) && (decide (0 < F) && decide (File.from_ a b (x + 1) (y + 1) + 1 = F))
theorem fits_test {a b : List ByteArray} {F x j y : Nat} {s t : ByteArray} (hx : a[x]? = some s) (hy : b[y]? = some t) (hj : j ≤ y) : File.fits a b F x y = (decide (t = s) && test a b F x j y) := by
  obtain ⟨hx1, hx2⟩ := List.getElem?_eq_some_iff.1 hx
  obtain ⟨hy1, hy2⟩ := List.getElem?_eq_some_iff.1 hy
  rw [Bool.eq_iff_iff, File.fits_iff]
  unfold test
  simp only [Bool.and_eq_true, decide_eq_true_eq]
  constructor
  · rintro ⟨_, _, h1, h2⟩
    rw [hx2, hy2] at h1
    exact ⟨h1.symm, hj, by omega, h2⟩
  · rintro ⟨h1, _, _, h2⟩
    exact ⟨hx1, hy1, by rw [hx2, hy2, h1], h2⟩
theorem find_row {a b : List ByteArray} {F x j : Nat} {s : ByteArray} (hx : a[x]? = some s) : ∀ (n y : Nat), y + n = b.length → j ≤ y → (posN s (b.drop y) y).find? (test a b F x j) = File.rowFirst a b F x n y := by
  intro n
  induction n with
  | zero => intro y hy _; rw [List.drop_of_length_le (by omega)]; rfl
  | succ n ih =>
    intro y hy hj
    have hyl : y < b.length := by omega
    rw [List.drop_eq_getElem_cons hyl]
    unfold posN File.rowFirst
    rw [fits_test (j := j) hx (List.getElem?_eq_getElem hyl) hj, ← ih (y + 1) (by omega) (by omega)]
    by_cases h : b[y] = s
    · simp only [h, if_true, decide_true, Bool.true_and, List.find?_cons]
      split
      · rename_i h1; rw [if_pos (by simpa using h1)]
      · rename_i h1; rw [if_neg (by simpa using h1)]
    · simp [h]
theorem find_from {a b : List ByteArray} {F x j : Nat} {s : ByteArray} : ∀ (n y : Nat), y + n = j → j ≤ b.length → (posN s (b.drop y) y).find? (test a b F x j) = (posN s (b.drop j) j).find? (test a b F x j) := by
  intro n
  induction n with
  | zero => intro y hy _; rw [Nat.add_zero] at hy; rw [hy]
  | succ n ih =>
    intro y hy hj
    rw [List.drop_eq_getElem_cons (by omega), ← ih (y + 1) (by omega) hj]
    rw [posN]
    split
    · rw [List.find?_cons, show test a b F x j y = false by unfold test; rw [decide_eq_false (by omega), Bool.false_and]]
    · rfl
theorem find_pos {a b : List ByteArray} {F x j : Nat} {s : ByteArray} (hx : a[x]? = some s) (hj : j ≤ b.length) : (posN s b 0).find? (test a b F x j) = File.rowFirst a b F x (b.length - j) j := by
  rw [← find_row hx (b.length - j) j (by omega) (Nat.le_refl _), ← find_from j 0 (by omega) hj, List.drop_zero]
/-- where[s], read. -/
theorem Where.look {w : World} {m B : Nat} {l : List ByteArray} (h : Where w m B l) (hl : l.length < maxLen) (s : ByteArray) (hs : s.size ≤ maxLen) :
    ∃ A c, (Instr.lookup 155 (.map (some m)) (.string s) false).run Tryz.prog w = .ok (.slice A (posN s l 0).length c) w ∧ Sl intE w A ((posN s l 0).map fun (n : Nat) => (n : Int)) := by
  obtain ⟨n, D, h1, h2, h3⟩ := h
  obtain ⟨v, zs, hrun, hat, hoi, _, _⟩ := h2.at laws Tryz.underlying155 (zeroInts _) (by omega) (key_str hs)
  have hz : posOf s l 0 = zs := (h3 s hs).unique (by rw [hat]; exact reads_of hoi)
  have hfl : ∀ zs : List Int, zs.flatMap intE.cells = zs.map (Value.int .i64) := by
    intro zs
    induction zs with
    | nil => rfl
    | cons z zs ih => rw [List.flatMap_cons, List.map_cons, ← ih]; rfl
  have ho : Own intE 3 B w v zs := by
    unfold Own
    rw [hfl]
    exact hoi.1
  rw [← posOf_eq, hz, show (posN s l 0).length = zs.length by rw [← hz, posOf_eq, List.length_map]]
  obtain ⟨A, c, rfl, _, _⟩ := ho.form
  exact ⟨A, c, hrun, ho.sl⟩
/-- What the search stands on: a fixed world w0, the boxes before it. -/
structure Scene (w0 : World) (p2 p5 p6 g m B : Nat) (A : Option Addr) (c : Nat) (a b : List ByteArray) : Prop where
  la : a.length ≤ 24
  lb : b.length ≤ 24
  sm : ∀ s ∈ a, s.size ≤ 1000
  b5 : Blk w0 p5 153 #[bp g]
  b2 : Blk w0 p2 43 #[.slice A a.length c]
  b6 : Blk w0 p6 155 #[.map (some m)]
  grid : Grid w0 g (File.from_ a b)
  gl : g < w0.heap.size
  wh : Where w0 m B b
  sa : Sl strE w0 A a
set_option maxHeartbeats 4000000 in
theorem more_spec {w0 : World} {p2 p5 p6 g m B : Nat} {A : Option Addr} {c : Nat} {a b : List ByteArray} (HS : Hid (Scene w0 p2 p5 p6 g m B A c a b)) : ∀ (n i j : Nat) (acc : List (Nat × Nat)) (v : Value) (w : World), a.length - i < n → i ≤ a.length → j ≤ b.length → acc.length + a.length ≤ 100 + i →
    Below w0.heap.size w0 w → Blk w w0.heap.size 129 #[v] → Blk w (w0.heap.size + 1) 156 #[.func (.func 81) #[] #[bp p5, bp p2, bp p6, bp w0.heap.size, bp (w0.heap.size + 1)]] → Own pairE 128 (w0.heap.size + 2) w v acc →
    Calls Tryz.prog 81 #[.agg #[iv (i : Int), iv (j : Int)], bp p5, bp p2, bp p6, bp w0.heap.size, bp (w0.heap.size + 1)] w fun e w' => e = .returned (.tuple #[]) ∧ Below w0.heap.size w0 w' ∧ ∃ v', Blk w' w0.heap.size 129 #[v'] ∧ Own pairE 128 (w0.heap.size + 2) w' v' (acc ++ File.commonGo a b n i j) := by
  intro n
  induction n with
  | zero => intro i j acc v w h; omega
  | succ n ih =>
    intro i j acc v w hn hi hj hacc hb0 ho hf hown
    have IH := Lib.hid ih
    have hla := HS.out.la
    have hlb := HS.out.lb
    have hgl := HS.out.gl
    have h2l := HS.out.b2.lt
    have h5l := HS.out.b5.lt
    have h6l := HS.out.b6.lt
    have hw0 := hb0.size
    have hol := ho.lt
    have hfl := hf.lt
    have hB1 : Below w.heap.size w (w.alloc (.cells #[iv (i : Int), iv (j : Int)] 128)) := (Below.refl _ _).alloc (Nat.le_refl _) _
    have hat : Blk (w.alloc (.cells #[iv (i : Int), iv (j : Int)] 128)) w.heap.size 128 #[iv (i : Int), iv (j : Int)] := Blk.new _ _ _
    have hil : (i : Int) < 25 := by omega
    have hjl : (j : Int) < 25 := by omega
    clear ih
    go_enter Tryz.func81, Tryz.ntmps81
    go_wp2_with fail
    generalize w.alloc (.cells #[iv (i : Int), iv (j : Int)] 128) = w1 at *
    have hb1 : Below w0.heap.size w0 w1 := hb0.next hB1 (Nat.le_refl _)
    have c5 := (HS.out.b5.under hb1).cell 0
    have cg := (HS.out.grid.below hb1).cell (i := i) (j := j) (by omega) (by omega)
    have ca := hat.cell 0
    have cb := hat.cell 1
    obtain ⟨F, hF⟩ : ∃ F, F = File.from_ a b i j := ⟨_, rfl⟩
    rw [← hF] at cg
    have HF := Lib.hid hF
    clear hF
    go_quiet (fail)
    have hd1 : Below w1.heap.size w1 (w1.drewN nq) := ⟨rfl, rfl, rfl, Nat.le_refl _, fun _ _ => rfl⟩
    have hB2 : Below w.heap.size w (w1.drewN nq) := hB1.next hd1 (Nat.le_refl _)
    have hatA := hat.under hd1
    have zs1 : w1.heap.size = (w1.drewN nq).heap.size := rfl
    clear hd1 hat ca cb cg c5 hb1 hB1
    generalize w1.drewN nq = wA at *
    clear zs1
    have hatc := hatA.cell 0
    have hzA := hB2.size
    have hatl := hatA.lt
    go_wp2_with fail
    go_loopw [8] (fun u wr => ∃ x : Nat, i ≤ x ∧ x ≤ a.length ∧ u = iv (x : Int) ∧ Hid (File.firstGo a b F j (a.length - x) x = File.first a b i j) ∧ Below wA.heap.size wA wr) (fun u _ => a.length - (intOf u).toNat)
    case atStart => exact ⟨i, Nat.le_refl _, hi, rfl, by rw [HF.out]; rfl, Below.refl _ _⟩
    case round =>
      obtain ⟨x, hix, hxa, rfl, HG, hbr⟩ := hrel
      have hbw : Below w0.heap.size w0 wr := hb0.next (hB2.next hbr (Nat.le_refl _)) (Nat.le_refl _)
      have c2 := (HS.out.b2.under hbw).cell 0
      have c6 := (HS.out.b6.under hbw).cell 0
      by_cases hlt : x < a.length
      · obtain ⟨ba, off, s, rfl, hba, hx, hc0⟩ := Sl.atS (HS.out.sa.below hbw) hlt
        have hsm : s.size ≤ maxLen := by have := HS.out.sm s (List.mem_of_getElem? hx); unfold maxLen; omega
        have hbd : Below w0.heap.size w0 wr.drew := hbw.drew
        obtain ⟨Z, cz, hrun, hZ⟩ := Where.look (HS.out.wh.below hbd) (by unfold maxLen; omega) s hsm
        obtain ⟨ys, hys⟩ : ∃ ys, ys = posN s b 0 := ⟨_, rfl⟩
        rw [← hys] at hrun hZ
        have hyb : Hid (∀ y ∈ ys, y < b.length) := Lib.hid fun y hy => by have := posN_lt b 0 y (by rw [← hys]; exact hy); omega
        have hyl : ys.length ≤ 1000000 := by rw [hys]; have := posN_length (s := s) b 0; omega
        have HR : Hid (ys.find? (test a b F x j) = File.rowFirst a b F x (b.length - j) j) := Lib.hid (by rw [hys]; exact find_pos hx hj)
        have HZ := Lib.hid hZ
        have r2 : wr.drew.cell? ⟨p2, 0, none⟩ = some (.slice (some ⟨ba, off, none⟩) a.length c) := (HS.out.b2.under hbd).cell 0
        have r6 : wr.drew.cell? ⟨p6, 0, none⟩ = some (.map (some m)) := (HS.out.b6.under hbd).cell 0
        have r0 : wr.drew.cell? ⟨ba, off + x, none⟩ = some (.string s) := hc0
        clear hys hZ
        go_upto_region 5 with fail
        clear c2 c6 hc0
        go_region_held3 (fun w => w.cell? ⟨p2, 0, none⟩ = some (.slice (some ⟨ba, off, none⟩) a.length c) ∧ w.cell? ⟨p6, 0, none⟩ = some (.map (some m)) ∧ w.cell? ⟨ba, off + x, none⟩ = some (.string s)) (first | assumption | exact ⟨r2, r6, r0⟩) (fail)
        clear r2 r6 r0 hrun
        have hbr2 : Below wA.heap.size wA wr.drew := hbr.drew
        clear hbw hbr
        generalize wr.drew = wC at *
        go_wp2_with fail
        go_loopw [36] (fun u wr => ∃ q : Nat, q ≤ ys.length ∧ u = iv (q : Int) ∧ Hid ((ys.drop q).find? (test a b F x j) = File.rowFirst a b F x (b.length - j) j) ∧ Below wC.heap.size wC wr) (fun u _ => ys.length - (intOf u).toNat)
        case atStart => exact ⟨0, Nat.zero_le _, rfl, HR, Below.refl _ _⟩
        case round =>
          obtain ⟨q, hq, rfl, HQ, hbq⟩ := hrel
          by_cases hql : q < ys.length
          · obtain ⟨y, hy⟩ : ∃ y, ys[q]? = some y := ⟨_, List.getElem?_eq_getElem hql⟩
            have hyb2 := hyb.out y (List.mem_of_getElem? hy)
            obtain ⟨bz, oz, z, rfl, hbz, hz, hcz⟩ := Sl.atI (HZ.out.below hbq) (k := q) (by simpa using hql)
            rw [List.getElem?_map, hy] at hz
            simp only [Option.map_some, Option.some.injEq] at hz
            subst hz
            have hbR : Below wA.heap.size wA wr := hbr2.next hbq (Nat.le_refl _)
            have hbW : Below w.heap.size w wr := hB2.next hbR (Nat.le_refl _)
            have hb0W : Below w0.heap.size w0 wr := hb0.next hbW (Nat.le_refl _)
            have HBR := Lib.hid hbR
            have HBW := Lib.hid hbW
            have HB0W := Lib.hid hb0W
            have hzr := hbR.size
            have q0 := (hatA.under hbR).cell 0
            have q1 := (hatA.under hbR).cell 1
            have hwr : w.heap.size < wr.heap.size := by omega
            have HYN : Hid (ys.find? (test a b F x j) = ys.find? (test a b F x j)) := rfl
            have hd : ys.drop q = y :: ys.drop (q + 1) := by rw [drop_at hy]
            have HQ2 : Hid ((if test a b F x j y then some y else (ys.drop (q + 1)).find? (test a b F x j)) = File.rowFirst a b F x (b.length - j) j) := by
              have := HQ.out
              rw [hd, List.find?_cons] at this
              split <;> simp_all
            clear HYN hd HQ hbR hbW hb0W
            have hF24 : F ≤ 24 := by rw [HF.out]; exact Nat.le_trans (File.from_le a b i j) hla
            obtain ⟨G, hG⟩ : ∃ G, G = File.from_ a b (x + 1) (y + 1) := ⟨_, rfl⟩
            have cgr := (HS.out.grid.below HB0W.out).cell (i := x + 1) (j := y + 1) (by omega) (by omega)
            rw [← hG] at cgr
            have HT : Hid (test a b F x j y = (decide (j ≤ y) && (decide (0 < F) && decide (G + 1 = F)))) := Lib.hid (by unfold test; rw [← hG])
            have c5 := (HS.out.b5.under HB0W.out).cell 0
            have c9 := (Blk.under ho HBW.out).cell 0
            have hNb : Below wr.heap.size wr (wr.alloc (.cells #[Value.int .i64 (x : Int), Value.int .i64 (y : Int)] 128)) := (Below.refl _ _).alloc (Nat.le_refl _) _
            have hNx : Blk (wr.alloc (.cells #[Value.int .i64 (x : Int), Value.int .i64 (y : Int)] 128)) wr.heap.size 128 #[iv (x : Int), iv (y : Int)] := Blk.new _ _ _
            have d5 := hNb.cell (p := ⟨p5, 0, none⟩) (by show p5 < _; omega)
            have dg := hNb.cell (p := ⟨g, (x + 1) * 25 + (y + 1), none⟩) (by show g < _; omega)
            have dq := hNb.cell (p := ⟨w.heap.size, 1, none⟩) hwr
            rw [c5] at d5
            rw [cgr] at dg
            rw [q1] at dq
            have e1 : IntKind.i64.wrap ((x : Int) + 1) = ((x + 1 : Nat) : Int) := IntWalk.i64_in _ (by omega)
            have e2 : IntKind.i64.wrap ((y : Int) + 1) = ((y + 1 : Nat) : Int) := IntWalk.i64_in _ (by omega)
            have e3 : IntKind.i64.wrap ((F : Int) - 1) = (F : Int) - 1 := IntWalk.i64_in _ (by omega)
            have hpl1 : (x : Int) + 1 < 25 := by omega
            have hql1 : (y : Int) + 1 < 25 := by omega
            have hpl0 : (0 : Int) ≤ (x : Int) + 1 := by omega
            have hql0 : (0 : Int) ≤ (y : Int) + 1 := by omega
            have hpt : ((x : Int) + 1).toNat = x + 1 := by omega
            have hqt : ((y : Int) + 1).toNat = y + 1 := by omega
            go_upto_region 9 with fail
            generalize wr.alloc (.cells #[Value.int .i64 (x : Int), Value.int .i64 (y : Int)] 128) = wN at *
            have HBN : Hid (Below wC.heap.size wC wN) := Lib.hid (hbq.next hNb (Nat.le_refl _))
            have HNB := Lib.hid hNb
            clear hG cgr c5 q0 q1 hcz hNb hbq
            by_cases h1 : (j : Int) ≤ (y : Int)
            · by_cases h2 : (0 : Int) < (F : Int)
              · by_cases h3 : (G : Int) = (F : Int) - 1
                · have HFst : Hid (some (x, y) = File.first a b i j) := by
                    have h0 := HQ2.out
                    rw [HT.out, decide_eq_true (by omega : j ≤ y), decide_eq_true (by omega : 0 < F), decide_eq_true (by omega : G + 1 = F), if_pos (by rfl)] at h0
                    have := HG.out
                    rw [show a.length - x = (a.length - (x + 1)) + 1 by omega] at this
                    unfold File.firstGo at this
                    rw [← h0] at this
                    exact this
                  have hWN : Below w.heap.size w wN := HBW.out.next HNB.out (Nat.le_refl _)
                  have HWN := Lib.hid hWN
                  have HON := Lib.hid (hown.below hWN)
                  have B9 := Blk.under ho hWN
                  have d9 := B9.cell 0
                  have BF := Blk.under hf hWN
                  have hNs := hNx.cell
                  have hN0 := hNs 0
                  have hN1 := hNs 1
                  have hzN := hWN.size
                  have hal : acc.length + 1 ≤ big := by unfold big; omega
                  have HLN : Hid ((acc ++ [(x, y)]).length = acc.length + 1) := Lib.hid (by rw [List.length_append]; rfl)
                  have HIn : Hid (a.length - (x + 1) < n) := Lib.hid (by omega)
                  have HIa : Hid ((acc ++ [(x, y)]).length + a.length ≤ 100 + (x + 1)) := Lib.hid (by rw [List.length_append]; simp; omega)
                  clear HQ2 HT HR HG hWN
                  go_wp2_with (first
                    | (at_builtin; refine wpApp1 pairE tyPairs rfl _ _ rfl HON.out (x, y) rfl rfl rfl (by omega) hal ?_; intro v1 w2 hown1 hb1 hk1; obtain ⟨A6, k6, rfl, hc6, hm6⟩ := hown1.form; rw [HLN.out] at hown1; have hne : ∀ k, k < w0.heap.size + 2 → v.ownBlock ≠ some k := (fun k hk e => by have := (HON.out.lt k e).1; omega); have C9 : Blk w2 w0.heap.size 129 #[v] := (hk1 _ B9.lt (hne _ (by omega))).trans B9; have CF : Blk w2 (w0.heap.size + 1) 156 #[.func (.func 81) #[] #[bp p5, bp p2, bp p6, bp w0.heap.size, bp (w0.heap.size + 1)]] := (hk1 _ BF.lt (hne _ (by omega))).trans BF; have m9 := C9.cell 0; have f9 := C9.frozen 0; have mF := (CF.far (p := ⟨w0.heap.size, 0, none⟩) (by show w0.heap.size + 1 ≠ w0.heap.size; omega) (.slice A6 (acc.length + 1) k6)).cell 0; have HC9 := Lib.hid C9; have HCF := Lib.hid CF; have HK1 := Lib.hid hk1; have HB1 := Lib.hid hb1; have HO1 := Lib.hid hown1; clear C9 CF hk1 hb1 hown1))
                  have hB3 : Below w0.heap.size w0 (w2.setCell ⟨w0.heap.size, 0, none⟩ (.slice A6 (acc.length + 1) k6)) :=
                    ((hb0.next HWN.out (Nat.le_refl _)).trans (HB1.out.mono (by omega))).setCell (p := ⟨w0.heap.size, 0, none⟩) (Nat.le_refl _) _
                  have hO3 : Blk (w2.setCell ⟨w0.heap.size, 0, none⟩ (.slice A6 (acc.length + 1) k6)) w0.heap.size 129 #[.slice A6 (acc.length + 1) k6] := HC9.out.set_ 0 _
                  have hF3 := HCF.out.far (p := ⟨w0.heap.size, 0, none⟩) (by show w0.heap.size + 1 ≠ w0.heap.size; omega) (.slice A6 (acc.length + 1) k6)
                  have hW3 := Own.setCell HO1.out (p := ⟨w0.heap.size, 0, none⟩) (by show w0.heap.size < _; omega) (.slice A6 (acc.length + 1) k6)
                  refine (IH.out (x + 1) (y + 1) (acc ++ [(x, y)]) _ _ HIn.out (by omega) (by omega) HIa.out hB3 hO3 hF3 hW3).mono ?_
                  rintro e w4 ⟨rfl, hb4, v4, hv4, hw4⟩
                  have hcm : File.commonGo a b (n + 1) i j = (x, y) :: File.commonGo a b n (x + 1) (y + 1) := by
                    rw [File.commonGo, ← HFst.out]
                  rw [List.append_assoc] at hw4
                  have HW4 : Hid (Own pairE 128 (w0.heap.size + 2) w4 v4 (acc ++ File.commonGo a b (n + 1) i j)) := by rw [hcm]; exact hw4
                  clear hw4 hcm
                  go_wp2_with fail
                  first | (go_end0) | ((try simp only [Exit.inBlock, Exit.then]); refine bodyPost_ret (results_none rfl _ _ _) rfl ?_)
                  exact ⟨rfl, hb4, v4, hv4, HW4.out⟩
                · have HF3 : Hid ((ys.drop (q + 1)).find? (test a b F x j) = File.rowFirst a b F x (b.length - j) j) := by
                    have := HQ2.out
                    rw [HT.out, decide_eq_false (by omega : ¬ (G + 1 = F))] at this
                    refine Lib.hid ?_
                    simpa using this
                  clear HQ2 HT HR
                  go_wp2_with fail
                  go_roundw
                  case rel => exact ⟨q + 1, by omega, by go_num, HF3, HBN.out⟩
                  case measure => simp [intOf]; omega
              · have HF3 : Hid ((ys.drop (q + 1)).find? (test a b F x j) = File.rowFirst a b F x (b.length - j) j) := by
                  have := HQ2.out
                  rw [HT.out, decide_eq_false (by omega : ¬ (0 < F))] at this
                  refine Lib.hid ?_
                  simpa using this
                clear HQ2 HT HR
                go_wp2_with fail
                go_roundw
                case rel => exact ⟨q + 1, by omega, by go_num, HF3, HBN.out⟩
                case measure => simp [intOf]; omega
            · have HF3 : Hid ((ys.drop (q + 1)).find? (test a b F x j) = File.rowFirst a b F x (b.length - j) j) := by
                have := HQ2.out
                rw [HT.out, decide_eq_false (by omega : ¬ (j ≤ y))] at this
                refine Lib.hid ?_
                simpa using this
              clear HQ2 HT HR
              go_wp2_with fail
              go_roundw
              case rel => exact ⟨q + 1, by omega, by go_num, HF3, HBN.out⟩
              case measure => simp [intOf]; omega
          · have hqe : q = ys.length := by omega
            have HN : Hid (none = File.rowFirst a b F x (b.length - j) j) := by have := HQ.out; rw [List.drop_of_length_le (by omega)] at this; exact this
            clear HQ HR
            go_wp2_with fail
            go_roundw
            case rel =>
              refine ⟨x + 1, by omega, by omega, by go_num, ?_, hbr2.next hbq (Nat.le_refl _)⟩
              have := HG.out
              rw [show a.length - x = (a.length - (x + 1)) + 1 by omega] at this
              unfold File.firstGo at this
              rw [← HN.out] at this
              exact this
            case measure => simp [intOf]; omega
      · have hx : x = a.length := by omega
        subst hx
        have HN : Hid (none = File.first a b i j) := by have := HG.out; rw [Nat.sub_self] at this; exact this
        go_wp2_with fail
        go_end0
        refine ⟨rfl, hbw, v, Blk.under ho (hB2.next hbr (Nat.le_refl _)), ?_⟩
        have e : File.commonGo a b (n + 1) i j = [] := by unfold File.commonGo; rw [← HN.out]
        rw [e, List.append_nil]
        exact hown.below (hB2.next hbr (Nat.le_refl _))
end Fl
end Go.Proofs.YtlpoiggdjggkiaaGreatDoor
end
section
namespace Go.Proofs.YtlpoiggdjggkiaaGreatDoor
namespace Fl
open Go.RowKit Go.Maps Go.WideMaps Go.ChangeShapes
set_option maxRecDepth 100000
theorem groups_map {w : World} {B m n : Nat} {D : DataW Unit} (h : w.ownsGroups (H := Unit) Tryz.prog 9 B 3 .i64 m n D) : IsMap D := by
  obtain ⟨_, _, _, _, _, e, _⟩ := h
  exact ⟨_, e⟩
theorem Blk.row {W w3 : World} {m B : Nat} {t : TypeId} {cs : Array Value} {v : Value} {zs : List Int} (h : Blk W m t cs) (hoi : W.ownsInts B 3 .i64 v zs) (hg : W.grownBy w3 v.ownBlock) (hm : m < B) : Blk w3 m t cs :=
  (hg.block m h.lt fun e => by have := (hoi.1.lt m e.symm).1; omega).trans h
theorem Blk.turned {W w3 : World} {m M : Nat} {t : TypeId} {cs : Array Value} (h : Blk W m t cs) (hg : W.grownBy w3 (some M)) (hm : m ≠ M) : Blk w3 m t cs :=
  (hg.block m h.lt fun e => by cases e; omega).trans h
theorem Only.grown {M : Nat} {w0 w w' : World} {row : Option Nat} (h : Only M w0 w) (hg : w.grownBy w' row) (hr : ∀ j, row = some j → w0.heap.size ≤ j ∨ j = M) (hM : M ≤ w0.heap.size) : Only M w0 w' := by
  have hs := h.below.size
  refine ⟨⟨hg.os.trans h.below.os, hg.tape.trans h.below.tape, hg.output.trans h.below.output, Nat.le_trans hs hg.size, fun k hk => ?_⟩, fun k hk hne => ?_⟩
  · refine (hg.block k (by omega) fun e => ?_).trans (h.below.block k hk)
    rcases hr k e.symm with h1 | h1 <;> omega
  · refine (hg.block k (by omega) fun e => ?_).trans (h.other k hk hne)
    rcases hr k e.symm with h1 | h1 <;> omega
theorem common_spec (A : Option Addr) (a : List ByteArray) (c : Nat) (A' : Option Addr) (b : List ByteArray) (c' : Nat) (w : World) (hal : a.length ≤ 24) (hbl : b.length ≤ 24) (hsa : Sl strE w A a) (hsb : Sl strE w A' b) (ham : ∀ s ∈ a, s.size ≤ 1000) (hbm : ∀ s ∈ b, s.size ≤ 1000) :
    Calls Tryz.prog 57 #[.slice A a.length c, .slice A' b.length c'] w fun e w' => ∃ v, e = .returned v ∧ Own pairE 128 w.heap.size w' v (File.common a b) ∧ Below w.heap.size w w' := by
  have HL := Lib.hid (fun w1 hb => lens_spec A a c A' b c' w1 hal hbl (Sl.below (w' := w1) hsa hb) (hsb.below hb))
  go_enter Tryz.func57, Tryz.ntmps57
  have hmm := @run_makeMap Tryz.prog
  have hBA : Below w.heap.size w (w.alloc (Obj.cells #[Value.slice A a.length c] 43)) := (Below.refl _ _).alloc (Nat.le_refl _) _
  have hC0 : Blk (w.alloc (Obj.cells #[Value.slice A a.length c] 43)) w.heap.size 43 #[.slice A a.length c] := Blk.new _ _ _
  go_wp2_with (go_at_call 80; refine (HL.out _ hBA).mono ?_)
  rintro e w1 ⟨g, rfl, hG, hb1⟩
  have hgl : w.heap.size < w1.heap.size := by have := hb1.size; simp at this; omega
  have hC1 : Blk w1 w.heap.size 43 #[.slice A a.length c] := hC0.under hb1
  have hb2 := Lib.hid (hBA.next hb1 (by simp))
  have hgs : g < w1.heap.size := by obtain ⟨_, h, _⟩ := hG; exact h.lt
  clear HL hC0 hBA hb1
  go_wp2_with fail
  have hW0 := Lib.hid (where_nil (w1.alloc (.cells #[.pointer (some ⟨g, 0, none⟩)] 153)) (.cells #[.map (some (w1.heap.size + 1))] 155))
  have hP := Lib.hid (((Blk.new w1 153 #[.pointer (some ⟨g, 0, none⟩)]).alloc (.map #[] 0)).alloc (.cells #[.map (some (w1.heap.size + 1))] 155))
  have hM := Lib.hid (Blk.new ((w1.alloc (.cells #[.pointer (some ⟨g, 0, none⟩)] 153)).alloc (.map #[] 0)) 155 #[.map (some (w1.heap.size + 1))])
  have hb3 := Lib.hid ((((Below.refl w1.heap.size w1).alloc (Nat.le_refl _) (.cells #[.pointer (some ⟨g, 0, none⟩)] 153)).alloc (by simp) (.map #[] 0)).alloc (by simp; omega) (.cells #[.map (some (w1.heap.size + 1))] 155))
  have hsz : (((w1.alloc (.cells #[.pointer (some ⟨g, 0, none⟩)] 153)).alloc (.map #[] 0)).alloc (.cells #[.map (some (w1.heap.size + 1))] 155)).heap.size = w1.heap.size + 3 := by simp
  have hM' := hM.out
  simp at hM' hW0
  generalize (((w1.alloc (.cells #[.pointer (some ⟨g, 0, none⟩)] 153)).alloc (.map #[] 0)).alloc (.cells #[.map (some (w1.heap.size + 1))] 155)) = w2 at *
  clear hM
  go_loopw [17] (fun v wS => ∃ (k : Nat), k ≤ b.length ∧ v = iv (k : Int) ∧ Hid (Where wS (w1.heap.size + 1) (w1.heap.size + 3) (b.take k)) ∧ Hid (Only (w1.heap.size + 1) w2 wS)) (fun v _ => b.length - (intOf v).toNat)
  case atStart =>
    have h0 : Hid (Where w2 (w1.heap.size + 1) (w1.heap.size + 3) (b.take 0)) := hW0
    exact ⟨0, Nat.zero_le _, rfl, h0, Only.refl _ _⟩
  case round =>
    obtain ⟨k, hk, rfl, HW, HO⟩ := hrel
    have hgr : w2.heap.size ≤ wr.heap.size := HO.out.below.size
    have hC2 : Blk wr w.heap.size 43 #[.slice A a.length c] := Blk.only ((Blk.below hC1 hb3.out hgl)) (by omega) HO.out
    have hM2 : Blk wr (w1.heap.size + 1 + 1) 155 #[.map (some (w1.heap.size + 1))] := Blk.only hM' (by omega) HO.out
    by_cases hlt : k < b.length
    · have hbw : Below w.heap.size w wr := (hb2.out.trans (hb3.out.mono (by omega))).trans (HO.out.below.mono (by omega))
      obtain ⟨ba, off, s, rfl, hba, hx, hc0⟩ := Sl.atS (hsb.below hbw) hlt
      have hsm : s.size ≤ maxLen := by have := hbm s (List.mem_of_getElem? hx); unfold maxLen; omega
      have hlw : w1.heap.size + 3 ≤ wr.heap.size := by omega
      have hbd : Below wr.heap.size wr wr.drew := (Below.refl _ _).drew
      have hM2 := Blk.under hM2 hbd
      obtain ⟨n, D, hn, hG2, hR⟩ := Where.below HW.out hbd
      have HR := Lib.hid hR
      have HG2 := Lib.hid hG2
      have hnl : n < maxLen := by simp at hn; unfold maxLen; omega
      have hn' := Lib.hid hn
      have hS0 : wr.drew.cell? ⟨w1.heap.size + 1 + 1, 0, none⟩ = some (.map (some (w1.heap.size + 1))) := hM2.cell 0
      obtain ⟨v0, zs0, v2, zs2, hrun0, hrun2, L0, L2⟩ := look_both (.cells #[iv k] 3) HG2.out hnl hsm
      have hrun3 : (Instr.lookup 155 (.map (some (w1.heap.size + 1))) (.string s) false).run Tryz.prog (wr.alloc (.cells #[iv k] 3)).drew = .ok v2 (wr.alloc (.cells #[iv k] 3)).drew := hrun2
      clear hR hG2 hn HW
      go_upto_region 6 with fail
      go_region_held3 (fun a => a.cell? ⟨w1.heap.size + 1 + 1, 0, none⟩ = some (.map (some (w1.heap.size + 1)))) (first | assumption | exact (Blk.alloc hM2 _).cell 0)
        (first
          | (refine stepAppW rfl _ _ rfl (w := wr.drew) k (by omega) rfl L0.own (by have := hn'.out; have := L0.len; simp at *; omega) rfl rfl rfl (by simp; omega) ?_; intro v1 w3 hoi1 hgr1 hloc1; have hM3 := Blk.row (Blk.alloc hM2 _) L0.own hgr1 (by omega); have hS1 := Blk.cell hM3 0; obtain ⟨w4, hrun4, hG4, hgr4⟩ := L0.back w3 v1 _ hgr1 hoi1 (by have := L0.len; simp; omega) hloc1; have hM4 := Blk.turned hM3 hgr4 (by omega); have hS4 := Blk.cell hM4 0; have LL := L0)
          | (refine stepAppW rfl _ _ rfl (w := wr.drew) k (by omega) rfl L2.own (by have := hn'.out; have := L2.len; simp at *; omega) rfl rfl rfl (by simp; omega) ?_; intro v1 w3 hoi1 hgr1 hloc1; have hM3 := Blk.row (Blk.alloc hM2 _) L2.own hgr1 (by omega); have hS1 := Blk.cell hM3 0; obtain ⟨w4, hrun4, hG4, hgr4⟩ := L2.back w3 v1 _ hgr1 hoi1 (by have := L2.len; simp; omega) hloc1; have hM4 := Blk.turned hM3 hgr4 (by omega); have hS4 := Blk.cell hM4 0; have LL := L2))
      all_goals
        have hlk : (b.take k).length = k := by simp; omega
        have hW5 : Hid (Where w4 (w1.heap.size + 1) (w1.heap.size + 3) (b.take (k + 1))) := by
          rw [show b.take (k + 1) = b.take k ++ [s] by rw [List.take_add_one, hx]; rfl]
          exact where_snoc hlk hn'.out (groups_map HG2.out) HR.out hsm LL.at_ LL.own hoi1 hG4
        have hO5 : Hid (Only (w1.heap.size + 1) w2 w4) := by
          refine Only.grown (Only.grown (Only.grown (Only.drew HO.out) (World.grownBy_alloc _ (.cells #[iv k] 3) none) (by simp) (by omega)) hgr1 (fun j hj => .inl ?_) (by omega)) hgr4 (fun j hj => .inr (by simpa using hj.symm)) (by omega)
          have := (LL.own.1.lt j hj).1
          omega
        clear hlk hoi1 hgr1 hloc1 hM3 hS1 hrun4 hG4 hgr4 hM4 hS4 LL L0 L2 hrun0 hrun2 hrun3 HG2 HR hn'
        go_wp2_with fail
        go_roundw
        case rel => exact ⟨k + 1, by omega, by go_num, hW5, hO5⟩
        case measure => simp [intOf]; omega
    · have hke : k = b.length := by omega
      have hbw : Below w.heap.size w wr := (hb2.out.trans (hb3.out.mono (by omega))).trans (HO.out.below.mono (by omega))
      have hb13 : Below w1.heap.size w1 wr := hb3.out.trans (HO.out.below.mono (by omega))
      have hP2 : Blk wr w1.heap.size 153 #[bp g] := Blk.only hP.out (by omega) HO.out
      have hWb : Where wr (w1.heap.size + 1) (w1.heap.size + 3) b := by have := HW.out; rw [hke, List.take_length] at this; exact this
      have HSC : Hid (Scene wr w.heap.size w1.heap.size (w1.heap.size + 1 + 1) g (w1.heap.size + 1) (w1.heap.size + 3) A c a b) :=
        ⟨hal, hbl, ham, hP2, hC2, hM2, hG.below hb13, by omega, hWb, hsa.below hbw⟩
      have hb4 : Below wr.heap.size wr ((wr.alloc (.cells #[.slice none 0 0] 129)).alloc (.cells #[.func (.func 81) #[] #[bp w1.heap.size, bp w.heap.size, bp (w1.heap.size + 1 + 1), bp wr.heap.size, bp (wr.heap.size + 1)]] 156)) := ((Below.refl _ _).alloc (Nat.le_refl _) _).alloc (by simp) _
      have hO4 : Blk ((wr.alloc (.cells #[.slice none 0 0] 129)).alloc (.cells #[.func (.func 81) #[] #[bp w1.heap.size, bp w.heap.size, bp (w1.heap.size + 1 + 1), bp wr.heap.size, bp (wr.heap.size + 1)]] 156)) wr.heap.size 129 #[.slice none 0 0] := (Blk.new _ _ _).alloc _
      have hF4 : Blk ((wr.alloc (.cells #[.slice none 0 0] 129)).alloc (.cells #[.func (.func 81) #[] #[bp w1.heap.size, bp w.heap.size, bp (w1.heap.size + 1 + 1), bp wr.heap.size, bp (wr.heap.size + 1)]] 156)) (wr.heap.size + 1) 156 #[.func (.func 81) #[] #[bp w1.heap.size, bp w.heap.size, bp (w1.heap.size + 1 + 1), bp wr.heap.size, bp (wr.heap.size + 1)]] := Blk.new_ _ _ _ (by simp)
      clear hC2 hM2 hP2 hWb HW HO hG hb13
      go_wp2_with fail
      refine (more_spec HSC (a.length + 1) 0 0 [] (.slice none 0 0) _ (by omega) (Nat.zero_le _) (Nat.zero_le _) (by simp; omega) hb4 hO4 hF4 Own.nil).mono ?_
      rintro e w5 ⟨rfl, hb5, v5, hv5, hw5⟩
      have hbF : Below w.heap.size w w5 := hbw.next hb5 (Nat.le_refl _)
      have c9 := hv5.cell 0
      have hwF : Own pairE 128 w.heap.size w5 v5 (File.common a b) := Own.base hw5 (by have := hbw.size; omega)
      clear hw5 hv5 hb5 hO4 hF4 hb4 HSC
      go_wp2_with fail
      go_ret
      exact ⟨v5, rfl, hwF, hbF⟩
end Fl
end Go.Proofs.YtlpoiggdjggkiaaGreatDoor
end
section
namespace Go.Proofs.YtlpoiggdjggkiaaGreatDoor
namespace Fl
open Go.RowKit Go.Maps Go.WideMaps Go.ChangeShapes
set_option maxRecDepth 100000
/-- The error of two files. -/
def errOf (a b : List ByteArray) : Int := if File.check a = 0 then File.check b else File.check a
end Fl
end Go.Proofs.YtlpoiggdjggkiaaGreatDoor
end
section
namespace Go.Proofs.YtlpoiggdjggkiaaGreatDoor
namespace Fl
open Go.RowKit Go.Maps Go.WideMaps Go.ChangeShapes
set_option maxRecDepth 100000
theorem err_zero {a b : List ByteArray} (h : errOf a b = 0) {A A' : Option Addr} {c c' : Nat} {w : World} (H : Calls Tryz.prog 26 #[.slice A a.length c, .slice A' b.length c'] w fun e w' => e = .returned (iv (if File.check a = 0 then File.check b else File.check a)) ∧ Below w.heap.size w w') :
    Calls Tryz.prog 26 #[.slice A a.length c, .slice A' b.length c'] w fun e w' => e = .returned (iv 0) ∧ Below w.heap.size w w' :=
  H.mono (by rintro e w' ⟨rfl, hb'⟩; exact ⟨by rw [show (if File.check a = 0 then File.check b else File.check a) = 0 from h], hb'⟩)
theorem results_row_tmp {fn : Func} {p u : Tmp} {ty : TypeId} (h : fn.results = #[.cell p ty, .tmp u]) (tmps : Array Value) (w : World) (g : Nat) (v : Value)
    (hp : tmps.getD p undef = .pointer (some ⟨g, 0, none⟩)) (hl : (loadVar ty ⟨g, 0, none⟩).run Tryz.prog w = .ok v w) :
    (results fn tmps).run Tryz.prog w = .ok (.tuple #[v, tmps.getD u undef]) w := by
  have hp' : tmps[p]?.getD undef = .pointer (some ⟨g, 0, none⟩) := by simpa using hp
  simp [results, h, hp', asAddr, hl]
end Fl
end Go.Proofs.YtlpoiggdjggkiaaGreatDoor
end
section
namespace Go.Proofs.YtlpoiggdjggkiaaGreatDoor
namespace File
set_option linter.unusedSectionVars false
section
variable {α : Type} [DecidableEq α]
structure Edit (α : Type) where
  at_ : Int
  old : List α
  new : List α
deriving DecidableEq
def cut (a : List α) (i k : Nat) : List α := (a.drop i).take (k - i)
def diffGo (a b : List α) : Nat → Nat → List (Nat × Nat) → List (Edit α)
  | _, _, [] => []
  | i, j, p :: r => (if p.1 = i ∧ p.2 = j then [] else [⟨(i : Int), cut a i p.1, cut b j p.2⟩]) ++ diffGo a b (p.1 + 1) (p.2 + 1) r
/-- The change of a file into another one. -/
def diff (a b : List α) : List (Edit α) := diffGo a b 0 0 (common a b ++ [(a.length, b.length)])
def made (f : List α) (x : Edit α) : List α := f.take x.at_.toNat ++ (x.new ++ f.drop (x.at_.toNat + x.old.length))
/-- What a change makes of a file, the last edit first. -/
def make (f : List α) (c : List (Edit α)) : List α := c.foldr (fun x g => made g x) f
def backGo : Int → List (Edit α) → List (Edit α)
  | _, [] => []
  | n, x :: r => ⟨x.at_ + n, x.new, x.old⟩ :: backGo (n + x.new.length - x.old.length) r
def back (c : List (Edit α)) : List (Edit α) := backGo 0 c
theorem cut_length {a : List α} {i k : Nat} (hk : k ≤ a.length) (h : i ≤ k) : (cut a i k).length = k - i := by
  unfold cut; rw [List.length_take, List.length_drop]; omega
theorem cut_drop {a : List α} {i k : Nat} (h : i ≤ k) : cut a i k ++ a.drop k = a.drop i := by
  unfold cut
  have : a.drop k = (a.drop i).drop (k - i) := by rw [List.drop_drop]; congr 1; omega
  rw [this, List.take_append_drop]
theorem make_go {a b : List α} : ∀ (l : List (Nat × Nat)) (i j : Nat), Pairs a b i j l → i ≤ a.length → j ≤ b.length → make a (diffGo a b i j (l ++ [(a.length, b.length)])) = a.take i ++ b.drop j := by
  intro l
  induction l with
  | nil =>
    intro i j _ hi hj
    simp only [List.nil_append, diffGo, List.append_nil]
    split
    · rename_i h
      obtain ⟨h1, h2⟩ := h
      rw [← h1, ← h2]
      simp [make]
    · have hc := cut_length (Nat.le_refl a.length) hi
      simp only [make, List.foldr_cons, List.foldr_nil, made, Int.toNat_natCast, hc]
      rw [show i + (a.length - i) = a.length by omega, List.drop_length, List.append_nil]
      unfold cut
      rw [List.take_of_length_le (l := List.drop j b) (by simp)]
  | cons p r ih =>
    intro i j ⟨h1, h2, ⟨h3, h4, h5⟩, h6⟩ hi hj
    have := ih (p.1 + 1) (p.2 + 1) h6 (by omega) (by omega)
    have e1 : a.take (p.1 + 1) = a.take p.1 ++ [a[p.1]] := List.take_succ_eq_append_getElem h3
    have e2 : b.drop p.2 = b[p.2] :: b.drop (p.2 + 1) := List.drop_eq_getElem_cons h4
    have e3 : a.take (p.1 + 1) ++ b.drop (p.2 + 1) = a.take p.1 ++ b.drop p.2 := by rw [e1, e2, h5]; simp
    simp only [List.cons_append, diffGo]
    split
    · rename_i h
      obtain ⟨h7, h8⟩ := h
      subst h7 h8
      rw [List.nil_append, this, e3]
    · rw [show make a ([⟨(i : Int), cut a i p.1, cut b j p.2⟩] ++ diffGo a b (p.1 + 1) (p.2 + 1) (r ++ [(a.length, b.length)])) = made (make a (diffGo a b (p.1 + 1) (p.2 + 1) (r ++ [(a.length, b.length)]))) ⟨(i : Int), cut a i p.1, cut b j p.2⟩ from rfl, this, e3]
      simp only [made, Int.toNat_natCast, cut_length (Nat.le_of_lt h3) h1]
      rw [show i + (p.1 - i) = p.1 by omega]
      have t1 : (a.take p.1 ++ b.drop p.2).take i = a.take i := by
        rw [List.take_append_of_le_length (by rw [List.length_take]; omega), List.take_take]; congr 1; omega
      have t2 : (a.take p.1 ++ b.drop p.2).drop p.1 = b.drop p.2 := by
        rw [List.drop_append_of_le_length (by rw [List.length_take]; omega), List.drop_of_length_le (by rw [List.length_take]; omega), List.nil_append]
      rw [t1, t2, cut_drop h2]
theorem make_diff (a b : List α) : make a (diff a b) = b := by
  have := make_go (common a b) 0 0 (common_pairs a b) (Nat.zero_le _) (Nat.zero_le _)
  simpa [diff] using this
def swap (l : List (Nat × Nat)) : List (Nat × Nat) := l.map fun p => (p.2, p.1)
end
end File
end Go.Proofs.YtlpoiggdjggkiaaGreatDoor
end
section
namespace Go.Proofs.YtlpoiggdjggkiaaGreatDoor
namespace Fl
open Go.RowKit Go.ChangeShapes
set_option maxRecDepth 100000
theorem cloneS (A : Option Addr) (l : List ByteArray) (c : Nat) (w : World) (hm : l.length ≤ big) (hs : Sl strE w A l) :
    Calls Tryz.prog 58 #[.slice A l.length c] w fun e w' => ∃ v, e = .returned v ∧ Own strE 9 w.heap.size w' v l ∧ Below w.heap.size w w' := by
  cases A with
  | none =>
    have hl : l = [] := by
      by_cases h : l = []
      · exact h
      · obtain ⟨_, _, h, _⟩ := hs h; cases h
    subst hl
    have hnil := fun w => Lib.run_eql_slice_nil (P := Tryz.prog) w 43 9 none 0 c 0 0 Tryz.underlying43
    go_enter Tryz.func58, Tryz.ntmps58
    go_wp2
    go_ret
    exact ⟨_, rfl, Own.nil, Below.refl _ _⟩
  | some ad =>
    have hnil := fun w => Lib.run_eql_slice_nil (P := Tryz.prog) w 43 9 (some ad) l.length c 0 0 Tryz.underlying43
    go_enter Tryz.func58, Tryz.ntmps58
    go_wp2_with (at_builtin; refine wpAppS strE tyStrs rfl _ _ rfl (Own.empty (Nat.le_refl _)) (hs.alloc _) rfl rfl (by simp) (by simpa using hm) ?_; intro v1 w1 hown1 hb1 _)
    go_ret
    exact ⟨_, rfl, by simpa using hown1, ((Below.refl _ _).alloc (Nat.le_refl _) _).trans hb1⟩
/-- An edit's cells. -/
structure RawEd where
  at_ : Int
  A : Option Addr
  n : Nat
  c : Nat
  A' : Option Addr
  n' : Nat
  c' : Nat
def rawE : Enc RawEd := ⟨fun r => [iv r.at_, .slice r.A r.n r.c, .slice r.A' r.n' r.c'], 3, fun _ => rfl, fun _ u h => by simp at h; rcases h with rfl | rfl | rfl <;> rfl, by decide⟩
theorem tyEdits : SlTy Tryz.prog 77 126 3 := slTy_of (z := .agg #[iv 0, .slice none 0 0, .slice none 0 0]) (bytes := 56) Tryz.underlying77 (by kernel_rfl) rfl (by decide)
/-- The cells r read as the edit x, whose lists are the call's own: their blocks lie from B on. -/
structure EdR (B : Nat) (w : World) (r : RawEd) (x : File.Edit ByteArray) : Prop where
  at_ : r.at_ = x.at_
  n : r.n = x.old.length
  n' : r.n' = x.new.length
  old : Own strE 9 B w (.slice r.A r.n r.c) x.old
  new : Own strE 9 B w (.slice r.A' r.n' r.c') x.new
/-- What leaves the blocks of strings from B on as they were. -/
def Strs (B : Nat) (w w' : World) : Prop := w.heap.size ≤ w'.heap.size ∧ ∀ g cs fr, B ≤ g → w.heap[g]? = some (.cells cs 9 fr) → w'.heap[g]? = w.heap[g]?
theorem Strs.below {B : Nat} {w w' : World} (h : Below w.heap.size w w') : Strs B w w' := ⟨h.size, fun g cs fr _ hg => h.block g (Array.getElem?_eq_some_iff.1 hg).1⟩
theorem Strs.own {B : Nat} {w w' : World} {v : Value} {xs : List ByteArray} (h : Strs B w w') (ho : Own strE 9 B w v xs) : Own strE 9 B w' v xs :=
  ho.keep h.1 fun b hb => by
    have hl := ho.lt b hb
    rcases ho.2 with ⟨rfl, _⟩ | ⟨g, cap, cur, rfl, hg, hc, _⟩
    · cases hb
    · simp only [Value.ownBlock, Option.some.injEq] at hb
      subst hb
      exact h.2 _ _ _ hl.1 hc
theorem EdR.keep {B : Nat} {w w' : World} {r : RawEd} {x : File.Edit ByteArray} (h : EdR B w r x) (hb : Strs B w w') : EdR B w' r x := ⟨h.at_, h.n, h.n', hb.own h.old, hb.own h.new⟩
theorem EdR.base {B B' : Nat} {w : World} {r : RawEd} {x : File.Edit ByteArray} (h : EdR B w r x) (hB : B' ≤ B) : EdR B' w r x := ⟨h.at_, h.n, h.n', h.old.base hB, h.new.base hB⟩
/-- A list of cells reads as a change. -/
def EdsR (B : Nat) (w : World) : List RawEd → List (File.Edit ByteArray) → Prop
  | [], [] => True
  | r :: rs, x :: xs => EdR B w r x ∧ EdsR B w rs xs
  | _, _ => False
theorem EdsR.keep {B : Nat} {w w' : World} (hb : Strs B w w') : ∀ {rs : List RawEd} {xs : List (File.Edit ByteArray)}, EdsR B w rs xs → EdsR B w' rs xs
  | [], [], _ => trivial
  | _ :: _, _ :: _, h => ⟨h.1.keep hb, EdsR.keep hb h.2⟩
theorem EdsR.base {B B' : Nat} {w : World} (hB : B' ≤ B) : ∀ {rs : List RawEd} {xs : List (File.Edit ByteArray)}, EdsR B w rs xs → EdsR B' w rs xs
  | [], [], _ => trivial
  | _ :: _, _ :: _, h => ⟨h.1.base hB, EdsR.base hB h.2⟩
theorem EdsR.snoc {B : Nat} {w : World} {r : RawEd} {x : File.Edit ByteArray} (h : EdR B w r x) : ∀ {rs : List RawEd} {xs : List (File.Edit ByteArray)}, EdsR B w rs xs → EdsR B w (rs ++ [r]) (xs ++ [x])
  | [], [], _ => ⟨h, trivial⟩
  | _ :: _, _ :: _, k => ⟨k.1, EdsR.snoc h k.2⟩
theorem EdsR.length {B : Nat} {w : World} : ∀ {rs : List RawEd} {xs : List (File.Edit ByteArray)}, EdsR B w rs xs → rs.length = xs.length
  | [], [], _ => rfl
  | _ :: _, _ :: _, h => by rw [List.length_cons, List.length_cons, EdsR.length h.2]
theorem EdsR.at_ {B : Nat} {w : World} : ∀ {rs : List RawEd} {xs : List (File.Edit ByteArray)} {k : Nat} {r : RawEd}, EdsR B w rs xs → rs[k]? = some r → ∃ x, xs[k]? = some x ∧ EdR B w r x
  | [], [], _, _, _, h => by simp at h
  | r :: _, x :: _, 0, _, h, e => by simp at e; subst e; exact ⟨x, rfl, h.1⟩
  | _ :: _, _ :: _, k + 1, _, h, e => by simpa using EdsR.at_ (k := k) h.2 (by simpa using e)
end Fl
end Go.Proofs.YtlpoiggdjggkiaaGreatDoor
end
section
namespace Go.Proofs.YtlpoiggdjggkiaaGreatDoor
namespace File
set_option linter.unusedSectionVars false
section
variable {α : Type} [DecidableEq α]
def Edit.lo (x : Edit α) : Nat := x.at_.toNat
def Edit.hi (x : Edit α) : Nat := x.at_.toNat + x.old.length
theorem Edit.lo_hi (x : Edit α) : x.lo ≤ x.hi := Nat.le_add_right _ _
/-- Edits that lie one behind the other, from a position on, with a line between them. -/
def Chain : Nat → List (Edit α) → Prop
  | _, [] => True
  | lo, x :: r => (lo : Int) ≤ x.at_ ∧ Chain (x.hi + 1) r
def Within (hi : Nat) (c : List (Edit α)) : Prop := ∀ x ∈ c, x.hi ≤ hi
theorem Chain.weaken : ∀ {c : List (Edit α)} {lo lo' : Nat}, Chain lo c → lo' ≤ lo → Chain lo' c
  | [], _, _, _, _ => trivial
  | _ :: _, _, _, ⟨h1, h2⟩, h => ⟨by omega, h2⟩
theorem Chain.pre : ∀ {c d : List (Edit α)} {lo : Nat}, Chain lo (c ++ d) → Chain lo c
  | [], _, _, _ => trivial
  | _ :: _, _, _, ⟨h1, h2⟩ => ⟨h1, Chain.pre h2⟩
theorem Chain.suf : ∀ {c : List (Edit α)} {x : Edit α} {r : List (Edit α)} {lo : Nat}, Chain lo (c ++ x :: r) → (lo : Int) ≤ x.at_ ∧ Chain x.lo (x :: r)
  | [], x, _, lo, ⟨h1, h2⟩ => ⟨h1, by show ((x.at_.toNat : Nat) : Int) ≤ x.at_; omega, h2⟩
  | y :: c, x, _, lo, ⟨h1, h2⟩ => by
    obtain ⟨h3, h4⟩ := Chain.suf (c := c) h2
    refine ⟨?_, h4⟩
    have : lo ≤ y.hi + 1 := by unfold Edit.hi; omega
    omega
theorem Chain.pos : ∀ {c : List (Edit α)} {lo : Nat}, Chain lo c → ∀ x ∈ c, (lo : Int) ≤ x.at_
  | y :: c, lo, ⟨h1, h2⟩, x, h => by
    rcases List.mem_cons.1 h with rfl | h
    · exact h1
    · have := Chain.pos h2 x h
      have : lo ≤ y.hi + 1 := by unfold Edit.hi; omega
      omega
theorem Within.mono {hi hi' : Nat} {c : List (Edit α)} (h : Within hi c) (hh : hi ≤ hi') : Within hi' c := fun x hx => Nat.le_trans (h x hx) hh
theorem chain_go {a b : List α} : ∀ (l : List (Nat × Nat)) (i j : Nat), Pairs a b i j l → i ≤ a.length → j ≤ b.length → Chain i (diffGo a b i j (l ++ [(a.length, b.length)])) ∧ Within a.length (diffGo a b i j (l ++ [(a.length, b.length)])) := by
  intro l
  induction l with
  | nil =>
    intro i j _ hi hj
    simp only [List.nil_append, diffGo, List.append_nil]
    split
    · exact ⟨trivial, fun x hx => by cases hx⟩
    · refine ⟨⟨by simp, trivial⟩, fun x hx => ?_⟩
      simp only [List.mem_singleton] at hx
      subst hx
      unfold Edit.hi
      simp only [Int.toNat_natCast, cut_length (Nat.le_refl a.length) hi]
      omega
  | cons p r ih =>
    intro i j ⟨h1, h2, ⟨h3, h4, h5⟩, h6⟩ hi hj
    obtain ⟨k1, k2⟩ := ih (p.1 + 1) (p.2 + 1) h6 (by omega) (by omega)
    simp only [List.cons_append, diffGo]
    split
    · exact ⟨by simpa using k1.weaken (by omega), by simpa using k2⟩
    · have hh : (Edit.mk (i : Int) (cut a i p.1) (cut b j p.2)).hi = p.1 := by
        unfold Edit.hi
        simp only [Int.toNat_natCast, cut_length (Nat.le_of_lt h3) h1]
        omega
      refine ⟨⟨by simp, ?_⟩, fun x hx => ?_⟩
      · rw [hh]; exact k1
      · rcases List.mem_cons.1 hx with rfl | hx
        · rw [hh]; omega
        · exact k2 x hx
theorem chain_diff (a b : List α) : Chain 0 (diff a b) := (chain_go (common a b) 0 0 (common_pairs a b) (Nat.zero_le _) (Nat.zero_le _)).1
theorem within_diff (a b : List α) : Within a.length (diff a b) := (chain_go (common a b) 0 0 (common_pairs a b) (Nat.zero_le _) (Nat.zero_le _)).2
theorem diffGo_len {a b : List α} : ∀ (l : List (Nat × Nat)) (i j : Nat), (diffGo a b i j l).length ≤ l.length
  | [], _, _ => Nat.le_refl _
  | p :: r, i, j => by
    have := diffGo_len (a := a) (b := b) r (p.1 + 1) (p.2 + 1)
    simp only [diffGo, List.length_append, List.length_cons]
    split <;> simp <;> omega
theorem diff_len (a b : List α) : (diff a b).length ≤ a.length + 1 := by
  have h := diffGo_len (a := a) (b := b) (common a b ++ [(a.length, b.length)]) 0 0
  rw [List.length_append, common_length] at h
  have := lcs_most a b
  simp only [List.length_singleton] at h
  exact Nat.le_trans h (by omega)
/-- The edits of two changes, in their order, each with its copy (true: the second one). -/
def mergeGo : Nat → List (Edit α) → List (Edit α) → List (Bool × Edit α)
  | 0, _, _ => []
  | _ + 1, [], [] => []
  | n + 1, [], y :: d => (true, y) :: mergeGo n [] d
  | n + 1, x :: c, [] => (false, x) :: mergeGo n c []
  | n + 1, x :: c, y :: d => if y.at_ < x.at_ then (true, y) :: mergeGo n (x :: c) d else (false, x) :: mergeGo n c (y :: d)
def merge (c d : List (Edit α)) : List (Bool × Edit α) := mergeGo (c.length + d.length) c d
/-- Those of one copy. -/
def filt (k : Bool) : List (Bool × Edit α) → List (Edit α)
  | [] => []
  | p :: r => if p.1 = k then p.2 :: filt k r else filt k r
theorem merge_filt : ∀ (n : Nat) (c d : List (Edit α)), c.length + d.length ≤ n → filt false (mergeGo n c d) = c ∧ filt true (mergeGo n c d) = d := by
  intro n
  induction n with
  | zero =>
    intro c d h
    have h1 : c = [] := List.eq_nil_of_length_eq_zero (by omega)
    have h2 : d = [] := List.eq_nil_of_length_eq_zero (by omega)
    subst h1 h2
    exact ⟨rfl, rfl⟩
  | succ n ih =>
    intro c d h
    cases c with
    | nil =>
      cases d with
      | nil => exact ⟨rfl, rfl⟩
      | cons y d =>
        obtain ⟨h1, h2⟩ := ih [] d (by simp at h ⊢; omega)
        simp only [mergeGo, filt]
        exact ⟨by simpa using h1, by simpa using h2⟩
    | cons x c =>
      cases d with
      | nil =>
        obtain ⟨h1, h2⟩ := ih c [] (by simp at h ⊢; omega)
        simp only [mergeGo, filt]
        exact ⟨by simpa using h1, by simpa using h2⟩
      | cons y d =>
        simp only [mergeGo]
        split
        · obtain ⟨h1, h2⟩ := ih (x :: c) d (by simp at h ⊢; omega)
          simp only [filt]
          exact ⟨by simpa using h1, by simpa using h2⟩
        · obtain ⟨h1, h2⟩ := ih c (y :: d) (by simp at h ⊢; omega)
          simp only [filt]
          exact ⟨by simpa using h1, by simpa using h2⟩
theorem filt_mem {l : List (Bool × Edit α)} {p : Bool × Edit α} (h : p ∈ l) : p.2 ∈ filt p.1 l := by
  induction l with
  | nil => cases h
  | cons q r ih =>
    simp only [filt]
    rcases List.mem_cons.1 h with rfl | h
    · simp
    · split
      · exact List.mem_cons_of_mem _ (ih h)
      · exact ih h
theorem mem_filt {k : Bool} {l : List (Bool × Edit α)} {x : Edit α} (h : x ∈ filt k l) : (k, x) ∈ l := by
  induction l with
  | nil => cases h
  | cons q r ih =>
    simp only [filt] at h
    split at h
    · rename_i hk
      rcases List.mem_cons.1 h with rfl | h
      · rw [← hk]; exact List.mem_cons_self
      · exact List.mem_cons_of_mem _ (ih h)
    · exact List.mem_cons_of_mem _ (ih h)
def Sorted (l : List (Bool × Edit α)) : Prop := l.Pairwise fun p q => p.2.lo ≤ q.2.lo
theorem merge_sorted : ∀ (n lo : Nat) (c d : List (Edit α)), c.length + d.length ≤ n → Chain lo c → Chain lo d → Sorted (mergeGo n c d) := by
  intro n
  induction n with
  | zero => intro lo c d _ _ _; exact List.Pairwise.nil
  | succ n ih =>
    intro lo c d h hc hd
    have key : ∀ (c d : List (Edit α)) (x : Edit α), c.length + d.length ≤ n → Chain x.lo c → Chain x.lo d → ∀ p ∈ mergeGo n c d, x.lo ≤ p.2.lo := by
      intro c d x hl h1 h2 p hp
      obtain ⟨k1, k2⟩ := merge_filt n c d hl
      have hm := filt_mem hp
      have : (x.lo : Int) ≤ p.2.at_ := by
        cases hb : p.1 with
        | false => rw [hb, k1] at hm; exact h1.pos _ hm
        | true => rw [hb, k2] at hm; exact h2.pos _ hm
      show _ ≤ p.2.at_.toNat
      omega
    cases c with
    | nil =>
      cases d with
      | nil => exact List.Pairwise.nil
      | cons y d =>
        have h1 := (Chain.suf (c := []) hd).2
        exact List.Pairwise.cons (key [] d y (by simp at h ⊢; omega) trivial (h1.2.weaken (Nat.le_succ_of_le y.lo_hi))) (ih y.lo [] d (by simp at h ⊢; omega) trivial (h1.2.weaken (Nat.le_succ_of_le y.lo_hi)))
    | cons x c =>
      cases d with
      | nil =>
        have h1 := (Chain.suf (c := []) hc).2
        exact List.Pairwise.cons (key c [] x (by simp at h ⊢; omega) (h1.2.weaken (Nat.le_succ_of_le x.lo_hi)) trivial) (ih x.lo c [] (by simp at h ⊢; omega) (h1.2.weaken (Nat.le_succ_of_le x.lo_hi)) trivial)
      | cons y d =>
        have h1 := (Chain.suf (c := []) hc).2
        have h2 := (Chain.suf (c := []) hd).2
        simp only [mergeGo]
        split
        · rename_i hlt
          have hw : Chain y.lo (x :: c) := ⟨by have := h2.1; unfold Edit.lo; have := hd.1; omega, hc.2⟩
          exact List.Pairwise.cons (key (x :: c) d y (by simp at h ⊢; omega) hw (h2.2.weaken (Nat.le_succ_of_le y.lo_hi))) (ih y.lo (x :: c) d (by simp at h ⊢; omega) hw (h2.2.weaken (Nat.le_succ_of_le y.lo_hi)))
        · rename_i hlt
          have hw : Chain x.lo (y :: d) := ⟨by unfold Edit.lo; have := hc.1; omega, hd.2⟩
          exact List.Pairwise.cons (key c (y :: d) x (by simp at h ⊢; omega) (h1.2.weaken (Nat.le_succ_of_le x.lo_hi)) hw) (ih x.lo c (y :: d) (by simp at h ⊢; omega) (h1.2.weaken (Nat.le_succ_of_le x.lo_hi)) hw)
/-- Edits of two copies that meet, and the positions that they cover. -/
structure Block (α : Type) where
  lo : Nat
  hi : Nat
  e0 : List (Edit α)
  e1 : List (Edit α)
deriving DecidableEq
def Block.new (k : Bool) (x : Edit α) : Block α := ⟨x.lo, x.hi, if k then [] else [x], if k then [x] else []⟩
def Block.add (b : Block α) (k : Bool) (x : Edit α) : Block α := ⟨b.lo, max b.hi x.hi, if k then b.e0 else b.e0 ++ [x], if k then b.e1 ++ [x] else b.e1⟩
def grow (b : Block α) : List (Bool × Edit α) → List (Block α)
  | [] => [b]
  | p :: r => if p.2.lo ≤ b.hi then grow (b.add p.1 p.2) r else b :: grow (Block.new p.1 p.2) r
def blocksOf : List (Bool × Edit α) → List (Block α)
  | [] => []
  | p :: r => grow (Block.new p.1 p.2) r
def blocks (c d : List (Edit α)) : List (Block α) := blocksOf (merge c d)
/-- What a copy has between two positions. -/
def hasGo (base : List α) (hi : Nat) : Nat → List (Edit α) → List α
  | at_, [] => cut base at_ hi
  | at_, x :: r => cut base at_ x.lo ++ (x.new ++ hasGo base hi x.hi r)
def joinGo (base : List α) : Nat → List (Block α) → List α × List (Nat × Nat)
  | at_, [] => (base.drop at_, [])
  | at_, b :: r =>
    if b.e1 = [] ∨ hasGo base b.hi b.lo b.e0 = hasGo base b.hi b.lo b.e1 then (cut base at_ b.lo ++ (hasGo base b.hi b.lo b.e0 ++ (joinGo base b.hi r).1), (joinGo base b.hi r).2)
    else if b.e0 = [] then (cut base at_ b.lo ++ (hasGo base b.hi b.lo b.e1 ++ (joinGo base b.hi r).1), (joinGo base b.hi r).2)
    else (cut base at_ b.lo ++ (cut base b.lo b.hi ++ (joinGo base b.hi r).1), (b.lo, b.hi) :: (joinGo base b.hi r).2)
def join (base a b : List α) : List α × List (Nat × Nat) := joinGo base 0 (blocks (diff base a) (diff base b))
/-- Blocks that lie one behind the other, with a line between them. -/
def BlocksOk (n : Nat) : Nat → List (Block α) → Prop
  | _, [] => True
  | at_, b :: r => at_ ≤ b.lo ∧ b.lo ≤ b.hi ∧ b.hi ≤ n ∧ Chain b.lo b.e0 ∧ Within b.hi b.e0 ∧ Chain b.lo b.e1 ∧ Within b.hi b.e1 ∧ BlocksOk n (b.hi + 1) r
theorem BlocksOk.weaken {n : Nat} : ∀ {l : List (Block α)} {i i' : Nat}, BlocksOk n i l → i' ≤ i → BlocksOk n i' l
  | [], _, _, _, _ => trivial
  | _ :: _, _, _, ⟨h1, h2⟩, h => ⟨Nat.le_trans h h1, h2⟩
theorem within_snoc {hi : Nat} {c : List (Edit α)} {x : Edit α} (h : Within hi c) : Within (max hi x.hi) (c ++ [x]) := fun y hy => by
  rcases List.mem_append.1 hy with hy | hy
  · exact Nat.le_trans (h y hy) (Nat.le_max_left _ _)
  · simp only [List.mem_singleton] at hy
    subst hy
    exact Nat.le_max_right _ _
theorem chain_other {lo n : Nat} {c d : List (Edit α)} (h : Chain lo (c ++ d)) (hd : ∀ y ∈ d, n ≤ y.lo) : Chain n d := by
  cases d with
  | nil => trivial
  | cons y d =>
    have := (Chain.suf h).2
    have h1 := hd y List.mem_cons_self
    exact this.weaken h1
theorem grow_ok {n : Nat} : ∀ (l : List (Bool × Edit α)) (b : Block α) (at_ : Nat), at_ ≤ b.lo → b.lo ≤ b.hi → b.hi ≤ n → Within b.hi b.e0 → Within b.hi b.e1 → Chain b.lo (b.e0 ++ filt false l) → Chain b.lo (b.e1 ++ filt true l) → Sorted l → (∀ p ∈ l, p.2.hi ≤ n) →
    BlocksOk n at_ (grow b l) := by
  intro l
  induction l with
  | nil =>
    intro b at_ h1 h2 h3 h4 h5 h6 h7 _ _
    exact ⟨h1, h2, h3, h6.pre, h4, h7.pre, h5, trivial⟩
  | cons p r ih =>
    intro b at_ h1 h2 h3 h4 h5 h6 h7 h8 h9
    obtain ⟨k, x⟩ := p
    have hx : x.hi ≤ n := h9 (k, x) List.mem_cons_self
    have hr : ∀ p ∈ r, p.2.hi ≤ n := fun p hp => h9 p (List.mem_cons_of_mem _ hp)
    obtain ⟨s1, s2⟩ := List.pairwise_cons.1 h8
    simp only [grow]
    split
    · cases k with
      | false =>
        refine ih (b.add false x) at_ h1 (Nat.le_trans h2 (Nat.le_max_left _ _)) (Nat.max_le.2 ⟨h3, hx⟩) ?_ ?_ ?_ ?_ s2 hr
        · exact within_snoc h4
        · exact h5.mono (Nat.le_max_left _ _)
        · simpa [Block.add, filt] using h6
        · simpa [Block.add, filt] using h7
      | true =>
        refine ih (b.add true x) at_ h1 (Nat.le_trans h2 (Nat.le_max_left _ _)) (Nat.max_le.2 ⟨h3, hx⟩) ?_ ?_ ?_ ?_ s2 hr
        · exact h4.mono (Nat.le_max_left _ _)
        · exact within_snoc h5
        · simpa [Block.add, filt] using h6
        · simpa [Block.add, filt] using h7
    · rename_i hgt
      refine ⟨h1, h2, h3, h6.pre, h4, h7.pre, h5, ?_⟩
      cases k with
      | false =>
        refine ih (Block.new false x) (b.hi + 1) (Nat.succ_le_of_lt (Nat.lt_of_not_le hgt)) x.lo_hi hx ?_ ?_ ?_ ?_ s2 hr
        · intro y hy; simp [Block.new] at hy; subst hy; exact Nat.le_refl _
        · intro y hy; simp [Block.new] at hy
        · simp only [filt, if_pos] at h6
          simpa [Block.new] using (Chain.suf h6).2
        · simp only [filt] at h7
          simpa [Block.new] using chain_other (by simpa using h7) (fun y hy => s1 _ (mem_filt hy))
      | true =>
        refine ih (Block.new true x) (b.hi + 1) (Nat.succ_le_of_lt (Nat.lt_of_not_le hgt)) x.lo_hi hx ?_ ?_ ?_ ?_ s2 hr
        · intro y hy; simp [Block.new] at hy
        · intro y hy; simp [Block.new] at hy; subst hy; exact Nat.le_refl _
        · simp only [filt] at h6
          simpa [Block.new] using chain_other (by simpa using h6) (fun y hy => s1 _ (mem_filt hy))
        · simp only [filt, if_pos] at h7
          simpa [Block.new] using (Chain.suf h7).2
theorem blocks_ok {n : Nat} {c d : List (Edit α)} (hc : Chain 0 c) (hd : Chain 0 d) (wc : Within n c) (wd : Within n d) : BlocksOk n 0 (blocks c d) := by
  obtain ⟨k1, k2⟩ := merge_filt (c.length + d.length) c d (Nat.le_refl _)
  have hs := merge_sorted (c.length + d.length) 0 c d (Nat.le_refl _) hc hd
  have hw : ∀ p ∈ mergeGo (c.length + d.length) c d, p.2.hi ≤ n := by
    intro p hp
    have hm := filt_mem hp
    cases hb : p.1 with
    | false => rw [hb, k1] at hm; exact wc _ hm
    | true => rw [hb, k2] at hm; exact wd _ hm
  unfold blocks merge
  generalize mergeGo (c.length + d.length) c d = l at *
  cases l with
  | nil => trivial
  | cons p r =>
    obtain ⟨k, x⟩ := p
    obtain ⟨s1, s2⟩ := List.pairwise_cons.1 hs
    have hx : x.hi ≤ n := hw (k, x) List.mem_cons_self
    have hr : ∀ p ∈ r, p.2.hi ≤ n := fun p hp => hw p (List.mem_cons_of_mem _ hp)
    rw [← k1] at hc
    rw [← k2] at hd
    show BlocksOk n 0 (grow (Block.new k x) r)
    cases k with
    | false =>
      refine grow_ok r (Block.new false x) 0 (Nat.zero_le _) x.lo_hi hx ?_ ?_ ?_ ?_ s2 hr
      · intro y hy; simp [Block.new] at hy; subst hy; exact Nat.le_refl _
      · intro y hy; simp [Block.new] at hy
      · simp only [filt, if_pos] at hc
        simpa [Block.new] using (Chain.suf (c := []) hc).2
      · simp only [filt] at hd
        simpa [Block.new] using chain_other (c := []) (by simpa using hd) (fun y hy => s1 _ (mem_filt hy))
    | true =>
      refine grow_ok r (Block.new true x) 0 (Nat.zero_le _) x.lo_hi hx ?_ ?_ ?_ ?_ s2 hr
      · intro y hy; simp [Block.new] at hy
      · intro y hy; simp [Block.new] at hy; subst hy; exact Nat.le_refl _
      · simp only [filt] at hc
        simpa [Block.new] using chain_other (c := []) (by simpa using hc) (fun y hy => s1 _ (mem_filt hy))
      · simp only [filt, if_pos] at hd
        simpa [Block.new] using (Chain.suf (c := []) hd).2
theorem grow_flat : ∀ (l : List (Bool × Edit α)) (b : Block α), ((grow b l).flatMap fun b => b.e0) = b.e0 ++ filt false l ∧ ((grow b l).flatMap fun b => b.e1) = b.e1 ++ filt true l ∧ (grow b l).length ≤ l.length + 1 := by
  intro l
  induction l with
  | nil => intro b; simp [grow, filt]
  | cons p r ih =>
    intro b
    obtain ⟨k, x⟩ := p
    simp only [grow]
    split
    · obtain ⟨h1, h2, h3⟩ := ih (b.add k x)
      rw [h1, h2]
      cases k <;> refine ⟨?_, ?_, by simp only [List.length_cons]; omega⟩ <;> simp [Block.add, filt]
    · obtain ⟨h1, h2, h3⟩ := ih (Block.new k x)
      simp only [List.flatMap_cons, h1, h2]
      cases k <;> refine ⟨?_, ?_, by simp only [List.length_cons]; omega⟩ <;> simp [Block.new, filt]
theorem merge_len (n : Nat) (c d : List (Edit α)) : (mergeGo n c d).length ≤ n := by
  induction n generalizing c d with
  | zero => exact Nat.le_refl _
  | succ n ih =>
    cases c <;> cases d <;> simp only [mergeGo]
    · exact Nat.zero_le _
    · simpa using ih _ _
    · simpa using ih _ _
    · split <;> simpa using ih _ _
theorem blocks_flat (c d : List (Edit α)) : ((blocks c d).flatMap fun b => b.e0) = c ∧ ((blocks c d).flatMap fun b => b.e1) = d ∧ (blocks c d).length ≤ c.length + d.length := by
  obtain ⟨k1, k2⟩ := merge_filt (c.length + d.length) c d (Nat.le_refl _)
  have hl := merge_len (c.length + d.length) c d
  unfold blocks merge
  generalize hn : mergeGo (c.length + d.length) c d = l at *
  cases l with
  | nil => simp [filt] at k1 k2; subst k1 k2; simp [blocksOf]
  | cons p r =>
    obtain ⟨k, x⟩ := p
    obtain ⟨h1, h2, h3⟩ := grow_flat r (Block.new k x)
    simp only [blocksOf]
    rw [h1, h2]
    simp only [List.length_cons] at hl
    refine ⟨?_, ?_, by omega⟩
    · rw [← k1]; cases k <;> simp [Block.new, filt]
    · rw [← k2]; cases k <;> simp [Block.new, filt]
theorem mem_block0 {c d : List (Edit α)} {b : Block α} (h : b ∈ blocks c d) : b.e0.Sublist c ∧ b.e1.Sublist d := by
  obtain ⟨h1, h2, _⟩ := blocks_flat c d
  obtain ⟨s, t, hst⟩ := List.append_of_mem h
  rw [hst] at h1 h2
  simp only [List.flatMap_append, List.flatMap_cons] at h1 h2
  constructor
  · rw [← h1]; exact ((List.sublist_append_left _ _).trans (List.sublist_append_right _ _))
  · rw [← h2]; exact ((List.sublist_append_left _ _).trans (List.sublist_append_right _ _))
theorem cut_len (a : List α) (i k : Nat) : (cut a i k).length ≤ a.length := by
  unfold cut; rw [List.length_take, List.length_drop]; omega
theorem hasGo_len {base : List α} {hi M : Nat} : ∀ {c : List (Edit α)} {at_ : Nat}, (∀ x ∈ c, x.new.length ≤ M) → (hasGo base hi at_ c).length ≤ base.length + c.length * (base.length + M)
  | [], _, _ => by simp only [hasGo, List.length_nil, Nat.zero_mul, Nat.add_zero]; exact cut_len _ _ _
  | x :: r, at_, h => by
    have h1 := hasGo_len (base := base) (hi := hi) (at_ := x.hi) fun y hy => h y (List.mem_cons_of_mem x hy)
    have h2 := h x List.mem_cons_self
    have h3 := cut_len base at_ x.lo
    simp only [hasGo, List.length_append, List.length_cons, Nat.add_mul]
    omega
theorem cut_cut {a : List α} {i k m : Nat} (h1 : i ≤ k) (h2 : k ≤ m) : cut a i k ++ cut a k m = cut a i m := by
  unfold cut
  have e : a.drop k = (a.drop i).drop (k - i) := by rw [List.drop_drop]; congr 1; omega
  rw [e, show m - i = (k - i) + (m - k) by omega, List.take_add]
/-- One edit more, before those that were made. -/
theorem made_has {base : List α} {lo hi : Nat} {x : Edit α} {r : List (Edit α)} (h1 : (lo : Int) ≤ x.at_) (h2 : Chain (x.hi + 1) r) (h3 : Within hi r) (h4 : x.hi ≤ hi) (h5 : hi ≤ base.length) :
    x.hi - lo ≤ (hasGo base hi lo r).length ∧ made (hasGo base hi lo r) ⟨x.at_ - lo, x.old, x.new⟩ = hasGo base hi lo (x :: r) := by
  have hlo : lo ≤ x.lo := by unfold Edit.lo; omega
  have hlh := x.lo_hi
  obtain ⟨s, hs⟩ : ∃ s, hasGo base hi lo r = cut base lo x.hi ++ s ∧ hasGo base hi x.hi r = s := by
    cases r with
    | nil => exact ⟨cut base x.hi hi, by simp only [hasGo]; rw [cut_cut (by omega) h4], rfl⟩
    | cons y r =>
      have : x.hi ≤ y.lo := by have := h2.1; unfold Edit.lo; omega
      exact ⟨cut base x.hi y.lo ++ (y.new ++ hasGo base hi y.hi r), by simp only [hasGo]; rw [← cut_cut (by omega : lo ≤ x.hi) this, List.append_assoc], rfl⟩
  have hcl : (cut base lo x.hi).length = x.hi - lo := cut_length (by omega) (by omega)
  have e1 : (x.at_ - lo).toNat = x.lo - lo := by unfold Edit.lo; omega
  have e2 : (x.at_ - lo).toNat + x.old.length = x.hi - lo := by unfold Edit.hi; omega
  refine ⟨by rw [hs.1, List.length_append, hcl]; omega, ?_⟩
  simp only [made, hasGo]
  rw [e2, e1, hs.1, hs.2, List.drop_append_of_le_length (by omega), List.drop_of_length_le (by omega), List.nil_append, List.take_append_of_le_length (by omega)]
  congr 1
  unfold cut
  rw [List.take_take]
  congr 1
  omega
end
end File
end Go.Proofs.YtlpoiggdjggkiaaGreatDoor
end
section
namespace Go.Proofs.YtlpoiggdjggkiaaGreatDoor
open Go.RowKit
theorem stepApp1 {α : Type} (E : Enc α) {P : Program} {t e : TypeId} (hT : SlTy P t e E.sz) {ops : Array Oper} {o : Oper} {a : Act} {K : Act → World → Prop} {Q : Exit → Act → World → Prop} {E' : Prop} {w W : World} {arr : Array Value}
    (hgd : o.guard = none) (s x : Operand) (ho : o.op = .call { callee := .builtin .append, args := #[s, x], argTypes := #[t, t] })
    {B : Nat} {v : Value} {xs : List α} (hown : Own E e B w v xs) (y : α) (harr : arr.toList = E.cells y) (hs : a.eval s = v) {G : Nat} (hG : G = w.heap.size) (hx : a.eval x = .slice (some ⟨G, 0, none⟩) 1 1)
    (hW : W = w.alloc (.cells arr e)) (hB : B ≤ w.heap.size) (hn : xs.length + 1 ≤ big)
    (h : ∀ v' w', Own E e B w' v' (xs ++ [y]) → Below B w w' → (∀ b, b < w.heap.size → v.ownBlock ≠ some b → w'.heap[b]? = w.heap[b]?) → K (a.put o.dst v') w') :
    if Region.wanted o (yielded ops a.tmps) = true then Oper.wp P o a W K Q else E' := by
  subst hW hG
  have hw : Region.wanted o (yielded ops a.tmps) = true := by simp [Region.wanted, hgd]
  rw [if_pos hw]
  obtain ⟨i, z, hi, hz, hsz, hby, hzc⟩ := hT.info
  unfold big at hn
  have hsize : arr.size = E.sz := by rw [← Array.length_toList, harr, E.len]
  refine wp_append_own (w.alloc (.cells arr e)) s x t ho B e i z E.sz i.bytes hT.ht hi hz hsz rfl hzc E.pos v xs.length (xs.flatMap E.cells) hs (World.ownsRow.alloc hown _)
    ⟨w.heap.size, 0, none⟩ 1 1 (E.cells y) hx (by rw [E.len]; omega) ?_ (E.one y) (by unfold maxLen; omega) (by have := Nat.mul_le_mul hn hby; omega) (by simp; omega) ?_
  · intro j u hu
    have hadd : (⟨w.heap.size, 0, none⟩ : Addr).add j = ⟨w.heap.size, j, none⟩ := by unfold Addr.add; split <;> simp_all
    rw [hadd, cell_of_row _ w.heap.size j arr e (0, 0) (heap_alloc_new w _), ← hu, ← harr, Array.getElem?_toList]
  · intro v' w' hown' hg _
    have hlt := Own.lt hown
    refine h v' w' (by unfold Own; simpa using hown') ?_ (fun b hb hv => ?_)
    · refine (((Below.refl B w).alloc hB _).grown hg (by simp; omega) fun k hk => ?_)
      exact (hlt k hk).1
    · rw [hg.block b (by simp; omega) (fun e => hv e.symm)]
      exact Below.heap_alloc w _ b hb
/-- wpApp1 with the new block's number as the walk spells it. -/
theorem wpApp1G {α : Type} (E : Enc α) {P : Program} {t e : TypeId} (hT : SlTy P t e E.sz) {ops : Array Oper} {rest : List Oper} {o : Oper} {a : Act} {Q : Exit → Act → World → Prop} {w : World} {arr : Array Value}
    (hgd : o.guard = none) (s x : Operand) (ho : o.op = .call { callee := .builtin .append, args := #[s, x], argTypes := #[t, t] })
    {B : Nat} {v : Value} {xs : List α} (hown : Own E e B w v xs) (y : α) (harr : arr.toList = E.cells y) (hs : a.eval s = v) {G : Nat} (hG : G = w.heap.size) (hx : a.eval x = .slice (some ⟨G, 0, none⟩) 1 1)
    (hB : B ≤ w.heap.size) (hn : xs.length + 1 ≤ big)
    (h : ∀ v' w', Own E e B w' v' (xs ++ [y]) → Below B w w' → (∀ b, b < w.heap.size → v.ownBlock ≠ some b → w'.heap[b]? = w.heap[b]?) → wpList P ops Q rest (a.put o.dst v') w') :
    wpList P ops Q (o :: rest) a (w.alloc (.cells arr e)) := by
  subst hG
  exact wpApp1 E hT hgd s x ho hown y harr hs hx hB hn h
end Go.Proofs.YtlpoiggdjggkiaaGreatDoor
end
section
namespace Go.Proofs.YtlpoiggdjggkiaaGreatDoor
namespace File
/-- What length reads: the number, whether it is one, what is left, and where. -/
def readNum (l : List UInt8) (k : Nat) : Nat × Bool × List UInt8 × Nat := match l with
  | [] => (0, false, [], k)
  | b :: r => if isDig b then
      let n := b.toNat - 48
      let m := 10 * n + ((nextB r).toNat - 48)
      if 0 < n ∧ isDig (nextB r) = true ∧ m ≤ 40 then (m, takes (· == 58) (rest isDig r), rest (· == 58) (rest isDig r), on (· == 58) (rest isDig r) (on isDig r (k + 1)))
      else (n, takes (· == 58) r, rest (· == 58) r, on (· == 58) r (k + 1))
    else (0, false, b :: r, k)
end File
namespace Fl
open Go.RowKit
set_option maxRecDepth 100000
theorem rest_length (p : UInt8 → Bool) (l : List UInt8) (k : Nat) : File.on p l k + (File.rest p l).length = k + l.length := by
  cases l with
  | nil => rfl
  | cons b r =>
    unfold File.on File.rest File.takes
    by_cases h : p b = true
    · simp only [h, if_true, List.length_cons]; omega
    · simp only [h, if_false, Bool.false_eq_true]
theorem rest_no {p : UInt8 → Bool} {l : List UInt8} (h : File.takes p l = false) : File.rest p l = l := by
  cases l with
  | nil => rfl
  | cons b r => exact if_neg (by rw [show p b = false from h]; simp)
theorem on_no {p : UInt8 → Bool} {l : List UInt8} (h : File.takes p l = false) (k : Nat) : File.on p l k = k := by unfold File.on; rw [h]; rfl
theorem RD.agg {w : World} {g k : Nat} {l : List UInt8} (h : RD w g l k) : w.cell? ⟨g, 0, none⟩ = some (.string (File.ba l)) ∧ w.cell? ⟨g, 1, none⟩ = some (iv k) ∧ g < w.heap.size := ⟨h.cell 0, h.cell 1, h.lt⟩
set_option maxHeartbeats 4000000 in
theorem length_spec (g k : Nat) (l : List UInt8) (w : World) (hR : RD w g l k) (hk : k + l.length ≤ 1000000000) :
    Calls Tryz.prog 62 #[.pointer (some ⟨g, 0, none⟩)] w fun e w' => e = .returned (.tuple #[iv (File.readNum l k).1, .bool (File.readNum l k).2.1]) ∧ RD w' g (File.readNum l k).2.2.1 (File.readNum l k).2.2.2 ∧ Only g w w' := by
  have hmf : ∀ (fn : Fn) (first cap : Array Value) (w : World), (Instr.makeFunc fn first cap).run Tryz.prog w = .ok (.func fn first cap) w := fun _ _ _ _ => rfl
  have hg0 := hR.lt
  obtain ⟨m0, m1, m2⟩ := hR.agg
  by_cases hd : File.takes File.isDig l = true
  · cases l with
    | nil => cases hd
    | cons b r =>
      have hd' : File.isDig b = true := hd
      have hbb : 48 ≤ b.toNat ∧ b.toNat ≤ 57 := by simpa [File.isDig] using hd'
      obtain ⟨n, hn⟩ : ∃ n : Nat, n = b.toNat - 48 := ⟨_, rfl⟩
      have hbn : b.toNat = n + 48 := by omega
      have hn9 : n ≤ 9 := by omega
      have hN := next_spec (b :: r) w
      rw [show bv (File.nextB (b :: r)) = .int .u8 ((n : Int) + 48) from by show Value.int .u8 (b.toNat : Int) = _; rw [hbn]; rfl] at hN
      have HN := Lib.hid hN
      obtain ⟨c, hc⟩ : ∃ c : Nat, c = (File.nextB r).toNat := ⟨_, rfl⟩
      have hc255 : c ≤ 255 := by have := (File.nextB r).toNat_lt; omega
      have HNR : Hid (∀ W : World, Calls Tryz.prog 34 #[.agg #[.string (File.ba r)]] W fun e w' => e = .returned (.int .u8 (c : Int)) ∧ Below W.heap.size W w') := Lib.hid fun W => by rw [hc]; exact next_spec r W
      have HRN : Hid (File.readNum (b :: r) k = if 0 < n ∧ File.isDig (File.nextB r) = true ∧ 10 * n + (c - 48) ≤ 40 then (10 * n + (c - 48), File.takes (· == 58) (File.rest File.isDig r), File.rest (· == 58) (File.rest File.isDig r), File.on (· == 58) (File.rest File.isDig r) (File.on File.isDig r (k + 1)))
          else (n, File.takes (· == 58) r, File.rest (· == 58) r, File.on (· == 58) r (k + 1))) := Lib.hid (by
        show (if File.isDig b = true then _ else _) = _
        rw [if_pos hd', ← hn, ← hc])
      have HDC : Hid (∀ W : World, Calls Tryz.prog 35 #[.int .u8 (c : Int)] W fun e w' => e = .returned (.bool (File.isDig (File.nextB r))) ∧ W = w') := Lib.hid fun W => by rw [hc]; exact digit_spec _ W
      have HCD : Hid (File.isDig (File.nextB r) = true → 48 ≤ c ∧ c ≤ 57) := Lib.hid fun h => by rw [hc]; simpa [File.isDig] using h
      have hkl : k + 1 + r.length ≤ 1000000000 := by simp only [List.length_cons] at hk; omega
      clear hN hbn hn hc
      go_enter Tryz.func62, Tryz.ntmps62
      go_wp2_with fail
      refine HN.out.mono ?_
      rintro e w1 ⟨rfl, hb1⟩
      have hR1 := hR.below hb1
      have hO1 := Only.of_below hb1 (Nat.le_of_lt hg0)
      obtain ⟨m0, m1, m2⟩ := hR1.agg
      have HTD := Lib.hid (takeDigit g k (b :: r) w1 hR1 (by simp only [List.length_cons] at hk ⊢; omega))
      rw [show File.takes File.isDig (b :: r) = true from hd, show File.rest File.isDig (b :: r) = r from by simp [File.rest, hd'], show File.on File.isDig (b :: r) k = k + 1 from by simp [File.on, File.takes, hd']] at HTD
      clear hd hd' hbb HN hR
      go_wp2_with fail
      refine HTD.out.mono ?_
      rintro e w2 ⟨rfl, hR2, hO2⟩
      have hO02 := hO1.trans hO2
      obtain ⟨m0, m1, m2⟩ := hR2.agg
      clear HTD hR1 hO1 hb1 hO2
      go_upto_region 5 with (go_at_call 34; refine (HNR.out _).mono ?_; rintro e w3 ⟨rfl, hb3⟩)
      have hR3 := hR2.below hb3
      have hO3 := hO02.next hb3 (Nat.le_of_lt m2)
      obtain ⟨m0, m1, m2⟩ := hR3.agg
      clear hR2 hO02 hb3
      have HONE : Hid (∀ W : World, Calls Tryz.prog 37 #[.int .u8 58] W fun e w' => ∃ q, e = .returned (.agg #[.func (.func 64) #[] #[.pointer (some ⟨q, 0, none⟩)]]) ∧ Blk w' q 5 #[bv 58] ∧ Below W.heap.size W w') := Lib.hid fun W => one_spec 58 W
      by_cases h0 : 0 < n
      · have h0i : (0 : Int) < (n : Int) := by omega
        cases hdr : File.isDig (File.nextB r)
        · have HX : Hid (File.readNum (b :: r) k = (n, File.takes (· == 58) r, File.rest (· == 58) r, File.on (· == 58) r (k + 1))) := Lib.hid (by rw [HRN.out, if_neg (by rw [hdr]; intro h; cases h.2.1)])
          rw [hdr] at HDC
          clear hdr HRN HCD
          go_wp2_with (first
            | (go_at_call 34; refine (HNR.out _).mono ?_; rintro e w4 ⟨rfl, hb4⟩; have hR4 := hR3.below hb4; obtain ⟨m3, m4, m5⟩ := hR4.agg)
            | (go_at_call 35; refine (HDC.out _).mono ?_; rintro e w' ⟨rfl, rfl⟩)
            | (go_at_call 37; refine (HONE.out _).mono ?_; rintro e w7 ⟨q, rfl, hq, hb7⟩; have hR7 := hR4.below hb7; obtain ⟨m6, m7, m8⟩ := hR7.agg)
            | (go_at_call 33; refine (takeOne 58 q g (k + 1) r _ hR7 (by omega) hq).mono ?_; rintro e w8 ⟨rfl, hR8, hO8⟩))
          go_ret2
          exact ⟨ret_eq (by rw [HX.out]; rfl), by rw [HX.out]; exact hR8, ((hO3.next hb4 (Nat.le_of_lt m2)).next hb7 (Nat.le_of_lt m5)).trans hO8⟩
        · have hcd := HCD.out hdr
          obtain ⟨d, hd⟩ : ∃ d : Nat, d = c - 48 := ⟨_, rfl⟩
          have hcd2 : (c : Int) - 48 = (d : Int) := by omega
          have hd9 : d ≤ 9 := by omega
          by_cases hm : 10 * n + d ≤ 40
          · have hmi : (10 : Int) * (n : Int) + (d : Int) ≤ 40 := by omega
            have HX : Hid (File.readNum (b :: r) k = (10 * n + d, File.takes (· == 58) (File.rest File.isDig r), File.rest (· == 58) (File.rest File.isDig r), File.on (· == 58) (File.rest File.isDig r) (File.on File.isDig r (k + 1)))) := Lib.hid (by rw [HRN.out, if_pos ⟨h0, hdr, by omega⟩, hd])
            have HRL := Lib.hid (rest_length File.isDig r (k + 1))
            rw [hdr] at HDC
            rw [hcd2]
            have HTD := Lib.hid (fun (W : World) (h : RD W g r (k + 1)) => takeDigit g (k + 1) r W h (by omega))
            clear hdr HRN HCD hd hcd hcd2
            go_upto_region 7 with (first
              | (go_at_call 34; refine (HNR.out _).mono ?_; rintro e w4 ⟨rfl, hb4⟩; have hR4 := hR3.below hb4; obtain ⟨m3, m4, m5⟩ := hR4.agg)
              | (go_at_call 35; refine (HDC.out _).mono ?_; rintro e w' ⟨rfl, rfl⟩))
            go_wp2_with fail
            refine (HTD.out _ hR4).mono ?_
            rintro e w6 ⟨rfl, hR6, hO6⟩
            go_wp2_with fail
            refine (HONE.out _).mono ?_
            rintro e w7 ⟨q, rfl, hq, hb7⟩
            have hR7 := hR6.below hb7
            have m8 := hR6.lt
            go_wp2_with fail
            refine (takeOne 58 q g _ _ _ hR7 (by rw [HRL.out]; omega) hq).mono ?_
            rintro e w8 ⟨rfl, hR8, hO8⟩
            go_wp2_with fail
            go_ret2
            exact ⟨ret_eq (by rw [HX.out]; rfl), by rw [HX.out]; exact hR8, ((((hO3.next hb4 (Nat.le_of_lt m2)).trans hO6).next hb7 (Nat.le_of_lt m8))).trans hO8⟩
          · have hmi : ¬ (10 : Int) * (n : Int) + (d : Int) ≤ 40 := by omega
            have HX : Hid (File.readNum (b :: r) k = (n, File.takes (· == 58) r, File.rest (· == 58) r, File.on (· == 58) r (k + 1))) := Lib.hid (by rw [HRN.out, if_neg (by rw [← hd]; intro h; omega)])
            rw [hdr] at HDC
            rw [hcd2]
            clear hdr HRN HCD hd hcd hcd2
            go_wp2_with (first
              | (go_at_call 34; refine (HNR.out _).mono ?_; rintro e w4 ⟨rfl, hb4⟩; have hR4 := hR3.below hb4; obtain ⟨m3, m4, m5⟩ := hR4.agg)
              | (go_at_call 35; refine (HDC.out _).mono ?_; rintro e w' ⟨rfl, rfl⟩)
              | (go_at_call 37; refine (HONE.out _).mono ?_; rintro e w7 ⟨q, rfl, hq, hb7⟩; have hR7 := hR4.below hb7; obtain ⟨m6, m7, m8⟩ := hR7.agg)
              | (go_at_call 33; refine (takeOne 58 q g (k + 1) r _ hR7 (by omega) hq).mono ?_; rintro e w8 ⟨rfl, hR8, hO8⟩))
            go_ret2
            exact ⟨ret_eq (by rw [HX.out]; rfl), by rw [HX.out]; exact hR8, ((hO3.next hb4 (Nat.le_of_lt m2)).next hb7 (Nat.le_of_lt m5)).trans hO8⟩
      · have h0i : ¬ (0 : Int) < (n : Int) := by omega
        have HX : Hid (File.readNum (b :: r) k = (n, File.takes (· == 58) r, File.rest (· == 58) r, File.on (· == 58) r (k + 1))) := Lib.hid (by rw [HRN.out, if_neg (fun h => h0 h.1)])
        clear HRN HCD HDC
        go_wp2_with (first
          | (go_at_call 37; refine (HONE.out _).mono ?_; rintro e w7 ⟨q, rfl, hq, hb7⟩; have hR7 := hR3.below hb7; obtain ⟨m6, m7, m8⟩ := hR7.agg)
          | (go_at_call 33; refine (takeOne 58 q g (k + 1) r _ hR7 (by omega) hq).mono ?_; rintro e w8 ⟨rfl, hR8, hO8⟩))
        go_ret2
        exact ⟨ret_eq (by rw [HX.out]; rfl), by rw [HX.out]; exact hR8, (hO3.next hb7 (Nat.le_of_lt m2)).trans hO8⟩
  · have hd' : File.takes File.isDig l = false := by simpa using hd
    have HTD := Lib.hid (fun (W : World) (h : RD W g l k) => takeDigit g k l W h (by omega))
    rw [hd', rest_no hd', on_no hd'] at HTD
    have HX : Hid (File.readNum l k = (0, false, l, k)) := Lib.hid (by
      cases l with
      | nil => rfl
      | cons b r => show (if File.isDig b = true then _ else _) = _; rw [if_neg (by rw [show File.isDig b = false from hd']; simp)])
    obtain ⟨c, hc⟩ : ∃ c : Nat, c = (File.nextB l).toNat := ⟨_, rfl⟩
    have hc255 : c ≤ 255 := by have := (File.nextB l).toNat_lt; omega
    have HNR : Hid (∀ W : World, Calls Tryz.prog 34 #[.agg #[.string (File.ba l)]] W fun e w' => e = .returned (.int .u8 (c : Int)) ∧ Below W.heap.size W w') := Lib.hid fun W => by rw [hc]; exact next_spec l W
    clear hc hd hd'
    go_enter Tryz.func62, Tryz.ntmps62
    go_wp2_with (first
      | (go_at_call 34; refine (HNR.out _).mono ?_; rintro e w1 ⟨rfl, hb1⟩; have hR1 := hR.below hb1)
      | (go_at_call 33; refine (HTD.out _ hR1).mono ?_; rintro e w2 ⟨rfl, hR2, hO2⟩))
    go_ret2
    exact ⟨ret_eq (by rw [HX.out]; rfl), by rw [HX.out]; exact hR2, (Only.of_below hb1 (Nat.le_of_lt hg0)).trans hO2⟩
end Fl
end Go.Proofs.YtlpoiggdjggkiaaGreatDoor
end
section
namespace Go.Proofs.YtlpoiggdjggkiaaGreatDoor
namespace File
def takeN : Nat → List UInt8 → Nat → Bool × List UInt8 × Nat
  | 0, l, k => (true, l, k)
  | n + 1, l, k => if takes okB l then takeN n (rest okB l) (on okB l k) else (false, l, k)
def runN (s : Bool) (n : Nat) (l : List UInt8) (k : Nat) : Bool × List UInt8 × Nat := if s then takeN n l k else (false, l, k)
/-- What line reads: the line, if it is one, what is left, and where. -/
def readLine (l : List UInt8) (k : Nat) : Option (List UInt8) × List UInt8 × Nat :=
  let q := readNum l k
  let t := runN q.2.1 q.1 q.2.2.1 q.2.2.2
  if t.1 then (if takes (· == 10) t.2.1 then (some (q.2.2.1.take q.1), rest (· == 10) t.2.1, on (· == 10) t.2.1 t.2.2) else (none, t.2.1, t.2.2)) else (none, t.2.1, t.2.2)
theorem readNum_le (l : List UInt8) (k : Nat) : (readNum l k).1 ≤ 40 := by
  unfold readNum
  split
  · exact Nat.zero_le _
  · rename_i b r
    split
    · rename_i h
      have : b.toNat ≤ 57 := by simp [isDig] at h; exact h.2
      dsimp only
      split
      · rename_i h2; exact h2.2.2
      · show b.toNat - 48 ≤ 40; omega
    · exact Nat.zero_le _
end File
namespace Fl
open Go.RowKit
set_option maxRecDepth 100000
theorem readNum_len (l : List UInt8) (k : Nat) : (File.readNum l k).2.2.2 + (File.readNum l k).2.2.1.length = k + l.length := by
  unfold File.readNum
  split
  · rfl
  · rename_i b r
    split
    · dsimp only
      split
      · have h1 := rest_length File.isDig r (k + 1)
        have h2 := rest_length (· == 58) (File.rest File.isDig r) (File.on File.isDig r (k + 1))
        simp only [List.length_cons]
        show File.on (· == 58) (File.rest File.isDig r) (File.on File.isDig r (k + 1)) + (File.rest (· == 58) (File.rest File.isDig r)).length = _
        omega
      · have h2 := rest_length (· == 58) r (k + 1)
        simp only [List.length_cons]
        show File.on (· == 58) r (k + 1) + (File.rest (· == 58) r).length = _
        omega
    · rfl
theorem takeN_true : ∀ (n : Nat) (l : List UInt8) (k : Nat), (File.takeN n l k).1 = true → n ≤ l.length ∧ File.takeN n l k = (true, l.drop n, k + n) := by
  intro n
  induction n with
  | zero => intro l k _; exact ⟨Nat.zero_le _, rfl⟩
  | succ n ih =>
    intro l k h
    unfold File.takeN at h ⊢
    split at h
    · rename_i ht
      rw [if_pos ht]
      cases l with
      | nil => cases ht
      | cons b r =>
        have hb : File.okB b = true := ht
        rw [show File.rest File.okB (b :: r) = r from if_pos hb, show File.on File.okB (b :: r) k = k + 1 from if_pos ht] at h ⊢
        obtain ⟨h1, h2⟩ := ih r (k + 1) h
        refine ⟨by simpa using h1, ?_⟩
        rw [h2, List.drop_succ_cons, show k + 1 + n = k + (n + 1) by omega]
    · cases h
theorem runN_len (s : Bool) : ∀ (n : Nat) (l : List UInt8) (k : Nat), (File.runN s n l k).2.2 + (File.runN s n l k).2.1.length = k + l.length := by
  unfold File.runN
  cases s
  · intro n l k; rfl
  · intro n
    simp only [if_true]
    induction n with
    | zero => intro l k; rfl
    | succ n ih =>
      intro l k
      unfold File.takeN
      split
      · rw [ih, rest_length]
      · rfl
theorem runN_step (s : Bool) (n : Nat) (l : List UInt8) (k : Nat) : File.runN s (n + 1) l k = if s then File.runN (File.takes File.okB l) n (File.rest File.okB l) (File.on File.okB l k) else File.runN false n l k := by
  cases s
  · rfl
  · simp only [if_true]
    unfold File.runN
    simp only [if_true]
    rw [File.takeN]
    split
    · rfl
    · rename_i h
      have h' : File.takes File.okB l = false := by simpa using h
      rw [rest_no h', on_no h']
theorem ba_take (l : List UInt8) (n : Nat) : (File.ba l).extract 0 n = File.ba (l.take n) := by
  apply ByteArray.ext
  simp [File.ba]
set_option maxHeartbeats 4000000 in
theorem line_spec (g k : Nat) (l : List UInt8) (w : World) (hR : RD w g l k) (hk : k + l.length ≤ 1000000000) :
    Calls Tryz.prog 36 #[.pointer (some ⟨g, 0, none⟩)] w fun e w' => e = .returned (.tuple #[.string (File.ba ((File.readLine l k).1.getD [])), .bool (File.readLine l k).1.isSome]) ∧ RD w' g (File.readLine l k).2.1 (File.readLine l k).2.2 ∧ Only g w w' := by
  have HLE := Lib.hid (length_spec g k l w hR hk)
  have hg0 := hR.lt
  have hnl := File.readNum_le l k
  have hqk := readNum_len l k
  have HX : Hid (File.readLine l k = if (File.runN (File.readNum l k).2.1 (File.readNum l k).1 (File.readNum l k).2.2.1 (File.readNum l k).2.2.2).1 then
      (if File.takes (· == 10) (File.runN (File.readNum l k).2.1 (File.readNum l k).1 (File.readNum l k).2.2.1 (File.readNum l k).2.2.2).2.1 then (some ((File.readNum l k).2.2.1.take (File.readNum l k).1), File.rest (· == 10) (File.runN (File.readNum l k).2.1 (File.readNum l k).1 (File.readNum l k).2.2.1 (File.readNum l k).2.2.2).2.1, File.on (· == 10) (File.runN (File.readNum l k).2.1 (File.readNum l k).1 (File.readNum l k).2.2.1 (File.readNum l k).2.2.2).2.1 (File.runN (File.readNum l k).2.1 (File.readNum l k).1 (File.readNum l k).2.2.1 (File.readNum l k).2.2.2).2.2)
        else (none, (File.runN (File.readNum l k).2.1 (File.readNum l k).1 (File.readNum l k).2.2.1 (File.readNum l k).2.2.2).2.1, (File.runN (File.readNum l k).2.1 (File.readNum l k).1 (File.readNum l k).2.2.1 (File.readNum l k).2.2.2).2.2))
      else (none, (File.runN (File.readNum l k).2.1 (File.readNum l k).1 (File.readNum l k).2.2.1 (File.readNum l k).2.2.2).2.1, (File.runN (File.readNum l k).2.1 (File.readNum l k).1 (File.readNum l k).2.2.1 (File.readNum l k).2.2.2).2.2)) := Lib.hid rfl
  generalize File.readNum l k = q at *
  obtain ⟨n, ok, l1, k1⟩ := q
  dsimp only at HLE HX hnl hqk
  generalize File.readLine l k = rl at *
  have hl1 : l1.length ≤ 1000000000 := by omega
  go_enter Tryz.func36, Tryz.ntmps36
  go_wp2_with fail
  refine HLE.out.mono ?_
  rintro e w1 ⟨rfl, hR1, hO1⟩
  obtain ⟨m0, m1, m2⟩ := hR1.agg
  clear HLE hR
  go_wp2_with fail
  obtain ⟨T, hT⟩ : ∃ T, T = File.runN ok n l1 k1 := ⟨_, rfl⟩
  rw [← hT] at HX
  have HT := Lib.hid hT
  clear hT m0 m1
  go_loopw [5, 18] (fun v i wr => ∃ (j : Nat) (s : Bool) (lj : List UInt8) (kj : Nat), j ≤ n ∧ i = iv j ∧ v = .bool s ∧ RD wr g lj kj ∧ Only g w1 wr ∧ Hid (File.runN s (n - j) lj kj = T) ∧ kj + lj.length = k1 + l1.length) (fun _ i _ => n - (intOf i).toNat)
  case atStart => exact ⟨0, ok, l1, k1, by omega, rfl, rfl, hR1, Only.refl _ _, Lib.hid HT.out.symm, rfl⟩
  case round =>
    obtain ⟨j, s, lj, kj, hj, rfl, rfl, hRj, hOj, hr, hlj⟩ := hrel
    by_cases hlt : j < n
    · have hji : (j : Int) < (n : Int) := by omega
      have hr' := hr.out
      rw [show n - j = (n - (j + 1)) + 1 by omega, runN_step] at hr'
      cases s
      · simp only [Bool.false_eq_true, if_false] at hr'
        have HR := Lib.hid hr'
        clear hr hr'
        go_wp2_with fail
        go_roundw
        case rel => exact ⟨j + 1, false, lj, kj, by omega, by go_num, rfl, hRj, hOj, HR, hlj⟩
        case measure => simp [intOf]; omega
      · simp only [if_true] at hr'
        have HR := Lib.hid hr'
        have HTK := Lib.hid (takeOk g kj lj wr hRj (by omega))
        have HRL := Lib.hid (rest_length File.okB lj kj)
        clear hr hr'
        go_wp2_with (go_at_call 33; refine HTK.out.mono ?_; rintro e w2 ⟨rfl, hR2, hO2⟩)
        go_roundw
        case rel => exact ⟨j + 1, File.takes File.okB lj, File.rest File.okB lj, File.on File.okB lj kj, by omega, by go_num, rfl, hR2, hOj.trans hO2, HR, by have := HRL.out; omega⟩
        case measure => simp [intOf]; omega
    · have hji : ¬ (j : Int) < (n : Int) := by omega
      have hr' := hr.out
      rw [show n - j = 0 by omega] at hr'
      have hTe : T = (s, lj, kj) := by rw [← hr']; cases s <;> rfl
      rw [hTe] at HX HT
      dsimp only at HX
      have hmj := hRj.lt
      clear hr hr' hTe
      cases s
      · simp only [Bool.false_eq_true, if_false] at HX
        go_wp2_with fail
        go_ret2
        exact ⟨ret_eq (by rw [HX.out]; rfl), by rw [HX.out]; exact hRj, hO1.trans hOj⟩
      · simp only [if_true] at HX
        have hnle : n ≤ l1.length := by
          have h1 := HT.out
          cases ok
          · cases h1
          · have h2 : (File.takeN n l1 k1).1 = true := by rw [show File.takeN n l1 k1 = (true, lj, kj) from h1.symm]
            exact (takeN_true n l1 k1 h2).1
        have hnsz : (n : Int) ≤ ((File.ba l1).size : Int) := by rw [ba_size]; omega
        have HONE : Hid (∀ W : World, Calls Tryz.prog 37 #[.int .u8 10] W fun e w' => ∃ q, e = .returned (.agg #[.func (.func 64) #[] #[.pointer (some ⟨q, 0, none⟩)]]) ∧ Blk w' q 5 #[bv 10] ∧ Below W.heap.size W w') := Lib.hid fun W => one_spec 10 W
        cases ht : File.takes (· == 10) lj
        · rw [ht] at HX
          simp only [Bool.false_eq_true, if_false] at HX
          have hre := rest_no ht
          have hon := on_no ht kj
          go_wp2_with fail
          refine (HONE.out _).mono ?_
          rintro e w7 ⟨q, rfl, hq, hb7⟩
          have HTO := takeOne 10 q g kj lj w7 (hRj.below hb7) (by omega) hq
          rw [ht, hre, hon] at HTO
          have HTO2 := Lib.hid HTO
          clear hre hon ht HTO
          go_wp2_with fail
          refine HTO2.out.mono ?_
          rintro e w8 ⟨rfl, hR8, hO8⟩
          go_wp2_with fail
          go_ret2
          exact ⟨ret_eq (by rw [HX.out]; rfl), by rw [HX.out]; exact hR8, ((hO1.trans hOj).next hb7 (Nat.le_of_lt hmj)).trans hO8⟩
        · rw [ht] at HX
          simp only [if_true] at HX
          go_wp2_with fail
          refine (HONE.out _).mono ?_
          rintro e w7 ⟨q, rfl, hq, hb7⟩
          have HTO := takeOne 10 q g kj lj w7 (hRj.below hb7) (by omega) hq
          rw [ht] at HTO
          have HTO2 := Lib.hid HTO
          clear ht HTO
          go_wp2_with fail
          refine HTO2.out.mono ?_
          rintro e w8 ⟨rfl, hR8, hO8⟩
          go_wp2_with fail
          go_ret2
          exact ⟨ret_eq (by rw [HX.out]; simp [ba_take]), by rw [HX.out]; exact hR8, ((hO1.trans hOj).next hb7 (Nat.le_of_lt hmj)).trans hO8⟩
end Fl
end Go.Proofs.YtlpoiggdjggkiaaGreatDoor
end
section
namespace Go.Proofs.YtlpoiggdjggkiaaGreatDoor
namespace File
def lines : Nat → List ByteArray → List UInt8 → Nat → (Int × Nat) ⊕ (List ByteArray × List UInt8 × Nat)
  | 0, _, _, k => .inl (11, k)
  | n + 1, out, l, k =>
    if nextB l = 61 then .inr (out, l, k)
    else if out.length = 24 then .inl (if isDig (nextB l) then 2 else 11, k)
    else match (readLine l k).1 with
      | some x => lines n (out ++ [ba x]) (readLine l k).2.1 (readLine l k).2.2
      | none => .inl (11, (readLine l k).2.2)
def matchAll : List UInt8 → List UInt8 → Nat → Bool × List UInt8 × Nat
  | [], l, k => (true, l, k)
  | a :: ws, l, k => if takes (· == a) l then matchAll ws (rest (· == a) l) (on (· == a) l k) else (false, l, k)
def ending : (Int × Nat) ⊕ (List ByteArray × List UInt8 × Nat) → List ByteArray × Nat × Int
  | .inl (e, k) => ([], k, e)
  | .inr (out, l, k) =>
    let t := matchAll (endOf out) (rest (· == 61) l) (on (· == 61) l k)
    if t.1 = true ∧ t.2.1 = [] then (out, 0, 0) else ([], t.2.2, 8)
/-- What Parse returns: the lines, a place, and an error. -/
def parse (s : List UInt8) : List ByteArray × Nat × Int := ending (lines 25 [] s 0)
end File
namespace Fl
open Go.RowKit
set_option maxRecDepth 100000
def slLen (v : Value) : Nat := match v with
  | .slice _ n _ => n
  | _ => 0
theorem Own.apartBlk {α : Type} {E : Enc α} {e t : TypeId} {B : Nat} {w : World} {v : Value} {xs : List α} {g : Nat} {cs : Array Value} (h : Own E e B w v xs) (hb : Blk w g t cs) (ht : t ≠ e) : v.ownBlock ≠ some g := fun hv => by
  rcases h.2 with ⟨rfl, _⟩ | ⟨g', cap, cur, rfl, _, hg, _⟩
  · cases hv
  · have hg' : g' = g := by simpa [Value.ownBlock] using hv
    unfold Blk at hb
    rw [hg', hb] at hg
    injection hg with hg
    injection hg with _ h2 _
    exact ht h2
theorem Own.only {α : Type} {E : Enc α} {e t : TypeId} {B : Nat} {w w' : World} {v : Value} {xs : List α} {g : Nat} {cs : Array Value} (h : Own E e B w v xs) (hb : Blk w g t cs) (ht : t ≠ e) (ho : Only g w w') : Own E e B w' v xs :=
  h.keep ho.below.size fun b hv => ho.other b (h.lt b hv).2 fun e => Own.apartBlk h hb ht (by rw [hv, e])
theorem takeN_ok : ∀ (n : Nat) (l : List UInt8) (k : Nat), (File.takeN n l k).1 = true → ∀ b ∈ l.take n, File.okB b = true := by
  intro n
  induction n with
  | zero => intro l k _ b hb; simp at hb
  | succ n ih =>
    intro l k h b hb
    unfold File.takeN at h
    split at h
    · rename_i ht
      cases l with
      | nil => simp at hb
      | cons c r =>
        have hc : File.okB c = true := ht
        rw [show File.rest File.okB (c :: r) = r from if_pos hc] at h
        rw [List.take_succ_cons] at hb
        rcases List.mem_cons.1 hb with rfl | hb
        · exact hc
        · exact ih _ _ h b hb
    · cases h
theorem readLine_good {l : List UInt8} {k : Nat} {x : List UInt8} (h : (File.readLine l k).1 = some x) : (File.ba x).size ≤ 40 ∧ File.okLine (File.ba x) = true := by
  unfold File.readLine at h
  dsimp only at h
  split at h
  · rename_i ht
    split at h
    · injection h with h
      subst h
      have hn := File.readNum_le l k
      have hs : (File.takeN (File.readNum l k).1 (File.readNum l k).2.2.1 (File.readNum l k).2.2.2).1 = true := by
        unfold File.runN at ht
        split at ht
        · exact ht
        · cases ht
      refine ⟨by rw [ba_size, List.length_take]; omega, ?_⟩
      unfold File.okLine
      rw [List.all_eq_true]
      intro b hb
      exact takeN_ok _ _ _ hs b (by simpa [File.ba] using hb)
    · cases h
  · cases h
theorem readLine_len (l : List UInt8) (k : Nat) : (File.readLine l k).2.2 + (File.readLine l k).2.1.length = k + l.length := by
  unfold File.readLine
  have h1 := runN_len (File.readNum l k).2.1 (File.readNum l k).1 (File.readNum l k).2.2.1 (File.readNum l k).2.2.2
  have h2 := readNum_len l k
  dsimp only
  split
  · split
    · have h3 := rest_length (· == 10) (File.runN (File.readNum l k).2.1 (File.readNum l k).1 (File.readNum l k).2.2.1 (File.readNum l k).2.2.2).2.1 (File.runN (File.readNum l k).2.1 (File.readNum l k).1 (File.readNum l k).2.2.1 (File.readNum l k).2.2.2).2.2
      dsimp only
      omega
    · dsimp only; omega
  · dsimp only; omega
theorem Good.snoc {l : List ByteArray} {x : ByteArray} (h : Good l) (hl : l.length < 24) (h1 : x.size ≤ 40) (h2 : File.okLine x = true) : Good (l ++ [x]) :=
  ⟨by simp; omega, fun s hs => by rcases List.mem_append.1 hs with h3 | h3; exact h.wide s h3; rw [List.mem_singleton.1 h3]; exact h1, fun s hs => by rcases List.mem_append.1 hs with h3 | h3; exact h.ok s h3; rw [List.mem_singleton.1 h3]; exact h2⟩
theorem Good.nil : Good [] := ⟨by simp, (fun _ h => by cases h), (fun _ h => by cases h)⟩
/-- What Parse hands back. -/
def ParseOk (B : Nat) (r : List ByteArray × Nat × Int) (e : Ending) (w' : World) : Prop := ∃ v, e = .returned (.tuple #[v, iv r.2.1, iv r.2.2]) ∧ Own strE 9 B w' v r.1 ∧ (r.2.2 ≠ 0 → v = .slice none 0 0)
set_option maxHeartbeats 8000000 in
theorem parse_spec (s : List UInt8) (w : World) (hs : s.length ≤ 1000000000) (ht : Tab w) :
    Calls Tryz.prog 13 #[.string (File.ba s)] w fun e w' => ParseOk w.heap.size (File.parse s) e w' ∧ Below w.heap.size w w' := by
  have hmf : ∀ (fn : Fn) (first cap : Array Value) (w : World), (Instr.makeFunc fn first cap).run Tryz.prog w = .ok (.func fn first cap) w := fun _ _ _ _ => rfl
  have HT := Lib.hid ht
  clear ht
  go_enter Tryz.func13, Tryz.ntmps13
  go_wp2_with fail
  have hR1 : RD (w.alloc (.cells #[.string (File.ba s), iv 0] 97)) w.heap.size s 0 := Blk.new _ _ _
  have hb1 : Below w.heap.size w (w.alloc (.cells #[.string (File.ba s), iv 0] 97)) := (Below.refl _ _).alloc (Nat.le_refl _) _
  have hz1 : w.heap.size + 1 ≤ (w.alloc (.cells #[.string (File.ba s), iv 0] 97)).heap.size := by simp
  generalize w.alloc (.cells #[.string (File.ba s), iv 0] 97) = w1 at *
  obtain ⟨L, hL⟩ : ∃ L, L = File.lines 25 [] s 0 := ⟨_, rfl⟩
  have HP : Hid (File.parse s = File.ending L) := Lib.hid (by rw [hL]; rfl)
  have HL := Lib.hid hL
  clear hL
  go_loopw [7, 8, 9] (fun v _ _ wr => ∃ (out : List ByteArray) (l : List UInt8) (k : Nat), Own strE 9 w.heap.size wr v out ∧ Good out ∧ RD wr w.heap.size l k ∧ Below w.heap.size w wr ∧ k + l.length = s.length ∧ Hid (File.lines (25 - out.length) out l k = L)) (fun v _ _ _ => 25 - slLen v)
  case atStart => exact ⟨[], s, 0, Own.nil, Good.nil, hR1, hb1, by omega, Lib.hid HL.out.symm⟩
  case round =>
    obtain ⟨out, l, k, hown, hgood, hR, hbw, hkl, hr⟩ := hrel
    obtain ⟨A, cp, rfl, hcp, hcm⟩ := hown.form
    have hom := hgood.many
    obtain ⟨m0, m1, m2⟩ := hR.agg
    obtain ⟨c, hc⟩ : ∃ c : Nat, c = (File.nextB l).toNat := ⟨_, rfl⟩
    have hc255 : c ≤ 255 := by have := (File.nextB l).toNat_lt; omega
    have HNR : Hid (∀ W : World, Calls Tryz.prog 34 #[.agg #[.string (File.ba l)]] W fun e w' => e = .returned (.int .u8 (c : Int)) ∧ Below W.heap.size W w') := Lib.hid fun W => by rw [hc]; exact next_spec l W
    have HDC : Hid (∀ W : World, Calls Tryz.prog 35 #[.int .u8 (c : Int)] W fun e w' => e = .returned (.bool (File.isDig (File.nextB l))) ∧ W = w') := Lib.hid fun W => by rw [hc]; exact digit_spec _ W
    have HONE : Hid (∀ (a : UInt8) (W : World), Calls Tryz.prog 37 #[bv a] W fun e w' => ∃ q, e = .returned (.agg #[.func (.func 64) #[] #[.pointer (some ⟨q, 0, none⟩)]]) ∧ Blk w' q 5 #[bv a] ∧ Below W.heap.size W w') := Lib.hid fun a W => one_spec a W
    have hcf := callFunc_run (P := Tryz.prog) (K := 33) (by kernel_rfl)
    by_cases h61 : c = 61
    · have h61i : ((c : Int) != 61) = false := by simp; omega
      have hn61 : File.nextB l = 61 := UInt8.toNat_inj.1 (by rw [← hc, h61]; rfl)
      have hLe : L = .inr (out, l, k) := by
        rw [← hr.out, show 25 - out.length = (24 - out.length) + 1 by omega, File.lines, if_pos hn61]
      rw [hLe] at HP
      unfold File.ending at HP
      dsimp only at HP
      have HN61 := Lib.hid hn61
      have HGO := Lib.hid hgood
      have HOW := Lib.hid hown
      clear hc h61 hn61 hLe hr HL HDC hgood hown
      go_wp2_with (go_at_call 34; refine (HNR.out _).mono ?_; rintro e w2 ⟨rfl, hb2⟩)
      refine (show Calls Tryz.prog 37 #[.int .u8 61] _ _ from HONE.out 61 _).mono ?_
      rintro e w3 ⟨q, rfl, hq, hb3⟩
      have hR3 := (hR.below hb2).below hb3
      have hb23 := hb2.trans (hb3.mono hb2.size)
      have hRg := hR.lt
      have HT1 := Lib.hid (takeOne 61 q w.heap.size k l w3 hR3 (by omega) hq)
      have HRL1 := Lib.hid (rest_length (· == 61) l k)
      obtain ⟨l1, hl1⟩ : ∃ l1, l1 = File.rest (· == 61) l := ⟨_, rfl⟩
      obtain ⟨k1, hk1⟩ : ∃ k1, k1 = File.on (· == 61) l k := ⟨_, rfl⟩
      rw [← hl1, ← hk1] at HT1 HP HRL1
      clear hl1 hk1 hb2 hb3 hR m0 m1 m2
      go_wp2_with fail
      refine HT1.out.mono ?_
      rintro e w4 ⟨rfl, hR4, hO4⟩
      have hO04 : Only w.heap.size wr w4 := (Only.of_below hb23 (Nat.le_of_lt hRg)).trans hO4
      have hown4 : Own strE 9 w.heap.size w4 (.slice A out.length cp) out := Own.only (HOW.out.below hb23) hR3 (by decide) hO4
      have hbw4 : Below w.heap.size w w4 := hbw.trans hO04.below
      have hsl4 := hown4.sl
      have HEN := Lib.hid (end_spec A out cp w4 HGO.out hsl4 (HT.out.below hbw4))
      clear HT1 hR3 hb23 hO4 hsl4
      go_wp2_with fail
      refine HEN.out.mono ?_
      rintro e w5 ⟨rfl, hb5⟩
      have hR5 := hR4.below hb5
      have hown5 := hown4.below hb5
      have hbw5 := hbw4.next hb5 (Nat.le_refl _)
      obtain ⟨T, hTe⟩ : ∃ T, T = File.matchAll (File.endOf out) l1 k1 := ⟨_, rfl⟩
      rw [← hTe] at HP
      have HTE := Lib.hid hTe
      obtain ⟨W, hW⟩ : ∃ W, W = File.endOf out := ⟨_, rfl⟩
      have hWl : W.length ≤ 1000 := by
        have := sum_bounds out
        have h2 := dec_len 5 (File.sum out).toNat (by omega)
        rw [hW]; unfold File.endOf; simp; omega
      rw [← hW] at HTE ⊢
      clear hTe hW hR4 hown4 hbw4 hb5 HEN
      go_wp2_with fail
      have hsz : (File.ba W).size = W.length := ba_size W
      have HSZ := Lib.hid hsz
      have hWs : (File.ba W).size ≤ 1000 := by omega
      clear hsz
      go_loopw [11, 64] (fun _ i wx => ∃ (j : Nat) (lj : List UInt8) (kj : Nat), j ≤ (File.ba W).size ∧ i = iv j ∧ RD wx w.heap.size lj kj ∧ Own strE 9 w.heap.size wx (.slice A out.length cp) out ∧ Below w.heap.size w wx ∧ kj + lj.length = s.length ∧ Hid (File.matchAll (W.drop j) lj kj = T)) (fun _ i _ => (File.ba W).size - (intOf i).toNat)
      case atStart => exact ⟨0, l1, k1, Nat.zero_le _, rfl, hR5, hown5, hbw5, by have := HRL1.out; omega, Lib.hid HTE.out.symm⟩
      case round =>
        clear hR5 hown5 hbw5
        obtain ⟨j, lj, kj, hj, rfl, hRj, hoj, hbj, hkj, hr⟩ := hrel
        by_cases hlt : j < (File.ba W).size
        · have hji : (j : Int) < ((File.ba W).size : Int) := by omega
          have hjl : j < W.length := by rw [← HSZ.out]; exact hlt
          have hget : (File.ba W)[j]'hlt = W[j]'hjl := by simp [File.ba, ByteArray.getElem_eq_getElem_data]
          have hr' := hr.out
          rw [List.drop_eq_getElem_cons hjl, File.matchAll] at hr'
          generalize W[j]'hjl = a at hget hr'
          have HR := Lib.hid hr'
          have HGET := Lib.hid hget
          clear hr hr' hget hjl
          have hRg := hRj.lt
          go_wp2_with fail
          rw [HGET.out]
          refine (HONE.out a _).mono ?_
          rintro e w6 ⟨q6, rfl, hq6, hb6⟩
          have hR6 := hRj.below hb6
          have HT6 := Lib.hid (takeOne a q6 w.heap.size kj lj w6 hR6 (by omega) hq6)
          cases hta : File.takes (· == a) lj
          · rw [hta] at HT6 HR
            rw [rest_no hta, on_no hta] at HT6
            simp only [Bool.false_eq_true, if_false] at HR
            clear hta
            go_upto_region 19 with (go_at_call 33; refine HT6.out.mono ?_; rintro e w7 ⟨rfl, hR7, hO7⟩)
            obtain ⟨m0, m1, m2⟩ := hR7.agg
            have hfin : Below w.heap.size w w7.drew := ((hbj.next hb6 (Nat.le_refl _)).trans hO7.below).drew
            have HX : Hid (File.parse s = ([], kj, 8)) := Lib.hid (by rw [HP.out, ← HR.out]; rfl)
            go_region
            go_wp2_with fail
            go_ret3
            refine ⟨?_, hfin⟩
            rw [HX.out]
            exact ⟨_, rfl, Own.nil, fun _ => rfl⟩
          · rw [hta] at HT6 HR
            simp only [if_true] at HR
            have HRL := Lib.hid (rest_length (· == a) lj kj)
            clear hta
            go_wp2_with (go_at_call 33; refine HT6.out.mono ?_; rintro e w7 ⟨rfl, hR7, hO7⟩)
            have hb7 : Below w.heap.size w w7 := (hbj.next hb6 (Nat.le_refl _)).trans hO7.below
            have ho7 := Own.only (hoj.below hb6) hR6 (by decide) hO7
            go_roundw
            case rel => exact ⟨j + 1, _, _, by omega, by go_num, hR7, ho7, hb7, by have := HRL.out; omega, HR⟩
            case measure => simp [intOf]; omega
        · have hji : ¬ (j : Int) < ((File.ba W).size : Int) := by omega
          have hr' := hr.out
          rw [List.drop_eq_nil_of_le (by rw [← HSZ.out]; omega)] at hr'
          have hT : T = (true, lj, kj) := by rw [← hr']; rfl
          rw [hT] at HP
          dsimp only at HP
          clear hr hr' hT HTE
          obtain ⟨m0, m1, m2⟩ := hRj.agg
          cases lj with
          | nil =>
            have h1 := ba_em
            have HX : Hid (File.parse s = (out, 0, 0)) := Lib.hid (by rw [HP.out, if_pos ⟨rfl, rfl⟩])
            go_wp2_with fail
            go_ret3
            refine ⟨?_, hbj⟩
            rw [HX.out]
            exact ⟨_, rfl, hoj, fun h => absurd rfl h⟩
          | cons b r =>
            have h1 := ba_ne (b := b) (l := r)
            have HX : Hid (File.parse s = ([], kj, 8)) := Lib.hid (by rw [HP.out, if_neg (fun h => by cases h.2)])
            go_upto_region 22 with fail
            have hfin : Below w.heap.size w wr.drew := hbj.drew
            go_region
            go_wp2_with fail
            go_ret3
            refine ⟨?_, hfin⟩
            rw [HX.out]
            exact ⟨_, rfl, Own.nil, fun _ => rfl⟩
    · have h61i : ((c : Int) != 61) = true := by simp; omega
      have hn61 : ¬ File.nextB l = 61 := fun h => h61 (by rw [hc, h]; rfl)
      have hr' := hr.out
      rw [show 25 - out.length = (24 - out.length) + 1 by omega, File.lines, if_neg hn61] at hr'
      have hmw := hR.lt
      by_cases h24 : out.length = 24
      · rw [if_pos h24] at hr'
        have h24i : ((out.length : Int) == 24) = true := by simp; omega
        have h24j : ¬ (out.length : Int) < 24 := by omega
        have h24k : ¬ out.length < 24 := by omega
        cases hd : File.isDig (File.nextB l)
        · rw [hd] at HDC hr'
          have HX : Hid (File.parse s = ([], k, 11)) := Lib.hid (by rw [HP.out, ← hr']; rfl)
          clear hr hr' hn61 hc h24 hd
          go_upto_region 11 with (first
            | (go_at_call 34; refine (HNR.out _).mono ?_; rintro e w2 ⟨rfl, hb2⟩; first | have hR3 := hR2.below hb2; obtain ⟨m3, m4, m5⟩ := hR3.agg; have hb03 := hb02.next hb2 (Nat.le_refl _) | have hR2 := hR.below hb2; obtain ⟨m0, m1, m2⟩ := hR2.agg; have hb02 := hbw.next hb2 (Nat.le_refl _))
            | (go_at_call 35; refine (HDC.out _).mono ?_; rintro e w' ⟨rfl, rfl⟩))
          have hfin := hb03.drew
          go_region
          go_wp2_with fail
          go_ret3
          refine ⟨?_, hfin⟩
          rw [HX.out]
          exact ⟨_, rfl, Own.nil, fun _ => rfl⟩
        · rw [hd] at HDC hr'
          have HX : Hid (File.parse s = ([], k, 2)) := Lib.hid (by rw [HP.out, ← hr']; rfl)
          clear hr hr' hn61 hc h24 hd
          go_upto_region 6 with (first
            | (go_at_call 34; refine (HNR.out _).mono ?_; rintro e w2 ⟨rfl, hb2⟩; first | have hR3 := hR2.below hb2; obtain ⟨m3, m4, m5⟩ := hR3.agg; have hb03 := hb02.next hb2 (Nat.le_refl _) | have hR2 := hR.below hb2; obtain ⟨m0, m1, m2⟩ := hR2.agg; have hb02 := hbw.next hb2 (Nat.le_refl _))
            | (go_at_call 35; refine (HDC.out _).mono ?_; rintro e w' ⟨rfl, rfl⟩))
          have hfin := hb03.drew
          go_region
          go_wp2_with fail
          go_ret3
          refine ⟨?_, hfin⟩
          rw [HX.out]
          exact ⟨_, rfl, Own.nil, fun _ => rfl⟩
      · rw [if_neg h24] at hr'
        have h24i : ((out.length : Int) == 24) = false := by simp; omega
        have h24j : (out.length : Int) < 24 := by omega
        have h24l : out.length < 24 := by omega
        have HLN := Lib.hid (fun (W : World) (h : RD W w.heap.size l k) => line_spec w.heap.size k l W h (by omega))
        have hll := readLine_len l k
        cases hx : (File.readLine l k).1 with
        | none =>
          rw [hx] at HLN
          have HX : Hid (File.parse s = ([], (File.readLine l k).2.2, 11)) := Lib.hid (by rw [HP.out, ← hr', hx]; rfl)
          clear hr hr' hn61 hc h24 hx
          generalize (File.readLine l k).2 = q at *
          obtain ⟨l', k'⟩ := q
          dsimp only at HLN HX hll
          go_upto_region 11 with (first
            | (go_at_call 34; refine (HNR.out _).mono ?_; rintro e w2 ⟨rfl, hb2⟩; have hR2 := hR.below hb2; have hb02 := hbw.next hb2 (Nat.le_refl _))
            | (go_at_call 36; refine (HLN.out _ hR2).mono ?_; rintro e w3 ⟨rfl, hR3, hO3⟩; obtain ⟨m3, m4, m5⟩ := hR3.agg))
          have hfin := (hb02.trans hO3.below).drew
          go_region
          go_wp2_with fail
          go_ret3
          refine ⟨?_, hfin⟩
          rw [HX.out]
          exact ⟨_, rfl, Own.nil, fun _ => rfl⟩
        | some x =>
          rw [hx] at HLN hr'
          have hxg := readLine_good hx
          have HR : Hid (File.lines (25 - (out ++ [File.ba x]).length) (out ++ [File.ba x]) (File.readLine l k).2.1 (File.readLine l k).2.2 = L) := Lib.hid (by rw [← hr']; simp only [List.length_append, List.length_singleton]; rw [show 25 - (out.length + 1) = 24 - out.length by omega])
          have hgs := hgood.snoc h24l hxg.1 hxg.2
          clear hr hr' hn61 hc h24 hx
          generalize (File.readLine l k).2 = q at *
          obtain ⟨l', k'⟩ := q
          dsimp only at HLN HR hll
          go_wp2_with (first
            | (go_at_call 34; refine (HNR.out _).mono ?_; rintro e w2 ⟨rfl, hb2⟩; have hR2 := hR.below hb2; have hb02 := hbw.next hb2 (Nat.le_refl _); have ho2 := hown.below hb2)
            | (go_at_call 36; refine (HLN.out _ hR2).mono ?_; rintro e w3 ⟨rfl, hR3, hO3⟩; have ho3 := Own.only ho2 hR2 (by decide) hO3; have hb03 := hb02.trans hO3.below)
            | (at_builtin; refine wpApp1 strE tyStrs rfl _ _ rfl ho3 (File.ba x) rfl rfl rfl hb03.size (by unfold big; omega) ?_; intro v5 w5 hown5 hb5 hot5))
          have hR5 : RD w5 w.heap.size l' k' := (hot5 _ hR3.lt (Own.apartBlk ho3 hR3 (by decide))).trans hR3
          obtain ⟨A5, c5, rfl, _, _⟩ := hown5.form
          go_roundw
          case rel => exact ⟨out ++ [File.ba x], l', k', hown5, hgs, hR5, hb03.trans hb5, by omega, HR⟩
          case measure => simp [slLen]; omega
end Fl
end Go.Proofs.YtlpoiggdjggkiaaGreatDoor
end
