/- What the proof of the claim's theorem uses, part 5. The conditions stand in each statement. -/
import Derived.WalkKit
import Derived.WalkSpells
import Derived.WalkLawsBesides
import Derived.WalkSmall
import Derived.Lib.Hide
import Derived.Laws.OwnMore
import Derived.Laws.CopyOwn
import Derived.Deep.Draws
import Derived.Laws.AppendOwnNone
import Derived.Test.YtekkhnjepcebkaaGreatDoorProg
import Derived.Outline
import Derived.BigQuiet
import Derived.Deep.QuietTactic
import Derived.Lib.OthersKept
import Derived.Laws.EntriesVeiled
import Derived.Shelf.Strings.Builder1
import Derived.Shelf.LaysM
import Derived.Shelf.Strconv.Itoa3
import Derived.Orders
import Derived.RegionTactic
import Derived.BigRegion
import Derived.Deep.DeepCutAuto
import Derived.Maps.OwnRows
import Derived.Maps.GroupsBeside
import Derived.Deep.RegionHeld3
import Derived.Lib.SliceRun
import Derived.RangeFuncNested
import Derived.RangeFuncBound
import Derived.RangeFuncCalls
import Derived.RangeFuncLeaves
import Derived.Shelf.Abstract
import Derived.Shelf.RegionOpen
import Derived.OwnWalkIn
import Derived.TacticsInMore
import Derived.LoopNIn
import Derived.LoopIn
import Derived.Sort.QuietIn
import Derived.Deep.Quiet
import Derived.Maps.AppendAt
import Derived.Shelf.Bits.Mul64
import Derived.ArgAppend
import Derived.Lib.MinMax
import Derived.ChangeKeysEq
import Derived.WalkMore
import Derived.Laws.BytesArg
import Derived.Laws.IdiomStrings
import Derived.Shelf.Spec.SlicesInsert
import Derived.Shelf.Spec.SlicesInsertGrow
import Derived.Deep.RegionLaw
import Derived.Test.YtekkhnjepcebkaaGreatDoorCards
import Derived.Test.YtekkhnjepcebkaaGreatDoorTie
import Derived.ProofKit
import Derived.Deep.DeepHandedRow
import Derived.Lib.LaidTab
import Derived.Stop.LaidErr
import Derived.ChangeSame
import Derived.RowKit3
import Derived.ReadAgain
import Derived.OpenShut
import Derived.ChangeSlices
import Derived.SliceStrings
import Derived.Deep.Slices
import Derived.Deep.Fields
import Derived.Deep.CutBlock
import Derived.Test.YtekkhnjepcebkaaGreatDoorCh4
set_option linter.unusedVariables false
set_option linter.unusedSimpArgs false
section
namespace Go.Proofs.YtekkhnjepcebkaaGreatDoor
namespace File
/-- A row of the reference's table. -/
def preRow (a b : List ByteArray) (i : Nat) : List Int := (List.range (b.length + 1)).map fun j => ((pre a b i j : Nat) : Int)
theorem preRow_len (a b : List ByteArray) (i : Nat) : (preRow a b i).length = b.length + 1 := by simp [preRow]
theorem preRow_at (a b : List ByteArray) (i : Nat) {j : Nat} (h : j < b.length + 1) : (preRow a b i)[j]? = some ((pre a b i j : Nat) : Int) := by simp [preRow, List.getElem?_map, List.getElem?_range h]
theorem preRow_zero (a b : List ByteArray) : preRow a b 0 = List.replicate (b.length + 1) 0 := by
  apply List.ext_getElem?
  intro j
  by_cases h : j < b.length + 1
  · rw [preRow_at a b 0 h, List.getElem?_replicate, if_pos h, pre_zero]; rfl
  · rw [List.getElem?_eq_none (by rw [preRow_len]; omega), List.getElem?_eq_none (by simp; omega)]
end File
namespace Fl
open Go.RowKit
set_option maxRecDepth 100000
/-- A row that is under way. -/
def Run (a b : List ByteArray) (i j : Nat) (ys : List Int) : Prop := ys.length = b.length + 1 ∧ ∀ q, q ≤ j → q ≤ b.length → ys[q]? = some ((File.pre a b (i + 1) q : Nat) : Int)
theorem Run.start (a b : List ByteArray) (i : Nat) : Run a b i 0 (List.replicate (b.length + 1) 0) := ⟨List.length_replicate, fun q h _ => by
  have : q = 0 := by omega
  subst this
  rw [List.getElem?_replicate, if_pos (by omega), File.pre_none]; rfl⟩
theorem Run.next {a b : List ByteArray} {i j : Nat} {ys : List Int} (h : Run a b i j ys) {m : Int} (hj : j < b.length) (hm : m = ((File.pre a b (i + 1) (j + 1) : Nat) : Int)) : Run a b i (j + 1) (ys.set (j + 1) m) := by
  obtain ⟨h1, h2⟩ := h
  refine ⟨by rw [List.length_set]; exact h1, fun q hq hb => ?_⟩
  by_cases he : q = j + 1
  · subst he; rw [List.getElem?_set_self (by omega), hm]
  · rw [List.getElem?_set_ne (by omega)]; exact h2 q (by omega) hb
theorem Run.full {a b : List ByteArray} {i : Nat} {ys : List Int} (h : Run a b i b.length ys) : ys = File.preRow a b (i + 1) := by
  obtain ⟨h1, h2⟩ := h
  apply List.ext_getElem?
  intro q
  by_cases hq : q < b.length + 1
  · rw [h2 q (by omega) (by omega), File.preRow_at a b (i + 1) hq]
  · rw [List.getElem?_eq_none (by omega), List.getElem?_eq_none (by rw [File.preRow_len]; omega)]
set_option maxHeartbeats 8000000 in
theorem most_spec (A : Option Addr) (a : List ByteArray) (c : Nat) (A' : Option Addr) (b : List ByteArray) (c' : Nat) (w : World) (ha : a.length ≤ 24) (hb : b.length ≤ 24) (hsa : Sl strE w A a) (hsb : Sl strE w A' b) :
    Calls Tryz.prog 145 #[.slice A a.length c, .slice A' b.length c'] w fun e w' => e = .returned (iv (File.lcs a b : Nat)) ∧ Below w.heap.size w w' := by
  go_enter Tryz.func145, Tryz.ntmps145
  go_wp2_with (at_make; refine wpMakeN intE tyInts 0 zero_int rfl _ _ rfl (b.length + 1) rfl rfl (by unfold big; omega) ?_; intro w1 hown1 hb1)
  have hb1' := hb1
  go_loopw [5, 6, 7, 8] (fun u i _ _ wr => ∃ (k g : Nat), k ≤ a.length ∧ i = iv k ∧ u = .slice (some ⟨g, 0, none⟩) (b.length + 1) (b.length + 1) ∧ Hid (Own intE 3 w.heap.size wr (.slice (some ⟨g, 0, none⟩) (b.length + 1) (b.length + 1)) (File.preRow a b k)) ∧ Below w.heap.size w wr) (fun _ i _ _ _ => a.length - (intOf i).toNat)
  case atStart => exact ⟨0, w.heap.size, by omega, rfl, rfl, Lib.hid (by rw [File.preRow_zero]; exact hown1), hb1⟩
  case round =>
    obtain ⟨i, g, hi, rfl, rfl, HO, hbr⟩ := hrel
    by_cases hlt : i < a.length
    · have hii : (i : Int) < (a.length : Int) := by omega
      go_wp2_with (at_make; refine wpMakeN intE tyInts 0 zero_int rfl _ _ rfl (b.length + 1) rfl rfl (by unfold big; omega) ?_; intro w4 hown4 hb4)
      have HO4 := Lib.hid (HO.out.below hb4)
      have hgl := Own.lt HO.out g rfl
      have hb04 := hbr.next hb4 (Nat.le_refl _)
      have hown4' := Lib.hid hown4
      generalize wr.heap.size = g2 at *
      have hg2 := (Own.lt hown4 g2 rfl).2
      clear hown1 hb1' hown4 HO hb4 hb1
      go_loopw [8] (fun v wx => ∃ (j : Nat) (ys : List Int), j ≤ b.length ∧ v = iv j ∧ Hid (Run a b i j ys) ∧ Hid (Own intE 3 g2 wx (.slice (some ⟨g2, 0, none⟩) (b.length + 1) (b.length + 1)) ys) ∧ Only g2 w4 wx) (fun v _ => b.length - (intOf v).toNat)
      case atStart => exact ⟨0, _, by omega, rfl, Lib.hid (Run.start a b i), hown4', Only.refl _ _⟩
      case round =>
        obtain ⟨j, ys, hj, rfl, HR, HY, hon⟩ := hrel
        have hbx := hb04.trans (hon.below.mono (by have := hb04.size; omega))
        by_cases hjl : j < b.length
        · have hjj : (j : Int) < (b.length : Int) := by omega
          have hOg := Only.own hon HO4.out (by simp [Value.ownBlock]; omega)
          obtain ⟨X0, hX0⟩ : ∃ X0, X0 = File.pre a b i j := ⟨_, rfl⟩
          obtain ⟨X1, hX1⟩ : ∃ X1, X1 = File.pre a b i (j + 1) := ⟨_, rfl⟩
          obtain ⟨Y0, hY0⟩ : ∃ Y0, Y0 = File.pre a b (i + 1) j := ⟨_, rfl⟩
          obtain ⟨_, _, v0, e0, _, gl0, hv0, hc0, _⟩ := ownI hOg (k := j) (by rw [File.preRow_len]; omega)
          obtain ⟨_, _, v1, e1, _, _, hv1, hc1, _⟩ := ownI hOg (k := j + 1) (by rw [File.preRow_len]; omega)
          rw [File.preRow_at a b i (by omega), ← hX0] at hv0
          rw [File.preRow_at a b i (by omega), ← hX1] at hv1
          have hyl : ys.length = b.length + 1 := HR.out.1
          obtain ⟨_, _, v2, e2, _, gl2, hv2, hc2, hf2⟩ := ownI HY.out (k := j) (by omega)
          rw [HR.out.2 j (Nat.le_refl _) (by omega), ← hY0] at hv2
          injection e0 with e0 _ _
          injection e0 with e0
          injection e0 with e0 _ _
          injection e1 with e1 _ _
          injection e1 with e1
          injection e1 with e1 _ _
          injection e2 with e2 _ _
          injection e2 with e2
          injection e2 with e2 _ _
          subst e0 e1 e2
          have hv0 := (Option.some.inj hv0).symm
          have hv1 := (Option.some.inj hv1).symm
          have hv2 := (Option.some.inj hv2).symm
          subst hv0 hv1 hv2
          have HX : Hid (∀ x, Below wr.heap.size wr x → x.cell? ⟨g, j, none⟩ = some (iv (X0 : Int)) ∧ x.cell? ⟨g, j + 1, none⟩ = some (iv (X1 : Int)) ∧ x.cell? ⟨g2, j, none⟩ = some (iv (Y0 : Int))) := Lib.hid fun x h =>
            ⟨(h.cell (p := ⟨g, j, none⟩) gl0).trans hc0, (h.cell (p := ⟨g, j + 1, none⟩) gl0).trans hc1, (h.cell (p := ⟨g2, j, none⟩) gl2).trans hc2⟩
          have hXb : X0 ≤ 24 ∧ X1 ≤ 24 ∧ Y0 ≤ 25 := ⟨by rw [hX0]; have := File.pre_le a b i j; omega, by rw [hX1]; have := File.pre_le a b i (j + 1); omega, by rw [hY0]; have := File.pre_le a b (i + 1) j; omega⟩
          obtain ⟨ba, oa, sa, rfl, hba, hxa, hca⟩ := Sl.atS (hsa.below hbx) hlt
          obtain ⟨bb, ob, sb, rfl, hbb, hxb, hcb⟩ := Sl.atS (hsb.below hbx) hjl
          have HST := File.pre_step hxa hxb
          rw [← hX0, ← hX1, ← hY0] at HST
          have HST := Lib.hid HST
          have HSA : Hid (∀ x, Below w.heap.size w x → x.cell? ⟨ba, oa + i, none⟩ = some (.string sa)) := Lib.hid fun W h => by
            obtain ⟨_, _, s2, hA', _, hx2, hc2⟩ := Sl.atS (hsa.below h) hlt
            injection hA' with hA'
            injection hA' with e1 e2 _
            subst e1; subst e2
            rw [hxa] at hx2
            rw [hc2, Option.some.inj hx2]
          have HSB : Hid (∀ x, Below w.heap.size w x → x.cell? ⟨bb, ob + j, none⟩ = some (.string sb)) := Lib.hid fun W h => by
            obtain ⟨_, _, s2, hA', _, hx2, hc2⟩ := Sl.atS (hsb.below h) hjl
            injection hA' with hA'
            injection hA' with e1 e2 _
            subst e1; subst e2
            rw [hxb] at hx2
            rw [hc2, Option.some.inj hx2]
          obtain ⟨q, hq⟩ : ∃ q, (sa.toList == sb.toList) = q := ⟨_, rfl⟩
          have HQ : Hid (q = decide (sa = sb)) := Lib.hid (by rw [← hq, str_eq])
          have hsx := hon.below.size
          have ewj : IntKind.i64.wrap ((j : Int) + 1) = (j : Int) + 1 := IntWalk.i64_in _ (by omega)
          have ewx : IntKind.i64.wrap ((X0 : Int) + 1) = (X0 : Int) + 1 := IntWalk.i64_in _ (by omega)
          clear hc0 hc1 hc2 hOg hX0 hX1 hY0 hxa hxb hca hcb hown4'
          go_upto_region 9 with fail
          refine wp_free_lit (by kernel_rfl) 14 (by kernel_rfl) (by kernel_rfl) (by decide) (fun nR x => Below wr.heap.size wr x) (fun x x' => Below x.heap.size x x')
            [fun _ u _ => u = .slice (some ⟨g2, 0, none⟩) (b.length + 1) (b.length + 1),
             fun _ u _ => u = iv (j : Int),
             fun _ u _ => u = iv ((j : Int) + 1),
             fun _ u _ => u = .slice (some ⟨g, 0, none⟩) (b.length + 1) (b.length + 1),
             fun _ u _ => u = iv (j : Int),
             fun _ u _ => u = iv ((j : Int) + 1),
             fun _ u _ => u = .pointer (some ⟨g, j + 1, none⟩),
             fun _ u _ => u = iv (X1 : Int),
             fun _ u _ => u = .slice (some ⟨g2, 0, none⟩) (b.length + 1) (b.length + 1),
             fun _ u _ => u = iv (j : Int),
             fun _ u _ => u = .pointer (some ⟨g2, j, none⟩),
             fun _ u _ => u = iv (Y0 : Int),
             fun _ u _ => u = iv (max (X1 : Int) (Y0 : Int)),
             fun _ u _ => u = .pointer (some ⟨g2, j + 1, none⟩)]
            (Below.refl _ wr).drew ?_ ?_
          · simp only [List.take_succ_cons, List.take_zero, HopL]
            refine ⟨?_, ?_, ?_, ?_, ?_, ?_, ?_, ?_, ?_, ?_, ?_, ?_, ?_, ?_, trivial⟩
            · refine ⟨fun _ _ _ _ _ h => h, fun _ _ _ _ h _ => h, fun v nR x hnR hR hk => ?_⟩
              simp only [List.take_succ_cons, List.take_zero, frameF, Act.put, List.setIfInBounds_toArray, List.set_cons_zero, List.set_cons_succ]
              exact stepF_val (by first | rfl | simp [Region.wanted, yielded, *]) (by go_simp <;> omega) ⟨rfl, Below.refl _ _, hR⟩
            · refine ⟨fun _ _ _ _ _ h => h, fun _ _ _ _ h _ => h, fun v nR x hnR hR hk => ?_⟩
              simp only [List.take_succ_cons, List.take_zero, frameF, Act.put, List.setIfInBounds_toArray, List.set_cons_zero, List.set_cons_succ]
              exact stepF_val (by first | rfl | simp [Region.wanted, yielded, *]) (by go_simp <;> omega) ⟨rfl, Below.refl _ _, hR⟩
            · refine ⟨fun _ _ _ _ _ h => h, fun _ _ _ _ h _ => h, fun v nR x hnR hR hk => ?_⟩
              have h1 : v 1 = iv (j : Int) := hk 1 (by kernel_rfl)
              simp only [List.take_succ_cons, List.take_zero, frameF, Act.put, List.setIfInBounds_toArray, List.set_cons_zero, List.set_cons_succ]
              exact stepF_val (by first | rfl | simp [Region.wanted, yielded, *]) (by go_simp <;> omega) ⟨rfl, Below.refl _ _, hR⟩
            · refine ⟨fun _ _ _ _ _ h => h, fun _ _ _ _ h _ => h, fun v nR x hnR hR hk => ?_⟩
              simp only [List.take_succ_cons, List.take_zero, frameF, Act.put, List.setIfInBounds_toArray, List.set_cons_zero, List.set_cons_succ]
              exact stepF_val (by first | rfl | simp [Region.wanted, yielded, *]) (by go_simp <;> omega) ⟨rfl, Below.refl _ _, hR⟩
            · refine ⟨fun _ _ _ _ _ h => h, fun _ _ _ _ h _ => h, fun v nR x hnR hR hk => ?_⟩
              simp only [List.take_succ_cons, List.take_zero, frameF, Act.put, List.setIfInBounds_toArray, List.set_cons_zero, List.set_cons_succ]
              exact stepF_val (by first | rfl | simp [Region.wanted, yielded, *]) (by go_simp <;> omega) ⟨rfl, Below.refl _ _, hR⟩
            · refine ⟨fun _ _ _ _ _ h => h, fun _ _ _ _ h _ => h, fun v nR x hnR hR hk => ?_⟩
              have h4 : v 4 = iv (j : Int) := hk 4 (by kernel_rfl)
              simp only [List.take_succ_cons, List.take_zero, frameF, Act.put, List.setIfInBounds_toArray, List.set_cons_zero, List.set_cons_succ]
              exact stepF_val (by first | rfl | simp [Region.wanted, yielded, *]) (by go_simp <;> omega) ⟨rfl, Below.refl _ _, hR⟩
            · refine ⟨fun _ _ _ _ _ h => h, fun _ _ _ _ h _ => h, fun v nR x hnR hR hk => ?_⟩
              have h3 : v 3 = .slice (some ⟨g, 0, none⟩) (b.length + 1) (b.length + 1) := hk 3 (by kernel_rfl)
              have h5 : v 5 = iv ((j : Int) + 1) := hk 5 (by kernel_rfl)
              simp only [List.take_succ_cons, List.take_zero, frameF, Act.put, List.setIfInBounds_toArray, List.set_cons_zero, List.set_cons_succ]
              exact stepF_val (by first | rfl | simp [Region.wanted, yielded, *]) (by go_simp <;> omega) ⟨rfl, Below.refl _ _, hR⟩
            · refine ⟨fun _ _ _ _ _ h => h, fun _ _ _ _ h _ => h, fun v nR x hnR hR hk => ?_⟩
              have h6 : v 6 = .pointer (some ⟨g, j + 1, none⟩) := hk 6 (by kernel_rfl)
              have g1 := (HX.out x hR).2.1
              simp only [List.take_succ_cons, List.take_zero, frameF, Act.put, List.setIfInBounds_toArray, List.set_cons_zero, List.set_cons_succ]
              exact stepF_val (by first | rfl | simp [Region.wanted, yielded, *]) (by go_simp <;> omega) ⟨rfl, Below.refl _ _, hR⟩
            · refine ⟨fun _ _ _ _ _ h => h, fun _ _ _ _ h _ => h, fun v nR x hnR hR hk => ?_⟩
              simp only [List.take_succ_cons, List.take_zero, frameF, Act.put, List.setIfInBounds_toArray, List.set_cons_zero, List.set_cons_succ]
              exact stepF_val (by first | rfl | simp [Region.wanted, yielded, *]) (by go_simp <;> omega) ⟨rfl, Below.refl _ _, hR⟩
            · refine ⟨fun _ _ _ _ _ h => h, fun _ _ _ _ h _ => h, fun v nR x hnR hR hk => ?_⟩
              simp only [List.take_succ_cons, List.take_zero, frameF, Act.put, List.setIfInBounds_toArray, List.set_cons_zero, List.set_cons_succ]
              exact stepF_val (by first | rfl | simp [Region.wanted, yielded, *]) (by go_simp <;> omega) ⟨rfl, Below.refl _ _, hR⟩
            · refine ⟨fun _ _ _ _ _ h => h, fun _ _ _ _ h _ => h, fun v nR x hnR hR hk => ?_⟩
              have h8 : v 8 = .slice (some ⟨g2, 0, none⟩) (b.length + 1) (b.length + 1) := hk 8 (by kernel_rfl)
              have h9 : v 9 = iv (j : Int) := hk 9 (by kernel_rfl)
              simp only [List.take_succ_cons, List.take_zero, frameF, Act.put, List.setIfInBounds_toArray, List.set_cons_zero, List.set_cons_succ]
              exact stepF_val (by first | rfl | simp [Region.wanted, yielded, *]) (by go_simp <;> omega) ⟨rfl, Below.refl _ _, hR⟩
            · refine ⟨fun _ _ _ _ _ h => h, fun _ _ _ _ h _ => h, fun v nR x hnR hR hk => ?_⟩
              have h10 : v 10 = .pointer (some ⟨g2, j, none⟩) := hk 10 (by kernel_rfl)
              have g1 := (HX.out x hR).2.2
              simp only [List.take_succ_cons, List.take_zero, frameF, Act.put, List.setIfInBounds_toArray, List.set_cons_zero, List.set_cons_succ]
              exact stepF_val (by first | rfl | simp [Region.wanted, yielded, *]) (by go_simp <;> omega) ⟨rfl, Below.refl _ _, hR⟩
            · refine ⟨fun _ _ _ _ _ h => h, fun _ _ _ _ h _ => h, fun v nR x hnR hR hk => ?_⟩
              have h7 : v 7 = iv (X1 : Int) := hk 7 (by kernel_rfl)
              have h11 : v 11 = iv (Y0 : Int) := hk 11 (by kernel_rfl)
              simp only [List.take_succ_cons, List.take_zero, frameF, Act.put, List.setIfInBounds_toArray, List.set_cons_zero, List.set_cons_succ]
              exact stepF_val (by first | rfl | simp [Region.wanted, yielded, *]) (by go_simp <;> omega) ⟨rfl, Below.refl _ _, hR⟩
            · refine ⟨fun _ _ _ _ _ h => h, fun _ _ _ _ h _ => h, fun v nR x hnR hR hk => ?_⟩
              have h0 : v 0 = .slice (some ⟨g2, 0, none⟩) (b.length + 1) (b.length + 1) := hk 0 (by kernel_rfl)
              have h2 : v 2 = iv ((j : Int) + 1) := hk 2 (by kernel_rfl)
              simp only [List.take_succ_cons, List.take_zero, frameF, Act.put, List.setIfInBounds_toArray, List.set_cons_zero, List.set_cons_succ]
              exact stepF_val (by first | rfl | simp [Region.wanted, yielded, *]) (by go_simp <;> omega) ⟨rfl, Below.refl _ _, hR⟩
          · intro v nR x1 hnR hR hall
            have h12 : v 12 = iv (max (X1 : Int) (Y0 : Int)) := hall 12 (by decide)
            have h13 : v 13 = .pointer (some ⟨g2, j + 1, none⟩) := hall 13 (by decide)
            clear hall hnR
            simp only [List.drop_succ_cons, List.drop_zero, List.take_succ_cons, List.take_zero, frameF, Act.put, List.setIfInBounds_toArray, List.set_cons_zero, List.set_cons_succ, Nat.zero_add, Nat.reduceAdd, h12, h13]
            have hY1 := HY.out.below hR
            have hY2 := setI hY1 (k := j + 1) (by omega) (max (X1 : Int) (Y0 : Int))
            have hf1 : ∀ o, x1.frozen? ⟨g2, o, none⟩ = false := by
              obtain ⟨_, _, _, e3, _, _, _, _, hf3⟩ := ownI hY1 (k := j) (by omega)
              injection e3 with e3 _ _
              injection e3 with e3
              injection e3 with e3 _ _
              subst e3
              exact hf3
            have hg1 : g2 < x1.heap.size := Nat.lt_of_lt_of_le gl2 hR.size
            have hc1 : ∃ u, x1.cell? ⟨g2, j + 1, none⟩ = some u := by
              obtain ⟨_, _, u, e3, _, _, _, hcc, _⟩ := ownI hY1 (k := j + 1) (by omega)
              injection e3 with e3 _ _
              injection e3 with e3
              injection e3 with e3 _ _
              subst e3
              exact ⟨_, hcc⟩
            obtain ⟨u1, hc1⟩ := hc1
            have hon1 : Only g2 w4 (x1.setCell ⟨g2, j + 1, none⟩ (iv (max (X1 : Int) (Y0 : Int)))) := (hon.next hR (by omega)).trans (Only.set_ g2 (j + 1) _ _)
            have hX2 : Hid (∀ x, Below (x1.setCell ⟨g2, j + 1, none⟩ (iv (max (X1 : Int) (Y0 : Int)))).heap.size (x1.setCell ⟨g2, j + 1, none⟩ (iv (max (X1 : Int) (Y0 : Int)))) x → x.cell? ⟨g, j, none⟩ = some (iv (X0 : Int))) := Lib.hid fun x h => by
              rw [h.cell (p := ⟨g, j, none⟩) (by simp [World.setCell]; have := hR.size; omega), World.cell?_of_block (w := x1) (Below.heap_setCell x1 ⟨g2, j + 1, none⟩ _ g (by simp; omega))]
              exact (HX.out x1 hR).1
            have hbx1 : Below w.heap.size w (x1.setCell ⟨g2, j + 1, none⟩ (iv (max (X1 : Int) (Y0 : Int)))) := hb04.trans (hon1.below.mono (by have := hb04.size; omega))
            have hl1 : g2 < (x1.setCell ⟨g2, j + 1, none⟩ (iv (max (X1 : Int) (Y0 : Int)))).heap.size := by simp [World.setCell]; exact hg1
            have HX2 := hX2
            clear hX2 HX hY1
            obtain ⟨M, hM⟩ : ∃ M : Nat, max (X1 : Int) (Y0 : Int) = (M : Int) := ⟨max X1 Y0, by omega⟩
            rw [hM] at hY2 hon1 HX2 hbx1 hl1
            rw [hM]
            have HM : Hid (M = max X1 Y0) := Lib.hid (by omega)
            have hMb : M ≤ 25 := by omega
            clear hM
            have HY2 := Lib.hid hY2
            clear hY2 HY
            go_upto_region 10 with fail
            generalize x1.setCell ⟨g2, j + 1, none⟩ (iv (M : Int)) = w5 at *
            refine wp_free_lit (by kernel_rfl) 9 (by kernel_rfl) (by kernel_rfl) (by decide) (fun nR x => Below w5.heap.size w5 x) (fun x x' => Below x.heap.size x x')
              [fun _ u _ => u = .slice (some ⟨ba, oa, none⟩) a.length c,
               fun _ u _ => u = iv (i : Int),
               fun _ u _ => u = .pointer (some ⟨ba, oa + i, none⟩),
               fun _ u _ => u = .string sa,
               fun _ u _ => u = .slice (some ⟨bb, ob, none⟩) b.length c',
               fun _ u _ => u = iv (j : Int),
               fun _ u _ => u = .pointer (some ⟨bb, ob + j, none⟩),
               fun _ u _ => u = .string sb,
               fun _ u _ => u = .bool q]
              (Below.refl _ w5).drew ?_ ?_
            · simp only [List.take_succ_cons, List.take_zero, HopL]
              refine ⟨?_, ?_, ?_, ?_, ?_, ?_, ?_, ?_, ?_, trivial⟩
              · refine ⟨fun _ _ _ _ _ h => h, fun _ _ _ _ h _ => h, fun v nR x hnR hR hk => ?_⟩
                simp only [List.take_succ_cons, List.take_zero, frameF, Act.put, List.setIfInBounds_toArray, List.set_cons_zero, List.set_cons_succ]
                exact stepF_val (by first | rfl | simp [Region.wanted, yielded, *]) (by go_simp <;> omega) ⟨rfl, Below.refl _ _, hR⟩
              · refine ⟨fun _ _ _ _ _ h => h, fun _ _ _ _ h _ => h, fun v nR x hnR hR hk => ?_⟩
                simp only [List.take_succ_cons, List.take_zero, frameF, Act.put, List.setIfInBounds_toArray, List.set_cons_zero, List.set_cons_succ]
                exact stepF_val (by first | rfl | simp [Region.wanted, yielded, *]) (by go_simp <;> omega) ⟨rfl, Below.refl _ _, hR⟩
              · refine ⟨fun _ _ _ _ _ h => h, fun _ _ _ _ h _ => h, fun v nR x hnR hR hk => ?_⟩
                have h0 : v 0 = .slice (some ⟨ba, oa, none⟩) a.length c := hk 0 (by kernel_rfl)
                have h1 : v 1 = iv (i : Int) := hk 1 (by kernel_rfl)
                simp only [List.take_succ_cons, List.take_zero, frameF, Act.put, List.setIfInBounds_toArray, List.set_cons_zero, List.set_cons_succ]
                exact stepF_val (by first | rfl | simp [Region.wanted, yielded, *]) (by go_simp <;> omega) ⟨rfl, Below.refl _ _, hR⟩
              · refine ⟨fun _ _ _ _ _ h => h, fun _ _ _ _ h _ => h, fun v nR x hnR hR hk => ?_⟩
                have h2 : v 2 = .pointer (some ⟨ba, oa + i, none⟩) := hk 2 (by kernel_rfl)
                have g1 := HSA.out x (hbx1.next hR (Nat.le_refl _))
                simp only [List.take_succ_cons, List.take_zero, frameF, Act.put, List.setIfInBounds_toArray, List.set_cons_zero, List.set_cons_succ]
                exact stepF_val (by first | rfl | simp [Region.wanted, yielded, *]) (by go_simp <;> omega) ⟨rfl, Below.refl _ _, hR⟩
              · refine ⟨fun _ _ _ _ _ h => h, fun _ _ _ _ h _ => h, fun v nR x hnR hR hk => ?_⟩
                simp only [List.take_succ_cons, List.take_zero, frameF, Act.put, List.setIfInBounds_toArray, List.set_cons_zero, List.set_cons_succ]
                exact stepF_val (by first | rfl | simp [Region.wanted, yielded, *]) (by go_simp <;> omega) ⟨rfl, Below.refl _ _, hR⟩
              · refine ⟨fun _ _ _ _ _ h => h, fun _ _ _ _ h _ => h, fun v nR x hnR hR hk => ?_⟩
                simp only [List.take_succ_cons, List.take_zero, frameF, Act.put, List.setIfInBounds_toArray, List.set_cons_zero, List.set_cons_succ]
                exact stepF_val (by first | rfl | simp [Region.wanted, yielded, *]) (by go_simp <;> omega) ⟨rfl, Below.refl _ _, hR⟩
              · refine ⟨fun _ _ _ _ _ h => h, fun _ _ _ _ h _ => h, fun v nR x hnR hR hk => ?_⟩
                have h4 : v 4 = .slice (some ⟨bb, ob, none⟩) b.length c' := hk 4 (by kernel_rfl)
                have h5 : v 5 = iv (j : Int) := hk 5 (by kernel_rfl)
                simp only [List.take_succ_cons, List.take_zero, frameF, Act.put, List.setIfInBounds_toArray, List.set_cons_zero, List.set_cons_succ]
                exact stepF_val (by first | rfl | simp [Region.wanted, yielded, *]) (by go_simp <;> omega) ⟨rfl, Below.refl _ _, hR⟩
              · refine ⟨fun _ _ _ _ _ h => h, fun _ _ _ _ h _ => h, fun v nR x hnR hR hk => ?_⟩
                have h6 : v 6 = .pointer (some ⟨bb, ob + j, none⟩) := hk 6 (by kernel_rfl)
                have g1 := HSB.out x (hbx1.next hR (Nat.le_refl _))
                simp only [List.take_succ_cons, List.take_zero, frameF, Act.put, List.setIfInBounds_toArray, List.set_cons_zero, List.set_cons_succ]
                exact stepF_val (by first | rfl | simp [Region.wanted, yielded, *]) (by go_simp <;> omega) ⟨rfl, Below.refl _ _, hR⟩
              · refine ⟨fun _ _ _ _ _ h => h, fun _ _ _ _ h _ => h, fun v nR x hnR hR hk => ?_⟩
                have h3 : v 3 = .string sa := hk 3 (by kernel_rfl)
                have h7 : v 7 = .string sb := hk 7 (by kernel_rfl)
                simp only [List.take_succ_cons, List.take_zero, frameF, Act.put, List.setIfInBounds_toArray, List.set_cons_zero, List.set_cons_succ]
                exact stepF_val (by first | rfl | simp [Region.wanted, yielded, *]) (by go_simp <;> omega) ⟨rfl, Below.refl _ _, hR⟩
            · intro v nR x2 hnR hR hall
              have h8 : v 8 = .bool q := hall 8 (by decide)
              clear hall hnR
              simp only [List.drop_succ_cons, List.drop_zero, List.take_succ_cons, List.take_zero, frameF, Act.put, List.setIfInBounds_toArray, List.set_cons_zero, List.set_cons_succ, Nat.zero_add, Nat.reduceAdd, h8]
              have hon2 := hon1.next hR (by omega)
              have HY3 := Lib.hid (HY2.out.below hR)
              have HX3 : Hid (∀ x, Below x2.heap.size x2 x → x.cell? ⟨g, j, none⟩ = some (iv (X0 : Int))) := Lib.hid fun x h => HX2.out x (hR.next h (Nat.le_refl _))
              clear HX2 HY2
              have hl2 : g2 < x2.heap.size := Nat.lt_of_lt_of_le hl1 hR.size
              have hysl : (ys.set (j + 1) (M : Int)).length = (b.length + 1) := by rw [List.length_set]; exact hyl
              cases q
              · have HR2 : Hid (Run a b i (j + 1) (ys.set (j + 1) (M : Int))) := Lib.hid (HR.out.next hjl (by
                  have h5 := HQ.out
                  have h6 := HST.out
                  rw [if_neg (by simpa using h5)] at h6
                  have := HM.out
                  omega))
                go_wp2_with fail
                go_roundw
                case rel => exact ⟨j + 1, _, by omega, by go_num, HR2, HY3, hon2⟩
                case measure => simp [intOf]; omega
              · have HZ : Hid (∀ x, Below x2.heap.size x2 x → x.cell? ⟨g2, j + 1, none⟩ = some (iv (M : Int))) := Lib.hid fun x h => by
                  obtain ⟨_, _, v3, e3, _, gl3, hv3, hc3, _⟩ := ownI HY3.out (k := j + 1) (by omega)
                  injection e3 with e3 _ _
                  injection e3 with e3
                  injection e3 with e3 _ _
                  subst e3
                  rw [List.getElem?_set_self (by omega)] at hv3
                  have hv3 := (Option.some.inj hv3).symm
                  subst hv3
                  exact (h.cell (p := ⟨g2, j + 1, none⟩) gl3).trans hc3
                go_upto_region 11 with fail
                refine wp_free_lit (by kernel_rfl) 15 (by kernel_rfl) (by kernel_rfl) (by decide) (fun nR x => Below x2.heap.size x2 x) (fun x x' => Below x.heap.size x x')
                  [fun _ u _ => u = .slice (some ⟨g2, 0, none⟩) (b.length + 1) (b.length + 1),
                   fun _ u _ => u = iv (j : Int),
                   fun _ u _ => u = iv ((j : Int) + 1),
                   fun _ u _ => u = .slice (some ⟨g2, 0, none⟩) (b.length + 1) (b.length + 1),
                   fun _ u _ => u = iv (j : Int),
                   fun _ u _ => u = iv ((j : Int) + 1),
                   fun _ u _ => u = .pointer (some ⟨g2, j + 1, none⟩),
                   fun _ u _ => u = iv (M : Int),
                   fun _ u _ => u = .slice (some ⟨g, 0, none⟩) (b.length + 1) (b.length + 1),
                   fun _ u _ => u = iv (j : Int),
                   fun _ u _ => u = .pointer (some ⟨g, j, none⟩),
                   fun _ u _ => u = iv (X0 : Int),
                   fun _ u _ => u = iv ((X0 : Int) + 1),
                   fun _ u _ => u = iv (max (M : Int) ((X0 : Int) + 1)),
                   fun _ u _ => u = .pointer (some ⟨g2, j + 1, none⟩)]
                  (Below.refl _ x2).drew ?_ ?_
                · simp only [List.take_succ_cons, List.take_zero, HopL]
                  refine ⟨?_, ?_, ?_, ?_, ?_, ?_, ?_, ?_, ?_, ?_, ?_, ?_, ?_, ?_, ?_, trivial⟩
                  · refine ⟨fun _ _ _ _ _ h => h, fun _ _ _ _ h _ => h, fun v nR x hnR hR hk => ?_⟩
                    simp only [List.take_succ_cons, List.take_zero, frameF, Act.put, List.setIfInBounds_toArray, List.set_cons_zero, List.set_cons_succ]
                    exact stepF_val (by first | rfl | simp [Region.wanted, yielded, *]) (by go_simp <;> omega) ⟨rfl, Below.refl _ _, hR⟩
                  · refine ⟨fun _ _ _ _ _ h => h, fun _ _ _ _ h _ => h, fun v nR x hnR hR hk => ?_⟩
                    simp only [List.take_succ_cons, List.take_zero, frameF, Act.put, List.setIfInBounds_toArray, List.set_cons_zero, List.set_cons_succ]
                    exact stepF_val (by first | rfl | simp [Region.wanted, yielded, *]) (by go_simp <;> omega) ⟨rfl, Below.refl _ _, hR⟩
                  · refine ⟨fun _ _ _ _ _ h => h, fun _ _ _ _ h _ => h, fun v nR x hnR hR hk => ?_⟩
                    have h1 : v 1 = iv (j : Int) := hk 1 (by kernel_rfl)
                    simp only [List.take_succ_cons, List.take_zero, frameF, Act.put, List.setIfInBounds_toArray, List.set_cons_zero, List.set_cons_succ]
                    exact stepF_val (by first | rfl | simp [Region.wanted, yielded, *]) (by go_simp <;> omega) ⟨rfl, Below.refl _ _, hR⟩
                  · refine ⟨fun _ _ _ _ _ h => h, fun _ _ _ _ h _ => h, fun v nR x hnR hR hk => ?_⟩
                    simp only [List.take_succ_cons, List.take_zero, frameF, Act.put, List.setIfInBounds_toArray, List.set_cons_zero, List.set_cons_succ]
                    exact stepF_val (by first | rfl | simp [Region.wanted, yielded, *]) (by go_simp <;> omega) ⟨rfl, Below.refl _ _, hR⟩
                  · refine ⟨fun _ _ _ _ _ h => h, fun _ _ _ _ h _ => h, fun v nR x hnR hR hk => ?_⟩
                    simp only [List.take_succ_cons, List.take_zero, frameF, Act.put, List.setIfInBounds_toArray, List.set_cons_zero, List.set_cons_succ]
                    exact stepF_val (by first | rfl | simp [Region.wanted, yielded, *]) (by go_simp <;> omega) ⟨rfl, Below.refl _ _, hR⟩
                  · refine ⟨fun _ _ _ _ _ h => h, fun _ _ _ _ h _ => h, fun v nR x hnR hR hk => ?_⟩
                    have h4 : v 4 = iv (j : Int) := hk 4 (by kernel_rfl)
                    simp only [List.take_succ_cons, List.take_zero, frameF, Act.put, List.setIfInBounds_toArray, List.set_cons_zero, List.set_cons_succ]
                    exact stepF_val (by first | rfl | simp [Region.wanted, yielded, *]) (by go_simp <;> omega) ⟨rfl, Below.refl _ _, hR⟩
                  · refine ⟨fun _ _ _ _ _ h => h, fun _ _ _ _ h _ => h, fun v nR x hnR hR hk => ?_⟩
                    have h3 : v 3 = .slice (some ⟨g2, 0, none⟩) (b.length + 1) (b.length + 1) := hk 3 (by kernel_rfl)
                    have h5 : v 5 = iv ((j : Int) + 1) := hk 5 (by kernel_rfl)
                    simp only [List.take_succ_cons, List.take_zero, frameF, Act.put, List.setIfInBounds_toArray, List.set_cons_zero, List.set_cons_succ]
                    exact stepF_val (by first | rfl | simp [Region.wanted, yielded, *]) (by go_simp <;> omega) ⟨rfl, Below.refl _ _, hR⟩
                  · refine ⟨fun _ _ _ _ _ h => h, fun _ _ _ _ h _ => h, fun v nR x hnR hR hk => ?_⟩
                    have h6 : v 6 = .pointer (some ⟨g2, j + 1, none⟩) := hk 6 (by kernel_rfl)
                    have g1 := HZ.out x hR
                    simp only [List.take_succ_cons, List.take_zero, frameF, Act.put, List.setIfInBounds_toArray, List.set_cons_zero, List.set_cons_succ]
                    exact stepF_val (by first | rfl | simp [Region.wanted, yielded, *]) (by go_simp <;> omega) ⟨rfl, Below.refl _ _, hR⟩
                  · refine ⟨fun _ _ _ _ _ h => h, fun _ _ _ _ h _ => h, fun v nR x hnR hR hk => ?_⟩
                    simp only [List.take_succ_cons, List.take_zero, frameF, Act.put, List.setIfInBounds_toArray, List.set_cons_zero, List.set_cons_succ]
                    exact stepF_val (by first | rfl | simp [Region.wanted, yielded, *]) (by go_simp <;> omega) ⟨rfl, Below.refl _ _, hR⟩
                  · refine ⟨fun _ _ _ _ _ h => h, fun _ _ _ _ h _ => h, fun v nR x hnR hR hk => ?_⟩
                    simp only [List.take_succ_cons, List.take_zero, frameF, Act.put, List.setIfInBounds_toArray, List.set_cons_zero, List.set_cons_succ]
                    exact stepF_val (by first | rfl | simp [Region.wanted, yielded, *]) (by go_simp <;> omega) ⟨rfl, Below.refl _ _, hR⟩
                  · refine ⟨fun _ _ _ _ _ h => h, fun _ _ _ _ h _ => h, fun v nR x hnR hR hk => ?_⟩
                    have h8 : v 8 = .slice (some ⟨g, 0, none⟩) (b.length + 1) (b.length + 1) := hk 8 (by kernel_rfl)
                    have h9 : v 9 = iv (j : Int) := hk 9 (by kernel_rfl)
                    simp only [List.take_succ_cons, List.take_zero, frameF, Act.put, List.setIfInBounds_toArray, List.set_cons_zero, List.set_cons_succ]
                    exact stepF_val (by first | rfl | simp [Region.wanted, yielded, *]) (by go_simp <;> omega) ⟨rfl, Below.refl _ _, hR⟩
                  · refine ⟨fun _ _ _ _ _ h => h, fun _ _ _ _ h _ => h, fun v nR x hnR hR hk => ?_⟩
                    have h10 : v 10 = .pointer (some ⟨g, j, none⟩) := hk 10 (by kernel_rfl)
                    have g1 := HX3.out x hR
                    simp only [List.take_succ_cons, List.take_zero, frameF, Act.put, List.setIfInBounds_toArray, List.set_cons_zero, List.set_cons_succ]
                    exact stepF_val (by first | rfl | simp [Region.wanted, yielded, *]) (by go_simp <;> omega) ⟨rfl, Below.refl _ _, hR⟩
                  · refine ⟨fun _ _ _ _ _ h => h, fun _ _ _ _ h _ => h, fun v nR x hnR hR hk => ?_⟩
                    have h11 : v 11 = iv (X0 : Int) := hk 11 (by kernel_rfl)
                    simp only [List.take_succ_cons, List.take_zero, frameF, Act.put, List.setIfInBounds_toArray, List.set_cons_zero, List.set_cons_succ]
                    exact stepF_val (by first | rfl | simp [Region.wanted, yielded, *]) (by go_simp <;> omega) ⟨rfl, Below.refl _ _, hR⟩
                  · refine ⟨fun _ _ _ _ _ h => h, fun _ _ _ _ h _ => h, fun v nR x hnR hR hk => ?_⟩
                    have h7 : v 7 = iv (M : Int) := hk 7 (by kernel_rfl)
                    have h12 : v 12 = iv ((X0 : Int) + 1) := hk 12 (by kernel_rfl)
                    simp only [List.take_succ_cons, List.take_zero, frameF, Act.put, List.setIfInBounds_toArray, List.set_cons_zero, List.set_cons_succ]
                    exact stepF_val (by first | rfl | simp [Region.wanted, yielded, *]) (by go_simp <;> omega) ⟨rfl, Below.refl _ _, hR⟩
                  · refine ⟨fun _ _ _ _ _ h => h, fun _ _ _ _ h _ => h, fun v nR x hnR hR hk => ?_⟩
                    have h0 : v 0 = .slice (some ⟨g2, 0, none⟩) (b.length + 1) (b.length + 1) := hk 0 (by kernel_rfl)
                    have h2 : v 2 = iv ((j : Int) + 1) := hk 2 (by kernel_rfl)
                    simp only [List.take_succ_cons, List.take_zero, frameF, Act.put, List.setIfInBounds_toArray, List.set_cons_zero, List.set_cons_succ]
                    exact stepF_val (by first | rfl | simp [Region.wanted, yielded, *]) (by go_simp <;> omega) ⟨rfl, Below.refl _ _, hR⟩
                · intro v nR x3 hnR hR hall
                  have h13 : v 13 = iv (max (M : Int) ((X0 : Int) + 1)) := hall 13 (by decide)
                  have h14 : v 14 = .pointer (some ⟨g2, j + 1, none⟩) := hall 14 (by decide)
                  clear hall hnR
                  simp only [List.drop_succ_cons, List.drop_zero, List.take_succ_cons, List.take_zero, frameF, Act.put, List.setIfInBounds_toArray, List.set_cons_zero, List.set_cons_succ, Nat.zero_add, Nat.reduceAdd, h13, h14]
                  have hY4 := HY3.out.below hR
                  have hY5 := setI hY4 (k := j + 1) (by omega) (max (M : Int) ((X0 : Int) + 1))
                  rw [List.set_set] at hY5
                  have HY5 := Lib.hid hY5
                  have hf3 : ∀ o, x3.frozen? ⟨g2, o, none⟩ = false := by
                    obtain ⟨_, _, _, e3, _, _, _, _, hf3⟩ := ownI hY4 (k := j) (by omega)
                    injection e3 with e3 _ _
                    injection e3 with e3
                    injection e3 with e3 _ _
                    subst e3
                    exact hf3
                  have hc3 := HZ.out x3 hR
                  have hl3 : g2 < x3.heap.size := Nat.lt_of_lt_of_le hl2 hR.size
                  have hon3 : Only g2 w4 (x3.setCell ⟨g2, j + 1, none⟩ (iv (max (M : Int) ((X0 : Int) + 1)))) := (hon2.next hR (by omega)).trans (Only.set_ g2 (j + 1) _ _)
                  have HR2 : Hid (Run a b i (j + 1) (ys.set (j + 1) (max (M : Int) ((X0 : Int) + 1)))) := Lib.hid (HR.out.next hjl (by
                    have h5 := HQ.out
                    have h6 := HST.out
                    rw [if_pos (by simpa using h5)] at h6
                    have := HM.out
                    omega))
                  clear hY4 hY5
                  go_wp2_with fail
                  go_roundw
                  case rel => exact ⟨j + 1, _, by omega, by go_num, HR2, HY5, hon3⟩
                  case measure => simp [intOf]; omega
        · have hjj : ¬ (j : Int) < (b.length : Int) := by omega
          have hje : j = b.length := by omega
          have hyr : ys = File.preRow a b (i + 1) := by
            have := HR.out
            rw [hje] at this
            exact this.full
          have hY := HY.out
          rw [hyr] at hY
          have hg2s := hb04.size
          have HY2 := Lib.hid (hY.base (B' := w.heap.size) (by omega))
          clear hY hyr HR HY hje
          go_wp2_with fail
          go_roundw
          case rel => exact ⟨i + 1, g2, by omega, by go_num, rfl, HY2, hbx⟩
          case measure => simp [intOf]; omega
    · have hii : ¬ (i : Int) < (a.length : Int) := by omega
      have hie : i = a.length := by omega
      obtain ⟨_, _, v0, e0, _, gl0, hv0, hc0, _⟩ := ownI HO.out (k := b.length) (by rw [File.preRow_len]; omega)
      injection e0 with e0 _ _
      injection e0 with e0
      injection e0 with e0 _ _
      subst e0
      rw [File.preRow_at a b i (by omega), hie, File.pre_full] at hv0
      have hv0 := (Option.some.inj hv0).symm
      subst hv0
      clear hie HO
      go_wp2_with fail
      go_ret
      exact ⟨rfl, hbr⟩
end Fl
end Go.Proofs.YtekkhnjepcebkaaGreatDoor
end
section
namespace Go.Proofs.YtekkhnjepcebkaaGreatDoor
namespace Fl
open Go.RowKit
set_option maxRecDepth 100000
theorem Sl.cellS {w : World} {b off k : Nat} {xs : List ByteArray} {x : ByteArray} (h : Sl strE w (some ⟨b, off, none⟩) xs) (hx : xs[k]? = some x) : ∀ W, Below w.heap.size w W → W.cell? ⟨b, off + k, none⟩ = some (.string x) := fun W hW => by
  obtain ⟨_, _, s2, hA', _, hx2, hc2⟩ := Sl.atS (h.below hW) (List.getElem?_eq_some_iff.1 hx).1
  injection hA' with hA'
  injection hA' with e1 e2 _
  subst e1; subst e2
  rw [hx] at hx2
  rw [hc2, Option.some.inj hx2]
theorem Sl.cellPr {w : World} {b off k : Nat} {xs : List (Nat × Nat)} {p : Nat × Nat} (h : Sl pairE w (some ⟨b, off, none⟩) xs) (hx : xs[k]? = some p) : ∀ W, Below w.heap.size w W → W.cell? ⟨b, off + k * 2, none⟩ = some (iv (p.1 : Int)) ∧ W.cell? ⟨b, off + k * 2 + 1, none⟩ = some (iv (p.2 : Int)) := fun W hW => by
  obtain ⟨_, _, s2, hA', _, hx2, hc2, hc3⟩ := Sl.atPr (h.below hW) (List.getElem?_eq_some_iff.1 hx).1
  injection hA' with hA'
  injection hA' with e1 e2 _
  subst e1; subst e2
  rw [hx] at hx2
  have := Option.some.inj hx2
  subst this
  exact ⟨hc2, hc3⟩
theorem Sl.cellEd {w : World} {b off k : Nat} {vs : List EdV} {x : EdV} (h : Sl edE w (some ⟨b, off, none⟩) vs) (hx : vs[k]? = some x) : ∀ W, Below w.heap.size w W → W.cell? ⟨b, off + k * 3, none⟩ = some (iv x.at_) ∧ W.cell? ⟨b, off + k * 3 + 1, none⟩ = some (.slice x.A x.old.length x.c) ∧ W.cell? ⟨b, off + k * 3 + 2, none⟩ = some (.slice x.A' x.new.length x.c') := fun W hW => by
  obtain ⟨_, _, s2, hA', _, hx2, hc2, hc3, hc4⟩ := Sl.atEd (h.below hW) (List.getElem?_eq_some_iff.1 hx).1
  injection hA' with hA'
  injection hA' with e1 e2 _
  subst e1; subst e2
  rw [hx] at hx2
  have := Option.some.inj hx2
  subst this
  exact ⟨hc2, hc3, hc4⟩
end Fl
end Go.Proofs.YtekkhnjepcebkaaGreatDoor
end
section
namespace Go.Proofs.YtekkhnjepcebkaaGreatDoor
open Go.RowKit
theorem stepF_out {P : Program} {ops : Array Oper} {o : Oper} {a : Act} {w : World} {K : Value → World → Prop} (hw : Region.wanted o (yielded ops a.tmps) = false) (hK : K undef w) : StepF P ops o a w K := ⟨by
  unfold StepG
  rw [hw]
  exact hK⟩
end Go.Proofs.YtekkhnjepcebkaaGreatDoor
end
section
namespace Go.Proofs.YtekkhnjepcebkaaGreatDoor
namespace Fl
open Go.RowKit
set_option maxRecDepth 100000
theorem cut_from' {A : Option Addr} {base : List ByteArray} {c i : Nat} {w : World} (hc : base.length ≤ c) (hi : i ≤ base.length) (hs : Sl strE w A base) :
    ∃ (X : Option Addr) (n : Nat) (ys : List ByteArray), ys = base.drop i ∧ ys.length ≤ base.length ∧ ys.length ≤ n ∧ Sl strE w X ys ∧ ∀ W : World, (Instr.slice 22 (.slice A base.length c) (some (iv (i : Int))) none none).run Tryz.prog W = .ok (.slice X ys.length n) W := by
  have he : File.cut base i base.length = base.drop i := by unfold File.cut; exact List.take_of_length_le (by rw [List.length_drop]; exact Nat.le_refl _)
  refine ⟨cutA A c i 1, c - i, base.drop i, rfl, by rw [List.length_drop]; omega, by rw [List.length_drop]; omega, he ▸ Sl.cut hs hc hi (Nat.le_refl _), ?_⟩
  intro W
  rw [List.length_drop]
  exact run_cutFrom strE tyStrs A base.length c i hi W
set_option maxHeartbeats 8000000 in
theorem first_spec (A : Option Addr) (a : List ByteArray) (c : Nat) (A' : Option Addr) (b : List ByteArray) (c' : Nat) (i j left : Nat) (w : World) (ha : a.length ≤ 24) (hb : b.length ≤ 24) (hi : i ≤ a.length) (hj : j ≤ b.length) (hl : left ≤ 24) (hac : a.length ≤ c) (hbc : b.length ≤ c') (hsa : Sl strE w A a) (hsb : Sl strE w A' b) :
    Calls Tryz.prog 146 #[.slice A a.length c, .slice A' b.length c', iv (i : Int), iv (j : Int), iv (left : Int)] w fun e w' => e = .returned (.tuple #[iv ((((File.firstGo a b left j (a.length - i) i).getD (0, 0)).1 : Nat) : Int), iv ((((File.firstGo a b left j (a.length - i) i).getD (0, 0)).2 : Nat) : Int)]) ∧ Below w.heap.size w w' := by
  obtain ⟨R, hR⟩ : ∃ R, R = File.firstGo a b left j (a.length - i) i := ⟨_, rfl⟩
  rw [← hR]
  have HR0 := Lib.hid hR.symm
  clear hR
  go_enter Tryz.func146, Tryz.ntmps146
  go_wp2_with fail
  go_loopw [12, 13] (fun v _ wr => ∃ p1 : Nat, p1 ≤ a.length ∧ v = iv (p1 : Int) ∧ Hid (File.firstGo a b left j (a.length - p1) p1 = R) ∧ Below w.heap.size w wr) (fun v _ _ => a.length - (intOf v).toNat)
  case atStart => exact ⟨i, hi, rfl, HR0, Below.refl _ _⟩
  case round =>
    obtain ⟨p1, hx, rfl, HR, hbr⟩ := hrel
    clear HR0
    by_cases hlt : p1 < a.length
    · have hxi : (p1 : Int) < (a.length : Int) := by omega
      have hr := HR.out
      rw [show a.length - p1 = (a.length - (p1 + 1)) + 1 by omega, File.firstGo] at hr
      have HR1 : Hid ((match File.rowFirst a b left p1 (b.length - j) j with | some p2 => some (p1, p2) | none => File.firstGo a b left j (a.length - (p1 + 1)) (p1 + 1)) = R) := Lib.hid (by rw [← hr]; rfl)
      clear hr HR
      go_wp2_with fail
      go_loopw [13] (fun v wx => ∃ p2 : Nat, p2 ≤ b.length ∧ v = iv (p2 : Int) ∧ Hid ((match File.rowFirst a b left p1 (b.length - p2) p2 with | some p2 => some (p1, p2) | none => File.firstGo a b left j (a.length - (p1 + 1)) (p1 + 1)) = R) ∧ Below w.heap.size w wx) (fun v _ => b.length - (intOf v).toNat)
      case atStart => exact ⟨j, hj, rfl, HR1, hbr⟩
      case round =>
        clear HR1
        obtain ⟨p2, hy, rfl, HR, hbx⟩ := hrel
        by_cases hlt2 : p2 < b.length
        · have hyi : (p2 : Int) < (b.length : Int) := by omega
          have hr := HR.out
          rw [show b.length - p2 = (b.length - (p2 + 1)) + 1 by omega, File.rowFirst] at hr
          obtain ⟨X1, n1, ya, hya, hyal, hyn, hsy, hC1⟩ := cut_from' (i := p1 + 1) hac (by omega) (hsa.below hbx)
          obtain ⟨X2, n2, yb, hyb, hybl, hyn2, hsz, hC2⟩ := cut_from' (i := p2 + 1) hbc (by omega) (hsb.below hbx)
          have hC1 : ∀ W : World, (Instr.slice 22 (.slice A a.length c) (some (iv ((p1 : Int) + 1))) none none).run Tryz.prog W = .ok (.slice X1 ya.length n1) W := hC1
          have hC2 : ∀ W : World, (Instr.slice 22 (.slice A' b.length c') (some (iv ((p2 : Int) + 1))) none none).run Tryz.prog W = .ok (.slice X2 yb.length n2) W := hC2
          obtain ⟨ba, oa, sa, rfl, hba, hxa, hca⟩ := Sl.atS (hsa.below hbx) hlt
          obtain ⟨bb, ob, sb, rfl, hbb, hxb, hcb⟩ := Sl.atS (hsb.below hbx) hlt2
          have HSA := Lib.hid (Sl.cellS (hsa.below hbx) hxa)
          have HSB := Lib.hid (Sl.cellS (hsb.below hbx) hxb)
          obtain ⟨F, hF⟩ : ∃ F, F = File.from_ a b (p1 + 1) (p2 + 1) := ⟨_, rfl⟩
          have hFl : File.lcs ya yb = F := by rw [hF, hya, hyb]; rfl
          have hF24 : F ≤ 24 := by rw [hF]; have := File.from_le a b (p1 + 1) (p2 + 1); omega
          have hM := Lib.hid fun W (h : Below wr.heap.size wr W) => most_spec X1 ya n1 X2 yb n2 W (by omega) (by omega) (hsy.below h) (hsz.below h)
          rw [hFl] at hM
          obtain ⟨q, hq⟩ : ∃ q, (sa.toList == sb.toList) = q := ⟨_, rfl⟩
          have hqd : q = decide (sa = sb) := by rw [← hq, str_eq]
          have hfit : File.fits a b left p1 p2 = (q && decide (F + 1 = left)) := by
            unfold File.fits
            rw [hxa, hxb, ← hF, hqd]
          rw [hfit] at hr
          have HRR := Lib.hid hr
          have ewx : IntKind.i64.wrap ((p1 : Int) + 1) = (p1 : Int) + 1 := IntWalk.i64_in _ (by omega)
          have ewy : IntKind.i64.wrap ((p2 : Int) + 1) = (p2 : Int) + 1 := IntWalk.i64_in _ (by omega)
          have ewF : IntKind.i64.wrap ((F : Int) + 1) = (F : Int) + 1 := IntWalk.i64_in _ (by omega)
          clear hqd hr HR hfit hF hFl hya hyb hsy hsz hxa hxb hca hcb
          rcases Bool.eq_false_or_eq_true q with hqv | hqv
          rotate_left
          · have HN : Hid ((match File.rowFirst a b left p1 (b.length - (p2 + 1)) (p2 + 1) with | some p2 => some (p1, p2) | none => File.firstGo a b left j (a.length - (p1 + 1)) (p1 + 1)) = R) := Lib.hid (by rw [← HRR.out, hqv]; simp)
            go_upto_region 7 with fail
            refine wp_free_lit (by kernel_rfl) 23 (by kernel_rfl) (by kernel_rfl) (by decide) (fun nR x => Below wr.heap.size wr x) (fun x x' => Below x.heap.size x x')
              [fun _ u _ => u = .slice (some ⟨ba, oa, none⟩) a.length c,
               fun _ u _ => u = iv (p1 : Int),
               fun _ u _ => u = .pointer (some ⟨ba, oa + p1, none⟩),
               fun _ u _ => u = .string sa,
               fun _ u _ => u = .slice (some ⟨bb, ob, none⟩) b.length c',
               fun _ u _ => u = iv (p2 : Int),
               fun _ u _ => u = .pointer (some ⟨bb, ob + p2, none⟩),
               fun _ u _ => u = .string sb,
               fun _ u _ => u = .bool q,
               fun _ u _ => u = .bool q,
               fun _ u _ => u = undef,
               fun _ u _ => u = undef,
               fun _ u _ => u = undef,
               fun _ u _ => u = undef,
               fun _ u _ => u = undef,
               fun _ u _ => u = undef,
               fun _ u _ => u = undef,
               fun _ u _ => u = undef,
               fun _ u _ => u = undef,
               fun _ u _ => u = undef,
               fun _ u _ => u = undef,
               fun _ u _ => u = undef,
               fun _ u _ => u = .bool false]
              (Below.refl _ wr).drew ?_ ?_
            · simp only [List.take_succ_cons, List.take_zero, HopL]
              refine ⟨?_, ?_, ?_, ?_, ?_, ?_, ?_, ?_, ?_, ?_, ?_, ?_, ?_, ?_, ?_, ?_, ?_, ?_, ?_, ?_, ?_, ?_, ?_, trivial⟩
              · refine ⟨fun _ _ _ _ _ h => h, fun _ _ _ _ h _ => h, fun v nR x hnR hR hk => ?_⟩
                simp only [List.take_succ_cons, List.take_zero, frameF, Act.put, List.setIfInBounds_toArray, List.set_cons_zero, List.set_cons_succ]
                exact stepF_val (by first | rfl | simp [Region.wanted, yielded, *]) (by go_simp <;> omega) ⟨rfl, Below.refl _ _, hR⟩
              · refine ⟨fun _ _ _ _ _ h => h, fun _ _ _ _ h _ => h, fun v nR x hnR hR hk => ?_⟩
                simp only [List.take_succ_cons, List.take_zero, frameF, Act.put, List.setIfInBounds_toArray, List.set_cons_zero, List.set_cons_succ]
                exact stepF_val (by first | rfl | simp [Region.wanted, yielded, *]) (by go_simp <;> omega) ⟨rfl, Below.refl _ _, hR⟩
              · refine ⟨fun _ _ _ _ _ h => h, fun _ _ _ _ h _ => h, fun v nR x hnR hR hk => ?_⟩
                have h0 : v 0 = .slice (some ⟨ba, oa, none⟩) a.length c := hk 0 (by kernel_rfl)
                have h1 : v 1 = iv (p1 : Int) := hk 1 (by kernel_rfl)
                simp only [List.take_succ_cons, List.take_zero, frameF, Act.put, List.setIfInBounds_toArray, List.set_cons_zero, List.set_cons_succ]
                exact stepF_val (by first | rfl | simp [Region.wanted, yielded, *]) (by go_simp <;> omega) ⟨rfl, Below.refl _ _, hR⟩
              · refine ⟨fun _ _ _ _ _ h => h, fun _ _ _ _ h _ => h, fun v nR x hnR hR hk => ?_⟩
                have h2 : v 2 = .pointer (some ⟨ba, oa + p1, none⟩) := hk 2 (by kernel_rfl)
                have g1 := HSA.out x hR
                simp only [List.take_succ_cons, List.take_zero, frameF, Act.put, List.setIfInBounds_toArray, List.set_cons_zero, List.set_cons_succ]
                exact stepF_val (by first | rfl | simp [Region.wanted, yielded, *]) (by go_simp <;> omega) ⟨rfl, Below.refl _ _, hR⟩
              · refine ⟨fun _ _ _ _ _ h => h, fun _ _ _ _ h _ => h, fun v nR x hnR hR hk => ?_⟩
                simp only [List.take_succ_cons, List.take_zero, frameF, Act.put, List.setIfInBounds_toArray, List.set_cons_zero, List.set_cons_succ]
                exact stepF_val (by first | rfl | simp [Region.wanted, yielded, *]) (by go_simp <;> omega) ⟨rfl, Below.refl _ _, hR⟩
              · refine ⟨fun _ _ _ _ _ h => h, fun _ _ _ _ h _ => h, fun v nR x hnR hR hk => ?_⟩
                simp only [List.take_succ_cons, List.take_zero, frameF, Act.put, List.setIfInBounds_toArray, List.set_cons_zero, List.set_cons_succ]
                exact stepF_val (by first | rfl | simp [Region.wanted, yielded, *]) (by go_simp <;> omega) ⟨rfl, Below.refl _ _, hR⟩
              · refine ⟨fun _ _ _ _ _ h => h, fun _ _ _ _ h _ => h, fun v nR x hnR hR hk => ?_⟩
                have h4 : v 4 = .slice (some ⟨bb, ob, none⟩) b.length c' := hk 4 (by kernel_rfl)
                have h5 : v 5 = iv (p2 : Int) := hk 5 (by kernel_rfl)
                simp only [List.take_succ_cons, List.take_zero, frameF, Act.put, List.setIfInBounds_toArray, List.set_cons_zero, List.set_cons_succ]
                exact stepF_val (by first | rfl | simp [Region.wanted, yielded, *]) (by go_simp <;> omega) ⟨rfl, Below.refl _ _, hR⟩
              · refine ⟨fun _ _ _ _ _ h => h, fun _ _ _ _ h _ => h, fun v nR x hnR hR hk => ?_⟩
                have h6 : v 6 = .pointer (some ⟨bb, ob + p2, none⟩) := hk 6 (by kernel_rfl)
                have g1 := HSB.out x hR
                simp only [List.take_succ_cons, List.take_zero, frameF, Act.put, List.setIfInBounds_toArray, List.set_cons_zero, List.set_cons_succ]
                exact stepF_val (by first | rfl | simp [Region.wanted, yielded, *]) (by go_simp <;> omega) ⟨rfl, Below.refl _ _, hR⟩
              · refine ⟨fun _ _ _ _ _ h => h, fun _ _ _ _ h _ => h, fun v nR x hnR hR hk => ?_⟩
                have h3 : v 3 = .string sa := hk 3 (by kernel_rfl)
                have h7 : v 7 = .string sb := hk 7 (by kernel_rfl)
                simp only [List.take_succ_cons, List.take_zero, frameF, Act.put, List.setIfInBounds_toArray, List.set_cons_zero, List.set_cons_succ]
                exact stepF_val (by first | rfl | simp [Region.wanted, yielded, *]) (by go_simp <;> omega) ⟨rfl, Below.refl _ _, hR⟩
              · refine ⟨fun _ _ _ _ _ h => h, fun _ _ _ _ h _ => h, fun v nR x hnR hR hk => ?_⟩
                have h8 : v 8 = .bool q := hk 8 (by kernel_rfl)
                simp only [List.take_succ_cons, List.take_zero, frameF, Act.put, List.setIfInBounds_toArray, List.set_cons_zero, List.set_cons_succ]
                exact stepF_val (by first | rfl | simp [Region.wanted, yielded, *]) (by go_simp <;> omega) ⟨rfl, Below.refl _ _, hR⟩
              · refine ⟨fun _ _ _ _ _ h => h, fun _ _ _ _ h _ => h, fun v nR x hnR hR hk => ?_⟩
                have h9 : v 9 = .bool q := hk 9 (by kernel_rfl)
                simp only [List.take_succ_cons, List.take_zero, frameF, Act.put, List.setIfInBounds_toArray, List.set_cons_zero, List.set_cons_succ]
                exact stepF_out (by first | rfl | (simp [Region.wanted, yielded, *]; done) | (simp [Region.wanted, yielded, undef, *]; done)) ⟨rfl, Below.refl _ _, hR⟩
              · refine ⟨fun _ _ _ _ _ h => h, fun _ _ _ _ h _ => h, fun v nR x hnR hR hk => ?_⟩
                have h9 : v 9 = .bool q := hk 9 (by kernel_rfl)
                simp only [List.take_succ_cons, List.take_zero, frameF, Act.put, List.setIfInBounds_toArray, List.set_cons_zero, List.set_cons_succ]
                exact stepF_out (by first | rfl | (simp [Region.wanted, yielded, *]; done) | (simp [Region.wanted, yielded, undef, *]; done)) ⟨rfl, Below.refl _ _, hR⟩
              · refine ⟨fun _ _ _ _ _ h => h, fun _ _ _ _ h _ => h, fun v nR x hnR hR hk => ?_⟩
                have h9 : v 9 = .bool q := hk 9 (by kernel_rfl)
                simp only [List.take_succ_cons, List.take_zero, frameF, Act.put, List.setIfInBounds_toArray, List.set_cons_zero, List.set_cons_succ]
                exact stepF_out (by first | rfl | (simp [Region.wanted, yielded, *]; done) | (simp [Region.wanted, yielded, undef, *]; done)) ⟨rfl, Below.refl _ _, hR⟩
              · refine ⟨fun _ _ _ _ _ h => h, fun _ _ _ _ h _ => h, fun v nR x hnR hR hk => ?_⟩
                have h9 : v 9 = .bool q := hk 9 (by kernel_rfl)
                simp only [List.take_succ_cons, List.take_zero, frameF, Act.put, List.setIfInBounds_toArray, List.set_cons_zero, List.set_cons_succ]
                exact stepF_out (by first | rfl | (simp [Region.wanted, yielded, *]; done) | (simp [Region.wanted, yielded, undef, *]; done)) ⟨rfl, Below.refl _ _, hR⟩
              · refine ⟨fun _ _ _ _ _ h => h, fun _ _ _ _ h _ => h, fun v nR x hnR hR hk => ?_⟩
                have h9 : v 9 = .bool q := hk 9 (by kernel_rfl)
                simp only [List.take_succ_cons, List.take_zero, frameF, Act.put, List.setIfInBounds_toArray, List.set_cons_zero, List.set_cons_succ]
                exact stepF_out (by first | rfl | (simp [Region.wanted, yielded, *]; done) | (simp [Region.wanted, yielded, undef, *]; done)) ⟨rfl, Below.refl _ _, hR⟩
              · refine ⟨fun _ _ _ _ _ h => h, fun _ _ _ _ h _ => h, fun v nR x hnR hR hk => ?_⟩
                have h9 : v 9 = .bool q := hk 9 (by kernel_rfl)
                simp only [List.take_succ_cons, List.take_zero, frameF, Act.put, List.setIfInBounds_toArray, List.set_cons_zero, List.set_cons_succ]
                exact stepF_out (by first | rfl | (simp [Region.wanted, yielded, *]; done) | (simp [Region.wanted, yielded, undef, *]; done)) ⟨rfl, Below.refl _ _, hR⟩
              · refine ⟨fun _ _ _ _ _ h => h, fun _ _ _ _ h _ => h, fun v nR x hnR hR hk => ?_⟩
                have h9 : v 9 = .bool q := hk 9 (by kernel_rfl)
                simp only [List.take_succ_cons, List.take_zero, frameF, Act.put, List.setIfInBounds_toArray, List.set_cons_zero, List.set_cons_succ]
                exact stepF_out (by first | rfl | (simp [Region.wanted, yielded, *]; done) | (simp [Region.wanted, yielded, undef, *]; done)) ⟨rfl, Below.refl _ _, hR⟩
              · refine ⟨fun _ _ _ _ _ h => h, fun _ _ _ _ h _ => h, fun v nR x hnR hR hk => ?_⟩
                have h9 : v 9 = .bool q := hk 9 (by kernel_rfl)
                simp only [List.take_succ_cons, List.take_zero, frameF, Act.put, List.setIfInBounds_toArray, List.set_cons_zero, List.set_cons_succ]
                exact stepF_out (by first | rfl | (simp [Region.wanted, yielded, *]; done) | (simp [Region.wanted, yielded, undef, *]; done)) ⟨rfl, Below.refl _ _, hR⟩
              · refine ⟨fun _ _ _ _ _ h => h, fun _ _ _ _ h _ => h, fun v nR x hnR hR hk => ?_⟩
                have h9 : v 9 = .bool q := hk 9 (by kernel_rfl)
                simp only [List.take_succ_cons, List.take_zero, frameF, Act.put, List.setIfInBounds_toArray, List.set_cons_zero, List.set_cons_succ]
                exact stepF_out (by first | rfl | (simp [Region.wanted, yielded, *]; done) | (simp [Region.wanted, yielded, undef, *]; done)) ⟨rfl, Below.refl _ _, hR⟩
              · refine ⟨fun _ _ _ _ _ h => h, fun _ _ _ _ h _ => h, fun v nR x hnR hR hk => ?_⟩
                have h9 : v 9 = .bool q := hk 9 (by kernel_rfl)
                simp only [List.take_succ_cons, List.take_zero, frameF, Act.put, List.setIfInBounds_toArray, List.set_cons_zero, List.set_cons_succ]
                exact stepF_out (by first | rfl | (simp [Region.wanted, yielded, *]; done) | (simp [Region.wanted, yielded, undef, *]; done)) ⟨rfl, Below.refl _ _, hR⟩
              · refine ⟨fun _ _ _ _ _ h => h, fun _ _ _ _ h _ => h, fun v nR x hnR hR hk => ?_⟩
                have h9 : v 9 = .bool q := hk 9 (by kernel_rfl)
                simp only [List.take_succ_cons, List.take_zero, frameF, Act.put, List.setIfInBounds_toArray, List.set_cons_zero, List.set_cons_succ]
                exact stepF_out (by first | rfl | (simp [Region.wanted, yielded, *]; done) | (simp [Region.wanted, yielded, undef, *]; done)) ⟨rfl, Below.refl _ _, hR⟩
              · refine ⟨fun _ _ _ _ _ h => h, fun _ _ _ _ h _ => h, fun v nR x hnR hR hk => ?_⟩
                have h9 : v 9 = .bool q := hk 9 (by kernel_rfl)
                simp only [List.take_succ_cons, List.take_zero, frameF, Act.put, List.setIfInBounds_toArray, List.set_cons_zero, List.set_cons_succ]
                exact stepF_out (by first | rfl | (simp [Region.wanted, yielded, *]; done) | (simp [Region.wanted, yielded, undef, *]; done)) ⟨rfl, Below.refl _ _, hR⟩
              · refine ⟨fun _ _ _ _ _ h => h, fun _ _ _ _ h _ => h, fun v nR x hnR hR hk => ?_⟩
                have h9 : v 9 = .bool q := hk 9 (by kernel_rfl)
                have h21 : v 21 = undef := hk 21 (by kernel_rfl)
                simp only [List.take_succ_cons, List.take_zero, frameF, Act.put, List.setIfInBounds_toArray, List.set_cons_zero, List.set_cons_succ]
                exact stepF_val (by first | rfl | simp [Region.wanted, yielded, *]) (by go_simp <;> omega) ⟨rfl, Below.refl _ _, hR⟩
            · intro v nR x1 hnR hR hall
              have h22 : v 22 = .bool false := hall 22 (by decide)
              clear hall hnR
              simp only [List.drop_succ_cons, List.drop_zero, List.take_succ_cons, List.take_zero, frameF, Act.put, List.setIfInBounds_toArray, List.set_cons_zero, List.set_cons_succ, Nat.zero_add, Nat.reduceAdd, h22]
              have hb2 := hbx.next hR (Nat.le_refl _)
              go_wp2_with fail
              go_roundw
              case rel => exact ⟨p2 + 1, by omega, by go_num, HN, hb2⟩
              case measure => simp [intOf]; omega
          · obtain ⟨t, ht⟩ : ∃ t, (((F : Int) + 1) == (left : Int)) = t := ⟨_, rfl⟩
            have htd : t = decide (F + 1 = left) := by
              rw [← ht, Bool.eq_iff_iff]
              simp
              omega
            have HT := Lib.hid htd
            clear htd
            go_upto_region 7 with fail
            refine wp_free_lit (by kernel_rfl) 23 (by kernel_rfl) (by kernel_rfl) (by decide) (fun nR x => Below wr.heap.size wr x) (fun x x' => Below x.heap.size x x')
              [fun _ u _ => u = .slice (some ⟨ba, oa, none⟩) a.length c,
               fun _ u _ => u = iv (p1 : Int),
               fun _ u _ => u = .pointer (some ⟨ba, oa + p1, none⟩),
               fun _ u _ => u = .string sa,
               fun _ u _ => u = .slice (some ⟨bb, ob, none⟩) b.length c',
               fun _ u _ => u = iv (p2 : Int),
               fun _ u _ => u = .pointer (some ⟨bb, ob + p2, none⟩),
               fun _ u _ => u = .string sb,
               fun _ u _ => u = .bool q,
               fun _ u _ => u = .bool q,
               fun _ u _ => u = .slice (some ⟨ba, oa, none⟩) a.length c,
               fun _ u _ => u = iv (p1 : Int),
               fun _ u _ => u = iv ((p1 : Int) + 1),
               fun _ u _ => u = .slice X1 ya.length n1,
               fun _ u _ => u = .slice (some ⟨bb, ob, none⟩) b.length c',
               fun _ u _ => u = iv (p2 : Int),
               fun _ u _ => u = iv ((p2 : Int) + 1),
               fun _ u _ => u = .slice X2 yb.length n2,
               fun _ u _ => u = iv (F : Int),
               fun _ u _ => u = iv ((F : Int) + 1),
               fun _ u _ => u = iv (left : Int),
               fun _ u _ => u = .bool t,
               fun _ u _ => u = .bool t]
              (Below.refl _ wr).drew ?_ ?_
            · simp only [List.take_succ_cons, List.take_zero, HopL]
              refine ⟨?_, ?_, ?_, ?_, ?_, ?_, ?_, ?_, ?_, ?_, ?_, ?_, ?_, ?_, ?_, ?_, ?_, ?_, ?_, ?_, ?_, ?_, ?_, trivial⟩
              · refine ⟨fun _ _ _ _ _ h => h, fun _ _ _ _ h _ => h, fun v nR x hnR hR hk => ?_⟩
                simp only [List.take_succ_cons, List.take_zero, frameF, Act.put, List.setIfInBounds_toArray, List.set_cons_zero, List.set_cons_succ]
                exact stepF_val (by first | rfl | simp [Region.wanted, yielded, *]) (by go_simp <;> omega) ⟨rfl, Below.refl _ _, hR⟩
              · refine ⟨fun _ _ _ _ _ h => h, fun _ _ _ _ h _ => h, fun v nR x hnR hR hk => ?_⟩
                simp only [List.take_succ_cons, List.take_zero, frameF, Act.put, List.setIfInBounds_toArray, List.set_cons_zero, List.set_cons_succ]
                exact stepF_val (by first | rfl | simp [Region.wanted, yielded, *]) (by go_simp <;> omega) ⟨rfl, Below.refl _ _, hR⟩
              · refine ⟨fun _ _ _ _ _ h => h, fun _ _ _ _ h _ => h, fun v nR x hnR hR hk => ?_⟩
                have h0 : v 0 = .slice (some ⟨ba, oa, none⟩) a.length c := hk 0 (by kernel_rfl)
                have h1 : v 1 = iv (p1 : Int) := hk 1 (by kernel_rfl)
                simp only [List.take_succ_cons, List.take_zero, frameF, Act.put, List.setIfInBounds_toArray, List.set_cons_zero, List.set_cons_succ]
                exact stepF_val (by first | rfl | simp [Region.wanted, yielded, *]) (by go_simp <;> omega) ⟨rfl, Below.refl _ _, hR⟩
              · refine ⟨fun _ _ _ _ _ h => h, fun _ _ _ _ h _ => h, fun v nR x hnR hR hk => ?_⟩
                have h2 : v 2 = .pointer (some ⟨ba, oa + p1, none⟩) := hk 2 (by kernel_rfl)
                have g1 := HSA.out x hR
                simp only [List.take_succ_cons, List.take_zero, frameF, Act.put, List.setIfInBounds_toArray, List.set_cons_zero, List.set_cons_succ]
                exact stepF_val (by first | rfl | simp [Region.wanted, yielded, *]) (by go_simp <;> omega) ⟨rfl, Below.refl _ _, hR⟩
              · refine ⟨fun _ _ _ _ _ h => h, fun _ _ _ _ h _ => h, fun v nR x hnR hR hk => ?_⟩
                simp only [List.take_succ_cons, List.take_zero, frameF, Act.put, List.setIfInBounds_toArray, List.set_cons_zero, List.set_cons_succ]
                exact stepF_val (by first | rfl | simp [Region.wanted, yielded, *]) (by go_simp <;> omega) ⟨rfl, Below.refl _ _, hR⟩
              · refine ⟨fun _ _ _ _ _ h => h, fun _ _ _ _ h _ => h, fun v nR x hnR hR hk => ?_⟩
                simp only [List.take_succ_cons, List.take_zero, frameF, Act.put, List.setIfInBounds_toArray, List.set_cons_zero, List.set_cons_succ]
                exact stepF_val (by first | rfl | simp [Region.wanted, yielded, *]) (by go_simp <;> omega) ⟨rfl, Below.refl _ _, hR⟩
              · refine ⟨fun _ _ _ _ _ h => h, fun _ _ _ _ h _ => h, fun v nR x hnR hR hk => ?_⟩
                have h4 : v 4 = .slice (some ⟨bb, ob, none⟩) b.length c' := hk 4 (by kernel_rfl)
                have h5 : v 5 = iv (p2 : Int) := hk 5 (by kernel_rfl)
                simp only [List.take_succ_cons, List.take_zero, frameF, Act.put, List.setIfInBounds_toArray, List.set_cons_zero, List.set_cons_succ]
                exact stepF_val (by first | rfl | simp [Region.wanted, yielded, *]) (by go_simp <;> omega) ⟨rfl, Below.refl _ _, hR⟩
              · refine ⟨fun _ _ _ _ _ h => h, fun _ _ _ _ h _ => h, fun v nR x hnR hR hk => ?_⟩
                have h6 : v 6 = .pointer (some ⟨bb, ob + p2, none⟩) := hk 6 (by kernel_rfl)
                have g1 := HSB.out x hR
                simp only [List.take_succ_cons, List.take_zero, frameF, Act.put, List.setIfInBounds_toArray, List.set_cons_zero, List.set_cons_succ]
                exact stepF_val (by first | rfl | simp [Region.wanted, yielded, *]) (by go_simp <;> omega) ⟨rfl, Below.refl _ _, hR⟩
              · refine ⟨fun _ _ _ _ _ h => h, fun _ _ _ _ h _ => h, fun v nR x hnR hR hk => ?_⟩
                have h3 : v 3 = .string sa := hk 3 (by kernel_rfl)
                have h7 : v 7 = .string sb := hk 7 (by kernel_rfl)
                simp only [List.take_succ_cons, List.take_zero, frameF, Act.put, List.setIfInBounds_toArray, List.set_cons_zero, List.set_cons_succ]
                exact stepF_val (by first | rfl | simp [Region.wanted, yielded, *]) (by go_simp <;> omega) ⟨rfl, Below.refl _ _, hR⟩
              · refine ⟨fun _ _ _ _ _ h => h, fun _ _ _ _ h _ => h, fun v nR x hnR hR hk => ?_⟩
                have h8 : v 8 = .bool q := hk 8 (by kernel_rfl)
                simp only [List.take_succ_cons, List.take_zero, frameF, Act.put, List.setIfInBounds_toArray, List.set_cons_zero, List.set_cons_succ]
                exact stepF_val (by first | rfl | simp [Region.wanted, yielded, *]) (by go_simp <;> omega) ⟨rfl, Below.refl _ _, hR⟩
              · refine ⟨fun _ _ _ _ _ h => h, fun _ _ _ _ h _ => h, fun v nR x hnR hR hk => ?_⟩
                have h9 : v 9 = .bool q := hk 9 (by kernel_rfl)
                simp only [List.take_succ_cons, List.take_zero, frameF, Act.put, List.setIfInBounds_toArray, List.set_cons_zero, List.set_cons_succ]
                exact stepF_val (by first | rfl | simp [Region.wanted, yielded, *]) (by go_simp <;> omega) ⟨rfl, Below.refl _ _, hR⟩
              · refine ⟨fun _ _ _ _ _ h => h, fun _ _ _ _ h _ => h, fun v nR x hnR hR hk => ?_⟩
                have h9 : v 9 = .bool q := hk 9 (by kernel_rfl)
                simp only [List.take_succ_cons, List.take_zero, frameF, Act.put, List.setIfInBounds_toArray, List.set_cons_zero, List.set_cons_succ]
                exact stepF_val (by first | rfl | simp [Region.wanted, yielded, *]) (by go_simp <;> omega) ⟨rfl, Below.refl _ _, hR⟩
              · refine ⟨fun _ _ _ _ _ h => h, fun _ _ _ _ h _ => h, fun v nR x hnR hR hk => ?_⟩
                have h11 : v 11 = iv (p1 : Int) := hk 11 (by kernel_rfl)
                have h9 : v 9 = .bool q := hk 9 (by kernel_rfl)
                simp only [List.take_succ_cons, List.take_zero, frameF, Act.put, List.setIfInBounds_toArray, List.set_cons_zero, List.set_cons_succ]
                exact stepF_val (by first | rfl | simp [Region.wanted, yielded, *]) (by go_simp <;> omega) ⟨rfl, Below.refl _ _, hR⟩
              · refine ⟨fun _ _ _ _ _ h => h, fun _ _ _ _ h _ => h, fun v nR x hnR hR hk => ?_⟩
                have h10 : v 10 = .slice (some ⟨ba, oa, none⟩) a.length c := hk 10 (by kernel_rfl)
                have h12 : v 12 = iv ((p1 : Int) + 1) := hk 12 (by kernel_rfl)
                have h9 : v 9 = .bool q := hk 9 (by kernel_rfl)
                simp only [List.take_succ_cons, List.take_zero, frameF, Act.put, List.setIfInBounds_toArray, List.set_cons_zero, List.set_cons_succ]
                exact stepF_val (by first | rfl | simp [Region.wanted, yielded, *]) (by go_simp <;> omega) ⟨rfl, Below.refl _ _, hR⟩
              · refine ⟨fun _ _ _ _ _ h => h, fun _ _ _ _ h _ => h, fun v nR x hnR hR hk => ?_⟩
                have h9 : v 9 = .bool q := hk 9 (by kernel_rfl)
                simp only [List.take_succ_cons, List.take_zero, frameF, Act.put, List.setIfInBounds_toArray, List.set_cons_zero, List.set_cons_succ]
                exact stepF_val (by first | rfl | simp [Region.wanted, yielded, *]) (by go_simp <;> omega) ⟨rfl, Below.refl _ _, hR⟩
              · refine ⟨fun _ _ _ _ _ h => h, fun _ _ _ _ h _ => h, fun v nR x hnR hR hk => ?_⟩
                have h9 : v 9 = .bool q := hk 9 (by kernel_rfl)
                simp only [List.take_succ_cons, List.take_zero, frameF, Act.put, List.setIfInBounds_toArray, List.set_cons_zero, List.set_cons_succ]
                exact stepF_val (by first | rfl | simp [Region.wanted, yielded, *]) (by go_simp <;> omega) ⟨rfl, Below.refl _ _, hR⟩
              · refine ⟨fun _ _ _ _ _ h => h, fun _ _ _ _ h _ => h, fun v nR x hnR hR hk => ?_⟩
                have h15 : v 15 = iv (p2 : Int) := hk 15 (by kernel_rfl)
                have h9 : v 9 = .bool q := hk 9 (by kernel_rfl)
                simp only [List.take_succ_cons, List.take_zero, frameF, Act.put, List.setIfInBounds_toArray, List.set_cons_zero, List.set_cons_succ]
                exact stepF_val (by first | rfl | simp [Region.wanted, yielded, *]) (by go_simp <;> omega) ⟨rfl, Below.refl _ _, hR⟩
              · refine ⟨fun _ _ _ _ _ h => h, fun _ _ _ _ h _ => h, fun v nR x hnR hR hk => ?_⟩
                have h14 : v 14 = .slice (some ⟨bb, ob, none⟩) b.length c' := hk 14 (by kernel_rfl)
                have h16 : v 16 = iv ((p2 : Int) + 1) := hk 16 (by kernel_rfl)
                have h9 : v 9 = .bool q := hk 9 (by kernel_rfl)
                simp only [List.take_succ_cons, List.take_zero, frameF, Act.put, List.setIfInBounds_toArray, List.set_cons_zero, List.set_cons_succ]
                exact stepF_val (by first | rfl | simp [Region.wanted, yielded, *]) (by go_simp <;> omega) ⟨rfl, Below.refl _ _, hR⟩
              · refine ⟨fun _ _ _ _ _ h => h, fun _ _ _ _ h _ => h, fun v nR x hnR hR hk => ?_⟩
                have h13 : v 13 = .slice X1 ya.length n1 := hk 13 (by kernel_rfl)
                have h17 : v 17 = .slice X2 yb.length n2 := hk 17 (by kernel_rfl)
                have h9 : v 9 = .bool q := hk 9 (by kernel_rfl)
                simp only [List.take_succ_cons, List.take_zero, frameF, Act.put, List.setIfInBounds_toArray, List.set_cons_zero, List.set_cons_succ]
                refine stepF_call (by first | rfl | simp [Region.wanted, yielded, *]) (by go_simp) (hM.out x hR) ?_
                rintro e x' ⟨rfl, hb⟩
                exact ⟨_, rfl, rfl, hb, hR.next hb (Nat.le_refl _)⟩
              · refine ⟨fun _ _ _ _ _ h => h, fun _ _ _ _ h _ => h, fun v nR x hnR hR hk => ?_⟩
                have h18 : v 18 = iv (F : Int) := hk 18 (by kernel_rfl)
                have h9 : v 9 = .bool q := hk 9 (by kernel_rfl)
                simp only [List.take_succ_cons, List.take_zero, frameF, Act.put, List.setIfInBounds_toArray, List.set_cons_zero, List.set_cons_succ]
                exact stepF_val (by first | rfl | simp [Region.wanted, yielded, *]) (by go_simp <;> omega) ⟨rfl, Below.refl _ _, hR⟩
              · refine ⟨fun _ _ _ _ _ h => h, fun _ _ _ _ h _ => h, fun v nR x hnR hR hk => ?_⟩
                have h9 : v 9 = .bool q := hk 9 (by kernel_rfl)
                simp only [List.take_succ_cons, List.take_zero, frameF, Act.put, List.setIfInBounds_toArray, List.set_cons_zero, List.set_cons_succ]
                exact stepF_val (by first | rfl | simp [Region.wanted, yielded, *]) (by go_simp <;> omega) ⟨rfl, Below.refl _ _, hR⟩
              · refine ⟨fun _ _ _ _ _ h => h, fun _ _ _ _ h _ => h, fun v nR x hnR hR hk => ?_⟩
                have h19 : v 19 = iv ((F : Int) + 1) := hk 19 (by kernel_rfl)
                have h20 : v 20 = iv (left : Int) := hk 20 (by kernel_rfl)
                have h9 : v 9 = .bool q := hk 9 (by kernel_rfl)
                simp only [List.take_succ_cons, List.take_zero, frameF, Act.put, List.setIfInBounds_toArray, List.set_cons_zero, List.set_cons_succ]
                exact stepF_val (by first | rfl | simp [Region.wanted, yielded, *]) (by go_simp <;> omega) ⟨rfl, Below.refl _ _, hR⟩
              · refine ⟨fun _ _ _ _ _ h => h, fun _ _ _ _ h _ => h, fun v nR x hnR hR hk => ?_⟩
                have h9 : v 9 = .bool q := hk 9 (by kernel_rfl)
                have h21 : v 21 = .bool t := hk 21 (by kernel_rfl)
                simp only [List.take_succ_cons, List.take_zero, frameF, Act.put, List.setIfInBounds_toArray, List.set_cons_zero, List.set_cons_succ]
                exact stepF_val (by first | rfl | simp [Region.wanted, yielded, *]) (by go_simp <;> omega) ⟨rfl, Below.refl _ _, hR⟩
            · intro v nR x1 hnR hR hall
              have h22 : v 22 = .bool t := hall 22 (by decide)
              clear hall hnR
              simp only [List.drop_succ_cons, List.drop_zero, List.take_succ_cons, List.take_zero, frameF, Act.put, List.setIfInBounds_toArray, List.set_cons_zero, List.set_cons_succ, Nat.zero_add, Nat.reduceAdd, h22]
              have hb2 := hbx.next hR (Nat.le_refl _)
              cases t
              · have HN : Hid ((match File.rowFirst a b left p1 (b.length - (p2 + 1)) (p2 + 1) with | some p2 => some (p1, p2) | none => File.firstGo a b left j (a.length - (p1 + 1)) (p1 + 1)) = R) := Lib.hid (by rw [← HRR.out, ← HT.out, hqv]; simp)
                go_wp2_with fail
                go_roundw
                case rel => exact ⟨p2 + 1, by omega, by go_num, HN, hb2⟩
                case measure => simp [intOf]; omega
              · have HN : Hid (some (p1, p2) = R) := Lib.hid (by rw [← HRR.out, ← HT.out, hqv]; simp)
                go_wp2_with fail
                go_ret2
                exact ⟨by rw [← HN.out]; rfl, hb2⟩
        · have hyi : ¬ (p2 : Int) < (b.length : Int) := by omega
          have hr := HR.out
          rw [show b.length - p2 = 0 by omega, File.rowFirst] at hr
          have HN := Lib.hid hr
          clear hr HR
          go_wp2_with fail
          go_roundw
          case rel => exact ⟨p1 + 1, by omega, by go_num, HN, hbx⟩
          case measure => simp [intOf]; omega
    · have hxi : ¬ (p1 : Int) < (a.length : Int) := by omega
      have hr := HR.out
      rw [show a.length - p1 = 0 by omega, File.firstGo] at hr
      have HN : Hid (none = R) := Lib.hid hr
      clear hr HR
      go_wp2_with fail
      go_ret2
      exact ⟨by rw [← HN.out]; rfl, hbr⟩
set_option maxHeartbeats 8000000 in
theorem rcommon_spec (A : Option Addr) (a : List ByteArray) (c : Nat) (A' : Option Addr) (b : List ByteArray) (c' : Nat) (w : World) (ha : a.length ≤ 24) (hb : b.length ≤ 24) (hac : a.length ≤ c) (hbc : b.length ≤ c') (hsa : Sl strE w A a) (hsb : Sl strE w A' b) :
    Calls Tryz.prog 80 #[.slice A a.length c, .slice A' b.length c'] w fun e w' => ∃ v, e = .returned v ∧ Own pairE 83 w.heap.size w' v (File.common a b) ∧ Below w.heap.size w w' := by
  obtain ⟨L, hL⟩ : ∃ L, L = File.common a b := ⟨_, rfl⟩
  have HL := Lib.hid hL.symm
  rw [← hL]
  have hLl : L.length ≤ 24 := by rw [hL, File.common_length]; exact Nat.le_trans (File.lcs_most _ _) ha
  clear hL
  go_enter Tryz.func80, Tryz.ntmps80
  go_wp2_with fail
  go_loopw [5, 6, 7, 8, 9, 10] (fun u v1 v2 _ _ _ wr => ∃ (i j n : Nat) (out : List (Nat × Nat)), i ≤ a.length ∧ j ≤ b.length ∧ v1 = iv (i : Int) ∧ v2 = iv (j : Int) ∧ Hid (a.length - i < n) ∧ Hid (out ++ File.commonGo a b n i j = L) ∧ Hid (Own pairE 83 w.heap.size wr u out) ∧ Below w.heap.size w wr) (fun _ v1 _ _ _ _ _ => a.length - (intOf v1).toNat)
  case atStart => exact ⟨0, 0, a.length + 1, [], Nat.zero_le _, Nat.zero_le _, rfl, rfl, Lib.hid (by omega), HL, Own.nil, Below.refl _ _⟩
  case round =>
    obtain ⟨i, j, fu, out, hi, hj, rfl, rfl, Hn, HC, HO, hbr⟩ := hrel
    obtain ⟨X1, n1, ya, hya, hyal, hyn, hsy, hC1⟩ := cut_from' (i := i) hac hi (hsa.below hbr)
    obtain ⟨X2, n2, yb, hyb, hybl, hyn2, hsz, hC2⟩ := cut_from' (i := j) hbc hj (hsb.below hbr)
    obtain ⟨F, hF⟩ : ∃ F, F = File.from_ a b i j := ⟨_, rfl⟩
    have hFl : File.lcs ya yb = F := by rw [hF, hya, hyb]; rfl
    have hF24 : F ≤ 24 := by rw [hF]; have := File.from_le a b i j; omega
    have hM := Lib.hid fun W (h : Below wr.heap.size wr W) => most_spec X1 ya n1 X2 yb n2 W (by omega) (by omega) (hsy.below h) (hsz.below h)
    rw [hFl] at hM
    have HF := Lib.hid hF
    clear hF hFl hya hyb hsy hsz
    go_upto_region 3 with fail
    refine wp_free_lit (by kernel_rfl) 8 (by kernel_rfl) (by kernel_rfl) (by decide) (fun nR x => Below wr.heap.size wr x) (fun x x' => Below x.heap.size x x')
      [fun _ u _ => u = .slice A a.length c,
       fun _ u _ => u = iv (i : Int),
       fun _ u _ => u = .slice X1 ya.length n1,
       fun _ u _ => u = .slice A' b.length c',
       fun _ u _ => u = iv (j : Int),
       fun _ u _ => u = .slice X2 yb.length n2,
       fun _ u _ => u = iv (F : Int),
       fun _ u _ => u = iv (F : Int)]
      (Below.refl _ wr).drew ?_ ?_
    · simp only [List.take_succ_cons, List.take_zero, HopL]
      refine ⟨?_, ?_, ?_, ?_, ?_, ?_, ?_, ?_, trivial⟩
      · refine ⟨fun _ _ _ _ _ h => h, fun _ _ _ _ h _ => h, fun v nR x hnR hR hk => ?_⟩
        simp only [List.take_succ_cons, List.take_zero, frameF, Act.put, List.setIfInBounds_toArray, List.set_cons_zero, List.set_cons_succ]
        exact stepF_val (by first | rfl | simp [Region.wanted, yielded, *]) (by go_simp <;> omega) ⟨rfl, Below.refl _ _, hR⟩
      · refine ⟨fun _ _ _ _ _ h => h, fun _ _ _ _ h _ => h, fun v nR x hnR hR hk => ?_⟩
        simp only [List.take_succ_cons, List.take_zero, frameF, Act.put, List.setIfInBounds_toArray, List.set_cons_zero, List.set_cons_succ]
        exact stepF_val (by first | rfl | simp [Region.wanted, yielded, *]) (by go_simp <;> omega) ⟨rfl, Below.refl _ _, hR⟩
      · refine ⟨fun _ _ _ _ _ h => h, fun _ _ _ _ h _ => h, fun v nR x hnR hR hk => ?_⟩
        have h0 : v 0 = .slice A a.length c := hk 0 (by kernel_rfl)
        have h1 : v 1 = iv (i : Int) := hk 1 (by kernel_rfl)
        simp only [List.take_succ_cons, List.take_zero, frameF, Act.put, List.setIfInBounds_toArray, List.set_cons_zero, List.set_cons_succ]
        exact stepF_val (by first | rfl | simp [Region.wanted, yielded, *]) (by go_simp <;> omega) ⟨rfl, Below.refl _ _, hR⟩
      · refine ⟨fun _ _ _ _ _ h => h, fun _ _ _ _ h _ => h, fun v nR x hnR hR hk => ?_⟩
        simp only [List.take_succ_cons, List.take_zero, frameF, Act.put, List.setIfInBounds_toArray, List.set_cons_zero, List.set_cons_succ]
        exact stepF_val (by first | rfl | simp [Region.wanted, yielded, *]) (by go_simp <;> omega) ⟨rfl, Below.refl _ _, hR⟩
      · refine ⟨fun _ _ _ _ _ h => h, fun _ _ _ _ h _ => h, fun v nR x hnR hR hk => ?_⟩
        simp only [List.take_succ_cons, List.take_zero, frameF, Act.put, List.setIfInBounds_toArray, List.set_cons_zero, List.set_cons_succ]
        exact stepF_val (by first | rfl | simp [Region.wanted, yielded, *]) (by go_simp <;> omega) ⟨rfl, Below.refl _ _, hR⟩
      · refine ⟨fun _ _ _ _ _ h => h, fun _ _ _ _ h _ => h, fun v nR x hnR hR hk => ?_⟩
        have h3 : v 3 = .slice A' b.length c' := hk 3 (by kernel_rfl)
        have h4 : v 4 = iv (j : Int) := hk 4 (by kernel_rfl)
        simp only [List.take_succ_cons, List.take_zero, frameF, Act.put, List.setIfInBounds_toArray, List.set_cons_zero, List.set_cons_succ]
        exact stepF_val (by first | rfl | simp [Region.wanted, yielded, *]) (by go_simp <;> omega) ⟨rfl, Below.refl _ _, hR⟩
      · refine ⟨fun _ _ _ _ _ h => h, fun _ _ _ _ h _ => h, fun v nR x hnR hR hk => ?_⟩
        have h2 : v 2 = .slice X1 ya.length n1 := hk 2 (by kernel_rfl)
        have h5 : v 5 = .slice X2 yb.length n2 := hk 5 (by kernel_rfl)
        simp only [List.take_succ_cons, List.take_zero, frameF, Act.put, List.setIfInBounds_toArray, List.set_cons_zero, List.set_cons_succ]
        refine stepF_call (by first | rfl | simp [Region.wanted, yielded, *]) (by go_simp) (hM.out x hR) ?_
        rintro e x' ⟨rfl, hb⟩
        exact ⟨_, rfl, rfl, hb, hR.next hb (Nat.le_refl _)⟩
      · refine ⟨fun _ _ _ _ _ h => h, fun _ _ _ _ h _ => h, fun v nR x hnR hR hk => ?_⟩
        have h6 : v 6 = iv (F : Int) := hk 6 (by kernel_rfl)
        simp only [List.take_succ_cons, List.take_zero, frameF, Act.put, List.setIfInBounds_toArray, List.set_cons_zero, List.set_cons_succ]
        exact stepF_val (by first | rfl | simp [Region.wanted, yielded, *]) (by go_simp <;> omega) ⟨rfl, Below.refl _ _, hR⟩
    · intro v nR x1 hnR hR hall
      have h7 : v 7 = iv (F : Int) := hall 7 (by decide)
      clear hall hnR
      simp only [List.drop_succ_cons, List.drop_zero, List.take_succ_cons, List.take_zero, frameF, Act.put, List.setIfInBounds_toArray, List.set_cons_zero, List.set_cons_succ, Nat.zero_add, Nat.reduceAdd, h7]
      have hb2 := hbr.next hR (Nat.le_refl _)
      have HO2 := Lib.hid (HO.out.below hR)
      obtain ⟨m, hm⟩ : ∃ m, fu = m + 1 := ⟨fu - 1, by have := Hn.out; omega⟩
      have hc := HC.out
      rw [hm, File.commonGo] at hc
      clear HO HC
      by_cases h0 : F = 0
      · have hn := File.first_none (a := a) (b := b) (i := i) (j := j) (by rw [← HF.out]; exact h0)
        rw [hn] at hc
        have hc : out = L := by simpa using hc
        have HC := Lib.hid hc
        have hq : ((F : Int) == 0) = true := by simp; omega
        clear hc hn
        go_wp2_with fail
        go_ret
        exact ⟨_, rfl, by rw [← HC.out]; exact HO2.out, hb2⟩
      · obtain ⟨p, hp⟩ := File.first_some (a := a) (b := b) (i := i) (j := j) (by rw [← HF.out]; omega)
        rw [hp] at hc
        have hps := File.firstGo_some hp
        obtain ⟨f1, f2, _⟩ := File.fits_iff.1 hps.2.2.2.1
        obtain ⟨x, y⟩ := p
        simp only at hc hps f1 f2
        have hFS := first_spec A a c A' b c' i j F x1 ha hb hi hj hF24 hac hbc (hsa.below hb2) (hsb.below hb2)
        rw [HF.out, show File.firstGo a b (File.from_ a b i j) j (a.length - i) i = some (x, y) from hp] at hFS
        have hFS : Calls Tryz.prog 146 #[.slice A a.length c, .slice A' b.length c', iv (i : Int), iv (j : Int), iv (F : Int)] x1 fun e w' => e = .returned (.tuple #[iv (x : Int), iv (y : Int)]) ∧ Below x1.heap.size x1 w' := by rw [HF.out]; exact hFS
        have HC : Hid ((out ++ [(x, y)]) ++ File.commonGo a b m (x + 1) (y + 1) = L) := Lib.hid (by rw [← hc]; simp)
        have hol : out.length + 1 ≤ 24 := by have := congrArg List.length HC.out; simp at this; omega
        have Hm : Hid (a.length - (x + 1) < m) := Lib.hid (by have := Hn.out; have := hps.1; omega)
        have hix := hps.1
        have hq : ((F : Int) == 0) = false := by simp; omega
        have ewx : IntKind.i64.wrap ((x : Int) + 1) = (x : Int) + 1 := IntWalk.i64_in _ (by omega)
        have ewy : IntKind.i64.wrap ((y : Int) + 1) = (y : Int) + 1 := IntWalk.i64_in _ (by omega)
        clear hc hps hp Hn
        go_wp2_with fail
        refine hFS.mono ?_
        rintro e w3 ⟨rfl, hb3⟩
        have hb23 := hb2.next hb3 (Nat.le_refl _)
        have HO3 := Lib.hid (HO2.out.below hb3)
        clear HO2 hFS
        go_wp2_with (first
          | (at_builtin; refine wpApp1 pairE tyArr2 rfl _ _ rfl HO3.out (x, y) rfl rfl rfl hb23.size (by unfold big; omega) ?_; intro v1 w4 hown1 hb1 hk1))
        go_roundw
        case rel => exact ⟨x + 1, y + 1, m, out ++ [(x, y)], by omega, by omega, by go_num, by go_num, Hm, HC, hown1, hb23.trans hb1⟩
        case measure => simp [intOf]; omega
end Fl
end Go.Proofs.YtekkhnjepcebkaaGreatDoor
end
section
namespace Go.Proofs.YtekkhnjepcebkaaGreatDoor
namespace File
def atOk (x : Edit ByteArray) : Bool := inr x.at_
def szOk (x : Edit ByteArray) : Bool := decide (x.old.length ≤ 24) && (decide (x.new.length ≤ 24) && decide (0 < x.old.length + x.new.length))
def allLines (c : List (Edit ByteArray)) : List ByteArray := c.flatMap fun x => x.old ++ x.new
def ordered : List (Edit ByteArray) → Bool
  | x :: y :: r => !decide (y.at_ ≤ x.at_ + (x.old.length : Int)) && ordered (y :: r)
  | _ => true
/-- The error of a change. -/
def checkChange (c : List (Edit ByteArray)) : Int := if c.all atOk then (if c.all szOk then (if lined (allLines c) = 0 then (if ordered c then 0 else 4) else lined (allLines c)) else 2) else 3
end File
namespace Fl
open Go.RowKit
set_option maxRecDepth 100000
set_option maxRecDepth 100000 in
theorem indexEd (A : Option Addr) (l : List EdV) (c : Nat) (K : Nat) (cap : Array Value) (p : EdV → Bool) (w : World) (hm : l.length ≤ big) (hs : Sl edE w A l)
    (hf : IsPred Tryz.prog w K cap EdV.v l p) :
    Calls Tryz.prog 150 #[.slice A l.length c, .func (.func K) #[] cap] w
    fun e w' => e = .returned (iv (findFrom p l 0)) ∧ Below w.heap.size w w' := by
  unfold big at hm
  obtain ⟨hK, hf⟩ := hf
  have HF := Lib.hid hf
  clear hf
  go_enter Tryz.func150, Tryz.ntmps150
  go_wp2
  go_loopw [5, 8] (fun u i wr => ∃ (k : Nat), k ≤ l.length ∧ i = iv k ∧ Hid (findFrom p (l.drop k) k = findFrom p l 0) ∧ Below w.heap.size w wr) (fun _ i _ => l.length - (intOf i).toNat)
  case atStart => exact ⟨0, by omega, rfl, rfl, Below.refl _ _⟩
  case round =>
    obtain ⟨k, hk, rfl, hr, hbw⟩ := hrel
    have hs1 := hs.below hbw
    by_cases hlt : k < l.length
    · obtain ⟨b, off, x, rfl, hb, hx, hc0, hc1, hc2⟩ := Sl.atEd hs1 hlt
      have hd := hr.out
      rw [drop_at hx] at hd
      simp only [findFrom] at hd
      have HD := Lib.hid hd
      clear hd
      cases hp : p x
      · go_wp2_with fail
        refine (HF.out x (mem_at hx) wr hbw).mono ?_
        rintro e w1 ⟨rfl, hb1⟩
        rw [hp]
        go_wp2_with fail
        go_roundw
        case rel => exact ⟨k + 1, by omega, by go_num, by have := HD.out; rw [hp] at this; exact this, hbw.next hb1 (Nat.le_refl _)⟩
        case measure => simp [intOf]; omega
      · go_wp2_with fail
        refine (HF.out x (mem_at hx) wr hbw).mono ?_
        rintro e w1 ⟨rfl, hb1⟩
        rw [hp]
        go_wp2_with fail
        go_ret
        exact ⟨ret_eq (by have := HD.out; rw [hp] at this; rw [← this]; rfl), hbw.next hb1 (Nat.le_refl _)⟩
    · have hd := hr.out
      rw [drop_end hlt] at hd
      have HD := Lib.hid hd
      clear hd
      go_wp2
      go_ret
      exact ⟨ret_eq (by rw [← HD.out]; rfl), hbw⟩
theorem containsEd (A : Option Addr) (l : List EdV) (c : Nat) (K : Nat) (cap : Array Value) (p : EdV → Bool) (w : World) (hm : l.length ≤ big) (hs : Sl edE w A l)
    (hf : IsPred Tryz.prog w K cap EdV.v l p) :
    Calls Tryz.prog 89 #[.slice A l.length c, .func (.func K) #[] cap] w
    fun e w' => e = .returned (.bool (l.any p)) ∧ Below w.heap.size w w' := by
  have HF := Lib.hid hf
  clear hf
  go_enter Tryz.func89, Tryz.ntmps89
  go_wp2_with (go_at_call 150; refine (indexEd A l c K cap p _ hm hs HF.out).mono ?_; rintro e w1 ⟨rfl, hb1⟩)
  go_ret
  exact ⟨ret_eq (by rw [← findFrom_nonneg p l 0 (by omega)]; rfl), hb1⟩
set_option maxRecDepth 100000 in
theorem notEd (K : Nat) (cap : Array Value) (p : EdV → Bool) (w0 w : World) (x : EdV) (l : List EdV) (g : Nat) (hx : x ∈ l) (hg : g < w.heap.size) (hc : w.cell? ⟨g, 0, none⟩ = some (.func (.func K) #[] cap)) (hb : Below w0.heap.size w0 w) (hf : IsPred Tryz.prog w0 K cap EdV.v l p) :
    Calls Tryz.prog 151 #[EdV.v x, .pointer (some ⟨g, 0, none⟩)] w fun e w' => e = .returned (.bool (!p x)) ∧ Below w.heap.size w w' := by
  obtain ⟨hK, hf⟩ := hf
  have HF := Lib.hid (fun w' (h : Below w.heap.size w w') => hf x hx w' (hb.next h (Nat.le_refl _)))
  clear hf hx
  obtain ⟨a, A1, c1, o1, A2, c2, n1⟩ := x; simp only [EdV.v] at HF ⊢
  go_enter Tryz.func151, Tryz.ntmps151
  go_wp2_with fail
  refine (HF.out _ ((Below.refl _ _).alloc (Nat.le_refl _) _)).mono ?_
  rintro e w1 ⟨rfl, hb1⟩
  go_wp2_with fail
  go_ret
  exact ⟨rfl, hb1.of_alloc⟩
set_option maxRecDepth 100000 in
theorem everyEd (A : Option Addr) (l : List EdV) (c : Nat) (K : Nat) (cap : Array Value) (p : EdV → Bool) (w : World) (hm : l.length ≤ big) (hs : Sl edE w A l)
    (hf : IsPred Tryz.prog w K cap EdV.v l p) :
    Calls Tryz.prog 93 #[.slice A l.length c, .func (.func K) #[] cap] w
    fun e w' => e = .returned (.bool (l.all p)) ∧ Below w.heap.size w w' := by
  have HF := Lib.hid hf
  clear hf
  have hsf := fun (a : Addr) (c : Array Value) (w : World) => run_store Tryz.prog w a (.func (.func K) #[] c) .plain rfl
  have hmf : ∀ (fn : Fn) (first cap : Array Value) (w : World), (Instr.makeFunc fn first cap).run Tryz.prog w = .ok (.func fn first cap) w := fun _ _ _ _ => rfl
  go_enter Tryz.func93, Tryz.ntmps93
  go_wp2_with (go_at_call 89; refine (containsEd A l c 151 #[.pointer (some ⟨w.heap.size, 0, none⟩)] (fun x => !p x) _ hm (hs.alloc _) ⟨callFunc_run (by kernel_rfl), fun x hx w' hw' => notEd K cap p w w' x l w.heap.size hx (by have := hw'.size; simp at this; omega) ((hw'.cell (by simp)).trans (by simp [go_sem])) hw'.of_alloc HF.out⟩).mono ?_; rintro e w1 ⟨rfl, hb1⟩)
  go_ret
  exact ⟨ret_eq (by rw [List.not_any_eq_all_not]; simp), hb1.of_alloc⟩
theorem cc1_spec (x : EdV) (w : World) : Calls Tryz.prog 94 #[x.v] w fun e w' => e = .returned (.bool (File.atOk x.ed)) ∧ Below w.heap.size w w' := by
  obtain ⟨a, A1, c1, o1, A2, c2, n1⟩ := x
  have HI := Lib.hid (in_spec a)
  unfold EdV.v
  go_enter Tryz.func94, Tryz.ntmps94
  go_wp2_with (go_at_call 95; refine (HI.out _).mono ?_; rintro e w1 ⟨rfl, rfl⟩)
  go_ret
  exact ⟨rfl, (Below.refl _ _).alloc (Nat.le_refl _) _⟩
theorem cc2_spec (x : EdV) (w : World) (h1 : x.old.length ≤ big) (h2 : x.new.length ≤ big) : Calls Tryz.prog 96 #[x.v] w fun e w' => e = .returned (.bool (File.szOk x.ed)) ∧ Below w.heap.size w w' := by
  obtain ⟨a, A1, c1, o1, A2, c2, n1⟩ := x
  have hz : File.szOk (EdV.ed ⟨a, A1, c1, o1, A2, c2, n1⟩) = (decide (o1.length ≤ 24) && (decide (n1.length ≤ 24) && decide (0 < o1.length + n1.length))) := rfl
  rw [hz]
  clear hz
  unfold EdV.v
  simp only at h1 h2 ⊢
  unfold big at h1 h2
  by_cases k1 : o1.length ≤ 24
  · have i1 : (o1.length : Int) ≤ 24 := by omega
    by_cases k2 : n1.length ≤ 24
    · have i2 : (n1.length : Int) ≤ 24 := by omega
      have hd : decide (0 < o1.length + n1.length) = decide ((0 : Int) < (o1.length : Int) + (n1.length : Int)) := by rw [decide_eq_decide]; omega
      rw [decide_eq_true k1, decide_eq_true k2, hd]
      clear hd
      go_enter Tryz.func96, Tryz.ntmps96
      go_wp2_with fail
      go_ret
      exact ⟨by simp, (Below.refl _ _).alloc (Nat.le_refl _) _⟩
    · have i2 : ¬ (n1.length : Int) ≤ 24 := by omega
      rw [decide_eq_true k1, decide_eq_false k2]
      go_enter Tryz.func96, Tryz.ntmps96
      go_wp2_with fail
      go_ret
      exact ⟨rfl, (Below.refl _ _).alloc (Nat.le_refl _) _⟩
  · have i1 : ¬ (o1.length : Int) ≤ 24 := by omega
    rw [decide_eq_false k1]
    go_enter Tryz.func96, Tryz.ntmps96
    go_wp2_with fail
    go_ret
    exact ⟨rfl, (Below.refl _ _).alloc (Nat.le_refl _) _⟩
theorem any_ed (vs : List EdV) (p : File.Edit ByteArray → Bool) : (vs.all fun r => p r.ed) = (vs.map EdV.ed).all p := by rw [List.all_map]; rfl
set_option maxHeartbeats 8000000 in
theorem cc_spec (A : Option Addr) (vs : List EdV) (c : Nat) (w : World) (hm : vs.length ≤ 1000) (hs : Sl edE w A vs) (hok : ∀ r ∈ vs, EdOk w r) (hb1 : ∀ r ∈ vs, r.old.length ≤ big ∧ r.new.length ≤ big) :
    Calls Tryz.prog 34 #[.slice A vs.length c] w fun e w' => e = .returned (iv (File.checkChange (vs.map EdV.ed))) ∧ Below w.heap.size w w' := by
  have hbig : vs.length ≤ big := by unfold big; omega
  have HE1 := Lib.hid (everyEd A vs c 94 #[] (fun r => File.atOk r.ed) w hbig hs ⟨callFunc_run (by kernel_rfl), fun x hx w' hw' => cc1_spec x w'⟩)
  have HE2 := Lib.hid (fun W (h : Below w.heap.size w W) => everyEd A vs c 96 #[] (fun r => File.szOk r.ed) W hbig (hs.below h) ⟨callFunc_run (by kernel_rfl), fun x hx w' hw' => cc2_spec x w' (hb1 x hx).1 (hb1 x hx).2⟩)
  rw [any_ed] at HE1
  simp only [any_ed] at HE2
  obtain ⟨ans, hans⟩ : ∃ ans, ans = File.checkChange (vs.map EdV.ed) := ⟨_, rfl⟩
  rw [← hans]
  unfold File.checkChange at hans
  cases ha1 : (vs.map EdV.ed).all File.atOk
  · rw [ha1] at HE1
    have HA : Hid (ans = 3) := Lib.hid (by rw [hans, ha1]; rfl)
    clear hans ha1
    go_enter Tryz.func34, Tryz.ntmps34
    go_wp2_with fail
    refine HE1.out.mono ?_
    rintro _ w1 ⟨rfl, hb⟩
    go_wp2_with fail
    go_ret
    exact ⟨ret_eq (by rw [HA.out]; rfl), hb⟩
  · rw [ha1] at HE1
    cases ha2 : (vs.map EdV.ed).all File.szOk
    · simp only [ha2] at HE2
      have HA : Hid (ans = 2) := Lib.hid (by rw [hans, ha1, ha2]; rfl)
      clear hans ha1 ha2
      go_enter Tryz.func34, Tryz.ntmps34
      go_wp2_with fail
      refine HE1.out.mono ?_
      rintro _ w1 ⟨rfl, hb⟩
      go_wp2_with fail
      refine (HE2.out w1 hb).mono ?_
      rintro _ w2 ⟨rfl, hb2⟩
      go_wp2_with fail
      go_ret
      exact ⟨ret_eq (by rw [HA.out]; rfl), hb.next hb2 (Nat.le_refl _)⟩
    · simp only [ha2] at HE2
      have HSZ : Hid (∀ r ∈ vs, 0 ≤ r.at_ ∧ r.at_ ≤ 24 ∧ r.old.length ≤ 24 ∧ r.new.length ≤ 24) := Lib.hid fun r hr => by
        have h1 := List.all_eq_true.1 ha1 r.ed (List.mem_map_of_mem hr)
        have h2 := List.all_eq_true.1 ha2 r.ed (List.mem_map_of_mem hr)
        have k1 : (decide (0 ≤ r.at_) && decide (r.at_ ≤ 24)) = true := h1
        have k2 : (decide (r.old.length ≤ 24) && (decide (r.new.length ≤ 24) && decide (0 < r.old.length + r.new.length))) = true := h2
        rw [Bool.and_eq_true, decide_eq_true_eq, decide_eq_true_eq] at k1
        rw [Bool.and_eq_true, Bool.and_eq_true, decide_eq_true_eq, decide_eq_true_eq] at k2
        exact ⟨k1.1, k1.2, k2.1, k2.2.1⟩
      have HA : Hid (ans = if File.lined (File.allLines (vs.map EdV.ed)) = 0 then (if File.ordered (vs.map EdV.ed) then 0 else 4) else File.lined (File.allLines (vs.map EdV.ed))) := Lib.hid (by rw [hans, ha1, ha2]; rfl)
      have HOK := Lib.hid hok
      clear hans ha1 ha2 hok hb1
      go_enter Tryz.func34, Tryz.ntmps34
      go_wp2_with fail
      refine HE1.out.mono ?_
      rintro _ w1 ⟨rfl, hb⟩
      go_wp2_with fail
      refine (HE2.out w1 hb).mono ?_
      rintro _ w2 ⟨rfl, hb2⟩
      have hb02 := hb.next hb2 (Nat.le_refl _)
      clear HE1 HE2 hb hb2
      go_wp2_with fail
      go_loopw [3, 5, 18] (fun v _ i wr => ∃ (k : Nat) (acc : List ByteArray), k ≤ vs.length ∧ i = iv k ∧ Hid (Own strE 9 w2.heap.size wr v acc) ∧ Hid (acc ++ File.allLines ((vs.map EdV.ed).drop k) = File.allLines (vs.map EdV.ed)) ∧ acc.length ≤ k * 48 ∧ Below w2.heap.size w2 wr) (fun _ _ i _ => vs.length - (intOf i).toNat)
      case atStart => exact ⟨0, [], by omega, rfl, Own.nil, rfl, by simp, Below.refl _ _⟩
      case round =>
        obtain ⟨k, acc, hk, rfl, HO, HL, hal, hbr⟩ := hrel
        by_cases hlt : k < vs.length
        · have hki : (k : Int) < (vs.length : Int) := by omega
          have hb0r := hb02.next hbr (Nat.le_refl _)
          obtain ⟨b, off, x, rfl, hb0, hx, hc0, hc1, hc2⟩ := Sl.atEd (hs.below hb0r) hlt
          have hxok := (HOK.out x (mem_at hx)).below hb0r
          have HXO0 : Hid (∀ z : World, Below w2.heap.size w2 z → Sl strE z x.A x.old) := Lib.hid fun z h => ((HOK.out x (mem_at hx)).below (hb02.next h (Nat.le_refl _))).old
          have HXN0 : Hid (∀ z : World, Below w2.heap.size w2 z → Sl strE z x.A' x.new) := Lib.hid fun z h => ((HOK.out x (mem_at hx)).below (hb02.next h (Nat.le_refl _))).new
          have hxs := HSZ.out x (mem_at hx)
          have hL := HL.out
          rw [show (vs.map EdV.ed).drop k = x.ed :: (vs.map EdV.ed).drop (k + 1) from drop_at (by rw [List.getElem?_map, hx]; rfl)] at hL
          have HLN : Hid ((acc ++ x.old ++ x.new) ++ File.allLines ((vs.map EdV.ed).drop (k + 1)) = File.allLines (vs.map EdV.ed)) := Lib.hid (by
            rw [← hL]; simp [File.allLines, EdV.ed])
          obtain ⟨xa, xA, xc, xo, xA', xc', xn⟩ := x
          simp only at hc0 hc1 hc2 hxs HLN HXO0 HXN0
          have hbM : Below wr.heap.size wr (wr.alloc (.cells #[iv xa, .slice xA xo.length xc, .slice xA' xn.length xc'] 53)) := (Below.refl _ _).alloc (Nat.le_refl _) _
          have hM : Blk (wr.alloc (.cells #[iv xa, .slice xA xo.length xc, .slice xA' xn.length xc'] 53)) wr.heap.size 53 #[iv xa, .slice xA xo.length xc, .slice xA' xn.length xc'] := Blk.new _ _ _
          obtain ⟨Ax, cx, rfl, _, _⟩ := HO.out.form
          go_upto_region 9 with fail
          generalize wr.alloc (.cells #[iv xa, .slice xA xo.length xc, .slice xA' xn.length xc'] 53) = w4 at *
          have l1 := hM.lt
          have HO4 := Lib.hid ((HO.out.below hbM).below (Below.refl w4.heap.size w4).drew)
          have HNEB : Hid ((Value.slice Ax acc.length cx).ownBlock ≠ some wr.heap.size) := Lib.hid fun e => Nat.lt_irrefl _ (HO.out.lt _ e).2
          have HS0 : Hid (∀ z : World, Below w2.heap.size w4 z ∧ z.heap[wr.heap.size]? = w4.heap[wr.heap.size]? → Below w2.heap.size w4 z ∧ (z.cell? ⟨wr.heap.size, 0, none⟩ = some (iv xa) ∧ z.cell? ⟨wr.heap.size, 1, none⟩ = some (.slice xA xo.length xc) ∧ z.cell? ⟨wr.heap.size, 2, none⟩ = some (.slice xA' xn.length xc'))) := Lib.hid fun z h => by
            have hz : Blk z wr.heap.size 53 #[iv xa, .slice xA xo.length xc, .slice xA' xn.length xc'] := h.2.trans hM
            exact ⟨h.1, hz.cell 0, hz.cell 1, hz.cell 2⟩
          have HK0 := Lib.hid (HS0.out w4.drew ⟨(Below.refl _ _).drew, rfl⟩)
          have HX0 : Hid (Below w2.heap.size w4 w4.drew ∧ w4.drew.heap[wr.heap.size]? = w4.heap[wr.heap.size]?) := Lib.hid ⟨(Below.refl _ _).drew, rfl⟩
          have hb24 : Below w2.heap.size w2 w4 := hbr.trans (hbM.mono hbr.size)
          have HOL : Hid (∀ z : World, Below w2.heap.size w4 z → Sl strE z xA xo) := Lib.hid fun z h => HXO0.out z (hb24.trans h)
          have HNE : Hid (∀ z : World, Below w2.heap.size w4 z → Sl strE z xA' xn) := Lib.hid fun z h => HXN0.out z (hb24.trans h)
          have HZ4 := Lib.hid hb24.size
          have HB24 := Lib.hid hb24
          have HBG : Hid (acc.length + xo.length ≤ big) := Lib.hid (by unfold big; omega)
          have HBG2 : Hid ((acc ++ xo).length + xn.length ≤ big) := Lib.hid (by rw [List.length_append]; unfold big; omega)
          have HBM : Hid (∀ z : World, Hid (Below w2.heap.size w4 z ∧ z.heap[wr.heap.size]? = w4.heap[wr.heap.size]?) → Blk z wr.heap.size 53 #[iv xa, .slice xA xo.length xc, .slice xA' xn.length xc']) := Lib.hid fun z h => h.out.2.trans hM
          have HZX : Hid (∀ z : World, Hid (Below w2.heap.size w4 z ∧ z.heap[wr.heap.size]? = w4.heap[wr.heap.size]?) → w4.heap.size ≤ z.heap.size) := Lib.hid fun z h => h.out.1.size
          clear hM HO hbM hb24 hb0r hxok hbr
          go_region_held3 (fun z => Below w2.heap.size w4 z ∧ (z.cell? ⟨wr.heap.size, 0, none⟩ = some (iv xa) ∧ z.cell? ⟨wr.heap.size, 1, none⟩ = some (.slice xA xo.length xc) ∧ z.cell? ⟨wr.heap.size, 2, none⟩ = some (.slice xA' xn.length xc')))
            (first | with_reducible assumption | exact HK0.out | exact HS0.out _ HX2.out | exact HS0.out _ HX1.out)
            (first
              | (refine stepAppA strE tyStrs (by rfl) _ _ (by rfl) HO4.out (HOL.out _ HX0.out.1) rfl (by rfl) (by rfl) HZ4.out HBG.out ?_; intro v1 x1 ho1 hbx1 hkx1; have HX1 : Hid (Below w2.heap.size w4 x1 ∧ x1.heap[wr.heap.size]? = w4.heap[wr.heap.size]?) := Lib.hid ⟨HX0.out.1.trans hbx1, hkx1 _ l1 HNEB.out⟩; have HO1 := Lib.hid ho1; have HZ1 := Lib.hid (Nat.le_trans HZ4.out HX1.out.1.size); clear ho1 hbx1 hkx1)
              | (refine stepAppA strE tyStrs (by rfl) _ _ (by rfl) HO1.out (HNE.out _ HX1.out.1) rfl (by rfl) (by rfl) HZ1.out HBG2.out ?_; intro v2 x2 ho2 hbx2 hkx2; have HX2 : Hid (Below w2.heap.size w4 x2 ∧ x2.heap[wr.heap.size]? = w4.heap[wr.heap.size]?) := Lib.hid ⟨HX1.out.1.trans hbx2, (hkx2 _ (Nat.lt_of_lt_of_le l1 (HZX.out _ HX1)) (ownNeBlk HO1.out (HBM.out _ HX1) (by decide))).trans HX1.out.2⟩; have HO2 := Lib.hid ho2; clear ho2 hbx2 hkx2))
          all_goals
            go_wp2_with fail
            go_roundw
            case rel => exact ⟨k + 1, acc ++ xo ++ xn, by omega, by go_num, HO2, HLN, by simp only [List.length_append]; omega, HB24.out.trans HX2.out.1⟩
            case measure => simp [intOf]; omega
        · have hki : ¬ (k : Int) < (vs.length : Int) := by omega
          have hL := HL.out
          rw [show (vs.map EdV.ed).drop k = [] from List.drop_eq_nil_of_le (by rw [List.length_map]; omega)] at hL
          simp only [File.allLines, List.flatMap_nil, List.append_nil] at hL
          obtain ⟨Ax, cx, rfl, _, _⟩ := HO.out.form
          have hacc : acc.length ≤ big := by unfold big; omega
          have HLD := Lib.hid (lined_spec Ax acc cx wr hacc HO.out.sl)
          have hall : acc = File.allLines (vs.map EdV.ed) := hL
          rw [← hall] at HA
          have hb0r := hb02.next hbr (Nat.le_refl _)
          clear HL hL HO hall hbr hal hacc
          by_cases hz : File.lined acc = 0
          · rw [if_pos hz] at HA
            rw [hz] at HLD
            clear hz
            go_wp2_with fail
            refine HLD.out.mono ?_
            rintro _ w5 ⟨rfl, hb5⟩
            have hb05 := hb0r.next hb5 (Nat.le_refl _)
            clear HLD hb5 hb0r
            go_wp2_with fail
            go_loopw [7] (fun i wr => ∃ q : Nat, i = iv ((q : Int) + 1) ∧ (q = 0 ∨ q < vs.length) ∧ Hid (File.ordered ((vs.map EdV.ed).drop q) = File.ordered (vs.map EdV.ed)) ∧ Below w5.heap.size w5 wr) (fun i _ => vs.length + 1 - (intOf i).toNat)
            case atStart => exact ⟨0, rfl, .inl rfl, rfl, Below.refl _ _⟩
            case round =>
              obtain ⟨q, rfl, hq, HOR, hbr⟩ := hrel
              have hb0r := hb05.next hbr (Nat.le_refl _)
              by_cases hlt : q + 1 < vs.length
              · obtain ⟨k, hk⟩ : ∃ k, k = q + 1 := ⟨_, rfl⟩
                have hkq : (q : Int) + 1 = (k : Int) := by omega
                rw [← hk] at hlt
                have hki : (k : Int) < (vs.length : Int) := by omega
                obtain ⟨b, off, y, rfl, hb0, hy, hc0, _, _⟩ := Sl.atEd (hs.below hb0r) hlt
                obtain ⟨b', off', x0, hA', _, hx, hd0, hd1, _⟩ := Sl.atEd (hs.below hb0r) (show q < vs.length by omega)
                injection hA' with hA'
                injection hA' with e1 e2 _
                subst e1; subst e2
                have hxs := HSZ.out x0 (mem_at hx)
                have hys := HSZ.out y (mem_at hy)
                have hd := HOR.out
                rw [show (vs.map EdV.ed).drop q = x0.ed :: (vs.map EdV.ed).drop (q + 1) from drop_at (by rw [List.getElem?_map, hx]; rfl), show (vs.map EdV.ed).drop (q + 1) = y.ed :: (vs.map EdV.ed).drop (k + 1) from by rw [← hk]; exact drop_at (by rw [List.getElem?_map, hy]; rfl), File.ordered] at hd
                have HXC : Hid (∀ x, Below wr.heap.size wr x → x.cell? ⟨b, off + q * 3, none⟩ = some (iv x0.at_) ∧ x.cell? ⟨b, off + q * 3 + 1, none⟩ = some (.slice x0.A x0.old.length x0.c)) := Lib.hid fun x h => ⟨(h.cell (p := ⟨b, off + q * 3, none⟩) hb0).trans hd0, (h.cell (p := ⟨b, off + q * 3 + 1, none⟩) hb0).trans hd1⟩
                have HYC : Hid (∀ x, Below wr.heap.size wr x → x.cell? ⟨b, off + k * 3, none⟩ = some (iv y.at_)) := Lib.hid fun x h => (h.cell (p := ⟨b, off + k * 3, none⟩) hb0).trans hc0
                obtain ⟨nb, hnb⟩ : ∃ nb, nb = decide (y.at_ ≤ x0.at_ + (x0.old.length : Int)) := ⟨_, rfl⟩
                have hnb' : decide (y.at_ ≤ x0.at_ + (x0.old.length : Int)) = nb := hnb.symm
                have HD : Hid ((!nb && File.ordered (y.ed :: (vs.map EdV.ed).drop (k + 1))) = File.ordered (vs.map EdV.ed)) := Lib.hid (by rw [hnb]; exact hd)
                have HKD : Hid ((vs.map EdV.ed).drop k = y.ed :: (vs.map EdV.ed).drop (k + 1)) := Lib.hid (drop_at (by rw [List.getElem?_map, hy]; rfl))
                have eq1 : IntKind.i64.wrap ((k : Int) - 1) = (q : Int) := by rw [show (k : Int) - 1 = (q : Int) by omega]; exact IntWalk.i64_in _ (by omega)
                have eq2 : (k : Int) - 1 = (q : Int) := by omega
                have eq3 : IntKind.i64.wrap (q : Int) = (q : Int) := IntWalk.i64_in _ (by omega)
                have eq4 : IntKind.i64.wrap (x0.at_ + (x0.old.length : Int)) = x0.at_ + (x0.old.length : Int) := IntWalk.i64_in _ (by omega)
                have hqi : (q : Int) < (vs.length : Int) := by omega
                have hql : q < vs.length := by omega
                have HKQ := Lib.hid hk
                rw [hkq]
                clear hd hc0 hd0 hd1 hx hy hk hkq HOR hq hnb HSZ HOK
                go_wp2_with fail
                refine wp_free_lit (by kernel_rfl) 20 (by kernel_rfl) (by kernel_rfl) (by decide) (fun _ x => Below wr.heap.size wr x) (fun x x' => Below x.heap.size x x')
                  [fun _ u _ => u = .slice (some ⟨b, off, none⟩) vs.length c,
                   fun _ u _ => u = iv (k : Int),
                   fun _ u _ => u = .pointer (some ⟨b, off + k * 3, none⟩),
                   fun _ u _ => u = .pointer (some ⟨b, off + k * 3, none⟩),
                   fun _ u _ => u = iv y.at_,
                   fun _ u _ => u = .slice (some ⟨b, off, none⟩) vs.length c,
                   fun _ u _ => u = iv (k : Int),
                   fun _ u _ => u = iv (q : Int),
                   fun _ u _ => u = .pointer (some ⟨b, off + q * 3, none⟩),
                   fun _ u _ => u = .pointer (some ⟨b, off + q * 3, none⟩),
                   fun _ u _ => u = iv x0.at_,
                   fun _ u _ => u = .slice (some ⟨b, off, none⟩) vs.length c,
                   fun _ u _ => u = iv (k : Int),
                   fun _ u _ => u = iv (q : Int),
                   fun _ u _ => u = .pointer (some ⟨b, off + q * 3, none⟩),
                   fun _ u _ => u = .pointer (some ⟨b, off + q * 3 + 1, none⟩),
                   fun _ u _ => u = .slice x0.A x0.old.length x0.c,
                   fun _ u _ => u = iv (x0.old.length : Int),
                   fun _ u _ => u = iv (x0.at_ + (x0.old.length : Int)),
                   fun _ u _ => u = .bool nb]
                  (Below.refl _ wr).drew ?_ ?_
                · simp only [List.take_succ_cons, List.take_zero, HopL]
                  refine ⟨?_, ?_, ?_, ?_, ?_, ?_, ?_, ?_, ?_, ?_, ?_, ?_, ?_, ?_, ?_, ?_, ?_, ?_, ?_, ?_, trivial⟩
                  · refine ⟨fun _ _ _ _ _ h => h, fun _ _ _ _ h _ => h, fun v n x hn hR hk => ?_⟩
                    simp only [List.take_succ_cons, List.take_zero, frameF, Act.put, List.setIfInBounds_toArray, List.set_cons_zero, List.set_cons_succ]
                    exact stepF_val (by first | rfl | simp [Region.wanted, yielded, *]) (by go_simp <;> omega) ⟨rfl, Below.refl _ _, hR⟩
                  · refine ⟨fun _ _ _ _ _ h => h, fun _ _ _ _ h _ => h, fun v n x hn hR hk => ?_⟩
                    simp only [List.take_succ_cons, List.take_zero, frameF, Act.put, List.setIfInBounds_toArray, List.set_cons_zero, List.set_cons_succ]
                    exact stepF_val (by first | rfl | simp [Region.wanted, yielded, *]) (by go_simp <;> omega) ⟨rfl, Below.refl _ _, hR⟩
                  · refine ⟨fun _ _ _ _ _ h => h, fun _ _ _ _ h _ => h, fun v n x hn hR hk => ?_⟩
                    have h0 : v 0 = .slice (some ⟨b, off, none⟩) vs.length c := hk 0 (by kernel_rfl)
                    have h1 : v 1 = iv (k : Int) := hk 1 (by kernel_rfl)
                    simp only [List.take_succ_cons, List.take_zero, frameF, Act.put, List.setIfInBounds_toArray, List.set_cons_zero, List.set_cons_succ]
                    exact stepF_val (by first | rfl | simp [Region.wanted, yielded, *]) (by go_simp <;> omega) ⟨rfl, Below.refl _ _, hR⟩
                  · refine ⟨fun _ _ _ _ _ h => h, fun _ _ _ _ h _ => h, fun v n x hn hR hk => ?_⟩
                    have h2 : v 2 = .pointer (some ⟨b, off + k * 3, none⟩) := hk 2 (by kernel_rfl)
                    simp only [List.take_succ_cons, List.take_zero, frameF, Act.put, List.setIfInBounds_toArray, List.set_cons_zero, List.set_cons_succ]
                    exact stepF_val (by first | rfl | simp [Region.wanted, yielded, *]) (by go_simp <;> omega) ⟨rfl, Below.refl _ _, hR⟩
                  · refine ⟨fun _ _ _ _ _ h => h, fun _ _ _ _ h _ => h, fun v n x hn hR hk => ?_⟩
                    have h3 : v 3 = .pointer (some ⟨b, off + k * 3, none⟩) := hk 3 (by kernel_rfl)
                    have g2 := HYC.out x hR
                    simp only [List.take_succ_cons, List.take_zero, frameF, Act.put, List.setIfInBounds_toArray, List.set_cons_zero, List.set_cons_succ]
                    exact stepF_val (by first | rfl | simp [Region.wanted, yielded, *]) (by go_simp <;> omega) ⟨rfl, Below.refl _ _, hR⟩
                  · refine ⟨fun _ _ _ _ _ h => h, fun _ _ _ _ h _ => h, fun v n x hn hR hk => ?_⟩
                    simp only [List.take_succ_cons, List.take_zero, frameF, Act.put, List.setIfInBounds_toArray, List.set_cons_zero, List.set_cons_succ]
                    exact stepF_val (by first | rfl | simp [Region.wanted, yielded, *]) (by go_simp <;> omega) ⟨rfl, Below.refl _ _, hR⟩
                  · refine ⟨fun _ _ _ _ _ h => h, fun _ _ _ _ h _ => h, fun v n x hn hR hk => ?_⟩
                    simp only [List.take_succ_cons, List.take_zero, frameF, Act.put, List.setIfInBounds_toArray, List.set_cons_zero, List.set_cons_succ]
                    exact stepF_val (by first | rfl | simp [Region.wanted, yielded, *]) (by go_simp <;> omega) ⟨rfl, Below.refl _ _, hR⟩
                  · refine ⟨fun _ _ _ _ _ h => h, fun _ _ _ _ h _ => h, fun v n x hn hR hk => ?_⟩
                    have h6 : v 6 = iv (k : Int) := hk 6 (by kernel_rfl)
                    simp only [List.take_succ_cons, List.take_zero, frameF, Act.put, List.setIfInBounds_toArray, List.set_cons_zero, List.set_cons_succ]
                    exact stepF_val (by first | rfl | simp [Region.wanted, yielded, *]) (by go_simp <;> omega) ⟨rfl, Below.refl _ _, hR⟩
                  · refine ⟨fun _ _ _ _ _ h => h, fun _ _ _ _ h _ => h, fun v n x hn hR hk => ?_⟩
                    have h5 : v 5 = .slice (some ⟨b, off, none⟩) vs.length c := hk 5 (by kernel_rfl)
                    have h7 : v 7 = iv (q : Int) := hk 7 (by kernel_rfl)
                    simp only [List.take_succ_cons, List.take_zero, frameF, Act.put, List.setIfInBounds_toArray, List.set_cons_zero, List.set_cons_succ]
                    exact stepF_val (by first | rfl | simp [Region.wanted, yielded, *]) (by go_simp <;> omega) ⟨rfl, Below.refl _ _, hR⟩
                  · refine ⟨fun _ _ _ _ _ h => h, fun _ _ _ _ h _ => h, fun v n x hn hR hk => ?_⟩
                    have h8 : v 8 = .pointer (some ⟨b, off + q * 3, none⟩) := hk 8 (by kernel_rfl)
                    simp only [List.take_succ_cons, List.take_zero, frameF, Act.put, List.setIfInBounds_toArray, List.set_cons_zero, List.set_cons_succ]
                    exact stepF_val (by first | rfl | simp [Region.wanted, yielded, *]) (by go_simp <;> omega) ⟨rfl, Below.refl _ _, hR⟩
                  · refine ⟨fun _ _ _ _ _ h => h, fun _ _ _ _ h _ => h, fun v n x hn hR hk => ?_⟩
                    have h9 : v 9 = .pointer (some ⟨b, off + q * 3, none⟩) := hk 9 (by kernel_rfl)
                    obtain ⟨g0, g1⟩ := HXC.out x hR
                    simp only [List.take_succ_cons, List.take_zero, frameF, Act.put, List.setIfInBounds_toArray, List.set_cons_zero, List.set_cons_succ]
                    exact stepF_val (by first | rfl | simp [Region.wanted, yielded, *]) (by go_simp <;> omega) ⟨rfl, Below.refl _ _, hR⟩
                  · refine ⟨fun _ _ _ _ _ h => h, fun _ _ _ _ h _ => h, fun v n x hn hR hk => ?_⟩
                    simp only [List.take_succ_cons, List.take_zero, frameF, Act.put, List.setIfInBounds_toArray, List.set_cons_zero, List.set_cons_succ]
                    exact stepF_val (by first | rfl | simp [Region.wanted, yielded, *]) (by go_simp <;> omega) ⟨rfl, Below.refl _ _, hR⟩
                  · refine ⟨fun _ _ _ _ _ h => h, fun _ _ _ _ h _ => h, fun v n x hn hR hk => ?_⟩
                    simp only [List.take_succ_cons, List.take_zero, frameF, Act.put, List.setIfInBounds_toArray, List.set_cons_zero, List.set_cons_succ]
                    exact stepF_val (by first | rfl | simp [Region.wanted, yielded, *]) (by go_simp <;> omega) ⟨rfl, Below.refl _ _, hR⟩
                  · refine ⟨fun _ _ _ _ _ h => h, fun _ _ _ _ h _ => h, fun v n x hn hR hk => ?_⟩
                    have h12 : v 12 = iv (k : Int) := hk 12 (by kernel_rfl)
                    simp only [List.take_succ_cons, List.take_zero, frameF, Act.put, List.setIfInBounds_toArray, List.set_cons_zero, List.set_cons_succ]
                    exact stepF_val (by first | rfl | simp [Region.wanted, yielded, *]) (by go_simp <;> omega) ⟨rfl, Below.refl _ _, hR⟩
                  · refine ⟨fun _ _ _ _ _ h => h, fun _ _ _ _ h _ => h, fun v n x hn hR hk => ?_⟩
                    have h11 : v 11 = .slice (some ⟨b, off, none⟩) vs.length c := hk 11 (by kernel_rfl)
                    have h13 : v 13 = iv (q : Int) := hk 13 (by kernel_rfl)
                    simp only [List.take_succ_cons, List.take_zero, frameF, Act.put, List.setIfInBounds_toArray, List.set_cons_zero, List.set_cons_succ]
                    exact stepF_val (by first | rfl | simp [Region.wanted, yielded, *]) (by go_simp <;> omega) ⟨rfl, Below.refl _ _, hR⟩
                  · refine ⟨fun _ _ _ _ _ h => h, fun _ _ _ _ h _ => h, fun v n x hn hR hk => ?_⟩
                    have h14 : v 14 = .pointer (some ⟨b, off + q * 3, none⟩) := hk 14 (by kernel_rfl)
                    simp only [List.take_succ_cons, List.take_zero, frameF, Act.put, List.setIfInBounds_toArray, List.set_cons_zero, List.set_cons_succ]
                    exact stepF_val (by first | rfl | simp [Region.wanted, yielded, *]) (by go_simp <;> omega) ⟨rfl, Below.refl _ _, hR⟩
                  · refine ⟨fun _ _ _ _ _ h => h, fun _ _ _ _ h _ => h, fun v n x hn hR hk => ?_⟩
                    have h15 : v 15 = .pointer (some ⟨b, off + q * 3 + 1, none⟩) := hk 15 (by kernel_rfl)
                    obtain ⟨g0, g1⟩ := HXC.out x hR
                    simp only [List.take_succ_cons, List.take_zero, frameF, Act.put, List.setIfInBounds_toArray, List.set_cons_zero, List.set_cons_succ]
                    exact stepF_val (by first | rfl | simp [Region.wanted, yielded, *]) (by go_simp <;> omega) ⟨rfl, Below.refl _ _, hR⟩
                  · refine ⟨fun _ _ _ _ _ h => h, fun _ _ _ _ h _ => h, fun v n x hn hR hk => ?_⟩
                    have h16 : v 16 = .slice x0.A x0.old.length x0.c := hk 16 (by kernel_rfl)
                    simp only [List.take_succ_cons, List.take_zero, frameF, Act.put, List.setIfInBounds_toArray, List.set_cons_zero, List.set_cons_succ]
                    exact stepF_val (by first | rfl | simp [Region.wanted, yielded, *]) (by go_simp <;> omega) ⟨rfl, Below.refl _ _, hR⟩
                  · refine ⟨fun _ _ _ _ _ h => h, fun _ _ _ _ h _ => h, fun v n x hn hR hk => ?_⟩
                    have h10 : v 10 = iv x0.at_ := hk 10 (by kernel_rfl)
                    have h17 : v 17 = iv (x0.old.length : Int) := hk 17 (by kernel_rfl)
                    simp only [List.take_succ_cons, List.take_zero, frameF, Act.put, List.setIfInBounds_toArray, List.set_cons_zero, List.set_cons_succ]
                    exact stepF_val (by first | rfl | simp [Region.wanted, yielded, *]) (by go_simp <;> omega) ⟨rfl, Below.refl _ _, hR⟩
                  · refine ⟨fun _ _ _ _ _ h => h, fun _ _ _ _ h _ => h, fun v n x hn hR hk => ?_⟩
                    have h4 : v 4 = iv y.at_ := hk 4 (by kernel_rfl)
                    have h18 : v 18 = iv (x0.at_ + (x0.old.length : Int)) := hk 18 (by kernel_rfl)
                    simp only [List.take_succ_cons, List.take_zero, frameF, Act.put, List.setIfInBounds_toArray, List.set_cons_zero, List.set_cons_succ]
                    exact stepF_val (by first | rfl | simp [Region.wanted, yielded, *]) (by go_simp <;> omega) ⟨rfl, Below.refl _ _, hR⟩
                · intro v n x hn hR hall
                  have h19 : v 19 = .bool nb := hall 19 (by decide)
                  clear hall hn
                  simp only [List.drop_succ_cons, List.drop_zero, List.drop_nil, List.take_succ_cons, List.take_zero, frameF, Act.put, List.setIfInBounds_toArray, List.set_cons_zero, List.set_cons_succ, Nat.zero_add, Nat.reduceAdd, h19]
                  have hbz := hbr.next hR (Nat.le_refl _)
                  cases nb
                  · have HN : Hid (File.ordered ((vs.map EdV.ed).drop k) = File.ordered (vs.map EdV.ed)) := Lib.hid (by rw [HKD.out]; exact HD.out)
                    go_wp2_with fail
                    go_roundw
                    case rel => exact ⟨k, by go_num, .inr hlt, HN, hbz⟩
                    case measure => simp [intOf]; omega
                  · have HN : Hid (ans = 4) := Lib.hid (by rw [HA.out, ← HD.out]; rfl)
                    go_wp2_with fail
                    go_ret
                    exact ⟨ret_eq (by rw [HN.out]; rfl), hb05.next hbz (Nat.le_refl _)⟩
              · have hki : ¬ (q : Int) + 1 < (vs.length : Int) := by omega
                have HN : Hid (ans = 0) := Lib.hid (by
                  have ho : File.ordered ((vs.map EdV.ed).drop q) = true := by
                    have hl : ((vs.map EdV.ed).drop q).length ≤ 1 := by rw [List.length_drop, List.length_map]; omega
                    match hd : (vs.map EdV.ed).drop q, hl with
                    | [], _ => rfl
                    | [_], _ => rfl
                    | _ :: _ :: _, h => simp at h
                  rw [HA.out, ← HOR.out, ho]; rfl)
                clear HOR hlt
                go_wp2_with fail
                go_ret
                exact ⟨ret_eq (by rw [HN.out]; rfl), hb0r⟩
          · rw [if_neg hz] at HA
            generalize File.lined acc = e0 at *
            have he0 : (e0 != 0) = true := by simpa using hz
            clear hz
            go_wp2_with fail
            refine HLD.out.mono ?_
            rintro _ w5 ⟨rfl, hb5⟩
            go_wp2_with fail
            go_ret
            exact ⟨ret_eq (by rw [HA.out]; rfl), hb0r.next hb5 (Nat.le_refl _)⟩
end Fl
end Go.Proofs.YtekkhnjepcebkaaGreatDoor
end
section
namespace Go.Proofs.YtekkhnjepcebkaaGreatDoor
namespace File
/-- What is so of a change without an error. -/
structure ChOk (c : List (Edit ByteArray)) : Prop where
  at_ : ∀ x ∈ c, 0 ≤ x.at_ ∧ x.at_ ≤ 24
  old : ∀ x ∈ c, x.old.length ≤ 24
  new : ∀ x ∈ c, x.new.length ≤ 24
  some : ∀ x ∈ c, 0 < x.old.length + x.new.length
  lines : lined (allLines c) = 0
  order : ordered c = true
theorem ch_of {c : List (Edit ByteArray)} (h : checkChange c = 0) : ChOk c := by
  unfold checkChange at h
  split at h
  · rename_i h1
    split at h
    · rename_i h2
      split at h
      · rename_i h3
        split at h
        · rename_i h4
          have k1 : ∀ x ∈ c, (decide (0 ≤ x.at_) && decide (x.at_ ≤ 24)) = true := fun x hx => List.all_eq_true.1 h1 x hx
          have k2 : ∀ x ∈ c, (decide (x.old.length ≤ 24) && (decide (x.new.length ≤ 24) && decide (0 < x.old.length + x.new.length))) = true := fun x hx => List.all_eq_true.1 h2 x hx
          simp only [Bool.and_eq_true, decide_eq_true_eq] at k1 k2
          exact ⟨k1, fun x hx => (k2 x hx).1, fun x hx => (k2 x hx).2.1, fun x hx => (k2 x hx).2.2, h3, h4⟩
        · cases h
      · rename_i h3; exact absurd h h3
    · cases h
  · cases h
theorem ch_zero {c : List (Edit ByteArray)} (h : ChOk c) : checkChange c = 0 := by
  unfold checkChange
  rw [if_pos (List.all_eq_true.2 fun x hx => by
    show (decide (0 ≤ x.at_) && decide (x.at_ ≤ 24)) = true
    rw [decide_eq_true (h.at_ x hx).1, decide_eq_true (h.at_ x hx).2]; rfl), if_pos (List.all_eq_true.2 fun x hx => by
    show (decide (x.old.length ≤ 24) && (decide (x.new.length ≤ 24) && decide (0 < x.old.length + x.new.length))) = true
    rw [decide_eq_true (h.old x hx), decide_eq_true (h.new x hx), decide_eq_true (h.some x hx)]; rfl), if_pos h.lines, if_pos h.order]
def backTry : Int → List (Edit ByteArray) → Option (List (Edit ByteArray))
  | _, [] => some []
  | n, x :: r => if 24 < x.at_ + n then none else (backTry (n + ((x.new.length : Int) - (x.old.length : Int))) r).map (⟨x.at_ + n, x.new, x.old⟩ :: ·)
/-- What Back answers. -/
def backAns (c : List (Edit ByteArray)) : List (Edit ByteArray) × Int := if checkChange c = 0 then (match backTry 0 c with
  | some l => (l, 0)
  | none => ([], 3)) else ([], checkChange c)
end File
namespace Fl
open Go.RowKit
set_option maxRecDepth 100000
theorem drop_ed {vs : List EdV} {k : Nat} {x : EdV} (h : vs[k]? = some x) : (vs.map EdV.ed).drop k = x.ed :: (vs.map EdV.ed).drop (k + 1) := drop_at (by rw [List.getElem?_map, h]; rfl)
set_option maxHeartbeats 2000000 in
theorem Cost_spec (A : Option Addr) (vs : List EdV) (c : Nat) (w : World) (hm : vs.length ≤ 1000) (hs : Sl edE w A vs) (hok : ∀ r ∈ vs, EdOk w r) (hb1 : ∀ r ∈ vs, r.old.length ≤ big ∧ r.new.length ≤ big) :
    Calls Tryz.prog 31 #[.slice A vs.length c] w fun e w' => e = .returned (.tuple #[iv (if File.checkChange (vs.map EdV.ed) = 0 then ((File.cost (vs.map EdV.ed) : Nat) : Int) else 0), iv (File.checkChange (vs.map EdV.ed))]) ∧ Below w.heap.size w w' := by
  have HC := Lib.hid (cc_spec A vs c w hm hs hok hb1)
  by_cases hz : File.checkChange (vs.map EdV.ed) = 0
  · have hch := File.ch_of hz
    rw [if_pos hz]
    rw [hz] at HC ⊢
    obtain ⟨ans, hans⟩ : ∃ ans, ans = File.cost (vs.map EdV.ed) := ⟨_, rfl⟩
    rw [← hans]
    have HSZ : Hid (∀ r ∈ vs, r.old.length ≤ 24 ∧ r.new.length ≤ 24) := Lib.hid fun r hr => ⟨hch.old r.ed (List.mem_map_of_mem hr), hch.new r.ed (List.mem_map_of_mem hr)⟩
    have HA := Lib.hid hans
    clear hans hch hz hok hb1
    go_enter Tryz.func31, Tryz.ntmps31
    go_wp2_with fail
    refine HC.out.mono ?_
    rintro _ w1 ⟨rfl, hb1⟩
    clear HC
    go_wp2_with fail
    go_loopw [5, 7, 15] (fun n _ i wr => ∃ (k m : Nat), k ≤ vs.length ∧ i = iv k ∧ n = iv m ∧ m ≤ k * 48 ∧ Hid (m + File.cost ((vs.map EdV.ed).drop k) = ans) ∧ Below w1.heap.size w1 wr) (fun _ _ i _ => vs.length - (intOf i).toNat)
    case atStart => exact ⟨0, 0, by omega, rfl, rfl, by omega, Lib.hid (by rw [HA.out]; simp), Below.refl _ _⟩
    case round =>
      obtain ⟨k, m, hk, rfl, rfl, hmk, HN, hbr⟩ := hrel
      by_cases hlt : k < vs.length
      · have hki : (k : Int) < (vs.length : Int) := by omega
        obtain ⟨b, off, x, rfl, hb0, hx, hc0, hc1, hc2⟩ := Sl.atEd (hs.below (hb1.next hbr (Nat.le_refl _))) hlt
        have hxs := HSZ.out x (mem_at hx)
        have hn := HN.out
        rw [drop_ed hx] at hn
        simp only [File.cost, EdV.ed] at hn
        have HN2 := Lib.hid hn
        have hbM : Below wr.heap.size wr (wr.alloc (.cells #[iv x.at_, .slice x.A x.old.length x.c, .slice x.A' x.new.length x.c'] 53)) := (Below.refl _ _).alloc (Nat.le_refl _) _
        clear hn HN hx
        go_wp2_with fail
        go_roundw
        case rel => exact ⟨k + 1, m + (x.old.length + x.new.length), by omega, by go_num, by go_num, by omega, Lib.hid (by rw [← HN2.out]; unfold EdV.ed; omega), hbr.next hbM (Nat.le_refl _)⟩
        case measure => simp [intOf]; omega
      · have hki : ¬ (k : Int) < (vs.length : Int) := by omega
        have hn := HN.out
        rw [show (vs.map EdV.ed).drop k = [] from List.drop_eq_nil_of_le (by rw [List.length_map]; omega)] at hn
        have HN2 : Hid (ans = m) := Lib.hid (by rw [← hn]; rfl)
        clear hn HN
        go_wp2_with fail
        go_ret2
        exact ⟨ret_eq (by rw [HN2.out]; rfl), hb1.next hbr (Nat.le_refl _)⟩
  · rw [if_neg hz]
    generalize File.checkChange (vs.map EdV.ed) = e0 at *
    have he0 : (e0 != 0) = true := by simpa using hz
    clear hz
    go_enter Tryz.func31, Tryz.ntmps31
    go_wp2_with fail
    refine HC.out.mono ?_
    rintro _ w1 ⟨rfl, hb1⟩
    go_wp2_with fail
    go_ret2
    exact ⟨rfl, hb1⟩
set_option maxHeartbeats 8000000 in
theorem Back_spec (A : Option Addr) (vs : List EdV) (c : Nat) (w : World) (hm : vs.length ≤ 1000) (hs : Sl edE w A vs) (hok : ∀ r ∈ vs, EdOk w r) (hb1 : ∀ r ∈ vs, r.old.length ≤ big ∧ r.new.length ≤ big) :
    Calls Tryz.prog 33 #[.slice A vs.length c] w fun e w' => ∃ v rs, e = .returned (.tuple #[v, iv (File.backAns (vs.map EdV.ed)).2]) ∧ Own rawE 53 w.heap.size w' v rs ∧ EdsR w.heap.size w' rs (File.backAns (vs.map EdV.ed)).1 ∧ Below w.heap.size w w' := by
  have HC := Lib.hid (cc_spec A vs c w hm hs hok hb1)
  by_cases hz : File.checkChange (vs.map EdV.ed) = 0
  · have hch := File.ch_of hz
    rw [hz] at HC
    have HA : Hid (File.backAns (vs.map EdV.ed) = match File.backTry 0 (vs.map EdV.ed) with | some l => (l, 0) | none => ([], 3)) := Lib.hid (by unfold File.backAns; rw [if_pos hz])
    have HSZ : Hid (∀ r ∈ vs, 0 ≤ r.at_ ∧ r.at_ ≤ 24 ∧ r.old.length ≤ 24 ∧ r.new.length ≤ 24) := Lib.hid fun r hr => ⟨(hch.at_ r.ed (List.mem_map_of_mem hr)).1, (hch.at_ r.ed (List.mem_map_of_mem hr)).2, hch.old r.ed (List.mem_map_of_mem hr), hch.new r.ed (List.mem_map_of_mem hr)⟩
    have HOK := Lib.hid hok
    generalize File.backAns (vs.map EdV.ed) = ans at *
    obtain ⟨R, hR⟩ : ∃ R, R = File.backTry 0 (vs.map EdV.ed) := ⟨_, rfl⟩
    rw [← hR] at HA
    have HR := Lib.hid hR
    clear hR hch hz hok hb1
    go_enter Tryz.func33, Tryz.ntmps33
    go_wp2_with fail
    refine HC.out.mono ?_
    rintro _ w3 ⟨rfl, hb03⟩
    clear HC
    go_wp2_with fail
    go_loopw [5, 6, 8, 16] (fun v n _ i wr => ∃ (k : Nat) (n0 : Int) (rs : List RawEd) (acc : List (File.Edit ByteArray)), k ≤ vs.length ∧ i = iv k ∧ n = iv n0 ∧ -(k * 24 : Int) ≤ n0 ∧ n0 ≤ (k * 24 : Int) ∧ Hid (Own rawE 53 w3.heap.size wr v rs) ∧ Hid (EdsR w3.heap.size wr rs acc) ∧ rs.length ≤ k ∧ Hid ((File.backTry n0 ((vs.map EdV.ed).drop k)).map (acc ++ ·) = R) ∧ Below w3.heap.size w3 wr) (fun _ _ _ i _ => vs.length - (intOf i).toNat)
    case atStart => exact ⟨0, 0, [], [], by omega, rfl, rfl, by omega, by omega, Own.nil, trivial, by simp, Lib.hid (by rw [HR.out, List.drop_zero]; cases File.backTry 0 (vs.map EdV.ed) <;> rfl), Below.refl _ _⟩
    case round =>
      obtain ⟨k, n0, rs, acc, hk, rfl, rfl, hn1, hn2, HO, HE, hrl, HB, hbr⟩ := hrel
      have hb0r := hb03.next hbr (Nat.le_refl _)
      by_cases hlt : k < vs.length
      · have hki : (k : Int) < (vs.length : Int) := by omega
        obtain ⟨b, off, x, rfl, hb0, hx, hc0, hc1, hc2⟩ := Sl.atEd (hs.below hb0r) hlt
        have hxs := HSZ.out x (mem_at hx)
        have hbt := HB.out
        rw [drop_ed hx] at hbt
        have HXO0 : Hid (∀ z : World, Below w3.heap.size w3 z → Sl strE z x.A x.old) := Lib.hid fun z h => ((HOK.out x (mem_at hx)).below (hb03.next h (Nat.le_refl _))).old
        have HXN0 : Hid (∀ z : World, Below w3.heap.size w3 z → Sl strE z x.A' x.new) := Lib.hid fun z h => ((HOK.out x (mem_at hx)).below (hb03.next h (Nat.le_refl _))).new
        obtain ⟨xa, xA, xc, xo, xA', xc', xn⟩ := x
        simp only at hc0 hc1 hc2 hxs HXO0 HXN0
        have hbt : (if 24 < xa + n0 then none else (File.backTry (n0 + ((xn.length : Int) - (xo.length : Int))) ((vs.map EdV.ed).drop (k + 1))).map ((⟨xa + n0, xn, xo⟩ : File.Edit ByteArray) :: ·)).map (acc ++ ·) = R := hbt
        have hbM : Below wr.heap.size wr (wr.alloc (.cells #[iv xa, .slice xA xo.length xc, .slice xA' xn.length xc'] 53)) := (Below.refl _ _).alloc (Nat.le_refl _) _
        have hM : Blk (wr.alloc (.cells #[iv xa, .slice xA xo.length xc, .slice xA' xn.length xc'] 53)) wr.heap.size 53 #[iv xa, .slice xA xo.length xc, .slice xA' xn.length xc'] := Blk.new _ _ _
        obtain ⟨Ax, cx, rfl, _, _⟩ := HO.out.form
        have ew1 : IntKind.i64.wrap (xa + n0) = xa + n0 := IntWalk.i64_in _ (by omega)
        by_cases h24 : 24 < xa + n0
        · rw [if_pos h24] at hbt
          have HX : Hid (ans = ([], 3)) := Lib.hid (by rw [HA.out, ← hbt]; rfl)
          clear hbt hx HO HE HB
          go_wp2_with fail
          go_ret2
          exact ⟨.slice none 0 0, [], by rw [HX.out]; rfl, Own.nil, by rw [HX.out]; exact trivial, hb0r.next hbM (Nat.le_refl _)⟩
        · rw [if_neg h24] at hbt
          have HBN : Hid ((File.backTry (n0 + ((xn.length : Int) - (xo.length : Int))) ((vs.map EdV.ed).drop (k + 1))).map ((acc ++ [⟨xa + n0, xn, xo⟩]) ++ ·) = R) := Lib.hid (by
            rw [← hbt, Option.map_map]
            congr 1
            funext l
            simp)
          clear hbt hx HB
          go_upto_region 11 with fail
          generalize wr.alloc (.cells #[iv xa, .slice xA xo.length xc, .slice xA' xn.length xc'] 53) = w4 at *
          have hb34 : Below w3.heap.size w3 w4 := hbr.trans (hbM.mono hbr.size)
          have HBX : Hid (∀ x, Below w4.heap.size w4 x → x.cell? ⟨wr.heap.size, 0, none⟩ = some (iv xa) ∧ x.cell? ⟨wr.heap.size, 1, none⟩ = some (.slice xA xo.length xc) ∧ x.cell? ⟨wr.heap.size, 2, none⟩ = some (.slice xA' xn.length xc')) := Lib.hid fun x h => ⟨(hM.under h).cell 0, (hM.under h).cell 1, (hM.under h).cell 2⟩
          have HCN : Hid (∀ x, Below w4.heap.size w4 x → Calls Tryz.prog 70 #[.slice xA' xn.length xc'] x fun e w' => ∃ v, e = .returned v ∧ Own strE 9 x.heap.size w' v xn ∧ Below x.heap.size x w') := Lib.hid fun x h => cloneS xA' xn xc' x (by unfold big; omega) (HXN0.out x (hb34.next h (Nat.le_refl _)))
          have HCO : Hid (∀ x, Below w4.heap.size w4 x → Calls Tryz.prog 70 #[.slice xA xo.length xc] x fun e w' => ∃ v, e = .returned v ∧ Own strE 9 x.heap.size w' v xo ∧ Below x.heap.size x w') := Lib.hid fun x h => cloneS xA xo xc x (by unfold big; omega) (HXO0.out x (hb34.next h (Nat.le_refl _)))
          have HZ4 := Lib.hid hb34.size
          have HO4 := Lib.hid (HO.out.below hbM)
          have HE4 := Lib.hid (EdsR.keep (Strs.below hbM) HE.out)
          have HB34 := Lib.hid hb34
          have HMB := Lib.hid hM
          have HNEB : Hid ((Value.slice Ax rs.length cx).ownBlock ≠ some wr.heap.size) := Lib.hid fun e => Nat.lt_irrefl _ (HO.out.lt _ e).2
          clear hM HO HE hbM hb34 hc0 hc1 hc2 hb0r hbr
          refine wp_free_lit (by kernel_rfl) 13 (by kernel_rfl) (by kernel_rfl) (by decide) (fun _ x => Below w4.heap.size w4 x) (fun x x' => Below x.heap.size x x')
            [fun _ u _ => u = .slice Ax rs.length cx,
             fun _ u _ => u = .pointer (some ⟨wr.heap.size, 0, none⟩),
             fun _ u _ => u = iv xa,
             fun _ u _ => u = iv n0,
             fun _ u _ => u = iv (xa + n0),
             fun _ u _ => u = .pointer (some ⟨wr.heap.size, 2, none⟩),
             fun _ u _ => u = .slice xA' xn.length xc',
             fun _ u x => ∃ A1 c1, u = .slice A1 xn.length c1 ∧ Own strE 9 w3.heap.size x u xn,
             fun _ u _ => u = .pointer (some ⟨wr.heap.size, 1, none⟩),
             fun _ u _ => u = .slice xA xo.length xc,
             fun _ u x => ∃ A1 c1, u = .slice A1 xo.length c1 ∧ Own strE 9 w3.heap.size x u xo,
             fun _ u x => ∃ A1 c1 A2 c2, u = .agg #[iv (xa + n0), .slice A1 xn.length c1, .slice A2 xo.length c2] ∧ Own strE 9 w3.heap.size x (.slice A1 xn.length c1) xn ∧ Own strE 9 w3.heap.size x (.slice A2 xo.length c2) xo,
             fun _ u x => ∃ g A1 c1 A2 c2, u = .slice (some ⟨g, 0, none⟩) 1 1 ∧ Blk x g 53 #[iv (xa + n0), .slice A1 xn.length c1, .slice A2 xo.length c2] ∧ Own strE 9 w3.heap.size x (.slice A1 xn.length c1) xn ∧ Own strE 9 w3.heap.size x (.slice A2 xo.length c2) xo]
            (Below.refl _ w4).drew ?_ ?_
          · simp only [List.take_succ_cons, List.take_zero, HopL]
            refine ⟨?_, ?_, ?_, ?_, ?_, ?_, ?_, ?_, ?_, ?_, ?_, ?_, ?_, trivial⟩
            · refine ⟨fun _ _ _ _ _ h => h, fun _ _ _ _ h _ => h, fun v n x hn hR hk => ?_⟩
              simp only [List.take_succ_cons, List.take_zero, frameF, Act.put, List.setIfInBounds_toArray, List.set_cons_zero, List.set_cons_succ]
              exact stepF_val (by first | rfl | simp [Region.wanted, yielded, *]) (by go_simp <;> omega) ⟨rfl, Below.refl _ _, hR⟩
            · refine ⟨fun _ _ _ _ _ h => h, fun _ _ _ _ h _ => h, fun v n x hn hR hk => ?_⟩
              simp only [List.take_succ_cons, List.take_zero, frameF, Act.put, List.setIfInBounds_toArray, List.set_cons_zero, List.set_cons_succ]
              exact stepF_val (by first | rfl | simp [Region.wanted, yielded, *]) (by go_simp <;> omega) ⟨rfl, Below.refl _ _, hR⟩
            · refine ⟨fun _ _ _ _ _ h => h, fun _ _ _ _ h _ => h, fun v n x hn hR hk => ?_⟩
              have h1 : v 1 = .pointer (some ⟨wr.heap.size, 0, none⟩) := hk 1 (by kernel_rfl)
              obtain ⟨g0, g1, g2⟩ := HBX.out x hR
              simp only [List.take_succ_cons, List.take_zero, frameF, Act.put, List.setIfInBounds_toArray, List.set_cons_zero, List.set_cons_succ]
              exact stepF_val (by first | rfl | simp [Region.wanted, yielded, *]) (by go_simp <;> omega) ⟨rfl, Below.refl _ _, hR⟩
            · refine ⟨fun _ _ _ _ _ h => h, fun _ _ _ _ h _ => h, fun v n x hn hR hk => ?_⟩
              simp only [List.take_succ_cons, List.take_zero, frameF, Act.put, List.setIfInBounds_toArray, List.set_cons_zero, List.set_cons_succ]
              exact stepF_val (by first | rfl | simp [Region.wanted, yielded, *]) (by go_simp <;> omega) ⟨rfl, Below.refl _ _, hR⟩
            · refine ⟨fun _ _ _ _ _ h => h, fun _ _ _ _ h _ => h, fun v n x hn hR hk => ?_⟩
              have h2 : v 2 = iv xa := hk 2 (by kernel_rfl)
              have h3 : v 3 = iv n0 := hk 3 (by kernel_rfl)
              simp only [List.take_succ_cons, List.take_zero, frameF, Act.put, List.setIfInBounds_toArray, List.set_cons_zero, List.set_cons_succ]
              exact stepF_val (by first | rfl | simp [Region.wanted, yielded, *]) (by go_simp <;> omega) ⟨rfl, Below.refl _ _, hR⟩
            · refine ⟨fun _ _ _ _ _ h => h, fun _ _ _ _ h _ => h, fun v n x hn hR hk => ?_⟩
              simp only [List.take_succ_cons, List.take_zero, frameF, Act.put, List.setIfInBounds_toArray, List.set_cons_zero, List.set_cons_succ]
              exact stepF_val (by first | rfl | simp [Region.wanted, yielded, *]) (by go_simp <;> omega) ⟨rfl, Below.refl _ _, hR⟩
            · refine ⟨fun _ _ _ _ _ h => h, fun _ _ _ _ h _ => h, fun v n x hn hR hk => ?_⟩
              have h5 : v 5 = .pointer (some ⟨wr.heap.size, 2, none⟩) := hk 5 (by kernel_rfl)
              obtain ⟨g0, g1, g2⟩ := HBX.out x hR
              simp only [List.take_succ_cons, List.take_zero, frameF, Act.put, List.setIfInBounds_toArray, List.set_cons_zero, List.set_cons_succ]
              exact stepF_val (by first | rfl | simp [Region.wanted, yielded, *]) (by go_simp <;> omega) ⟨rfl, Below.refl _ _, hR⟩
            · refine ⟨fun _ _ _ _ _ h => h, fun _ _ _ _ h hS => (by obtain ⟨A1, c1, e1, o1⟩ := h; exact ⟨A1, c1, e1, o1.below hS⟩), fun v n x hn hR hk => ?_⟩
              have h6 : v 6 = .slice xA' xn.length xc' := hk 6 (by kernel_rfl)
              simp only [List.take_succ_cons, List.take_zero, frameF, Act.put, List.setIfInBounds_toArray, List.set_cons_zero, List.set_cons_succ]
              refine stepF_call (by rfl) (by go_simp) (HCN.out x hR) ?_
              rintro e x' ⟨u, rfl, ho, hb⟩
              obtain ⟨A1, c1, rfl, _, _⟩ := ho.form
              exact ⟨_, rfl, ⟨A1, c1, rfl, ho.base (Nat.le_trans HZ4.out hR.size)⟩, hb, hR.next hb (Nat.le_refl _)⟩
            · refine ⟨fun _ _ _ _ _ h => h, fun _ _ _ _ h _ => h, fun v n x hn hR hk => ?_⟩
              simp only [List.take_succ_cons, List.take_zero, frameF, Act.put, List.setIfInBounds_toArray, List.set_cons_zero, List.set_cons_succ]
              exact stepF_val (by first | rfl | simp [Region.wanted, yielded, *]) (by go_simp <;> omega) ⟨rfl, Below.refl _ _, hR⟩
            · refine ⟨fun _ _ _ _ _ h => h, fun _ _ _ _ h _ => h, fun v n x hn hR hk => ?_⟩
              have h8 : v 8 = .pointer (some ⟨wr.heap.size, 1, none⟩) := hk 8 (by kernel_rfl)
              obtain ⟨g0, g1, g2⟩ := HBX.out x hR
              simp only [List.take_succ_cons, List.take_zero, frameF, Act.put, List.setIfInBounds_toArray, List.set_cons_zero, List.set_cons_succ]
              exact stepF_val (by first | rfl | simp [Region.wanted, yielded, *]) (by go_simp <;> omega) ⟨rfl, Below.refl _ _, hR⟩
            · refine ⟨fun _ _ _ _ _ h => h, fun _ _ _ _ h hS => (by obtain ⟨A1, c1, e1, o1⟩ := h; exact ⟨A1, c1, e1, o1.below hS⟩), fun v n x hn hR hk => ?_⟩
              have h9 : v 9 = .slice xA xo.length xc := hk 9 (by kernel_rfl)
              simp only [List.take_succ_cons, List.take_zero, frameF, Act.put, List.setIfInBounds_toArray, List.set_cons_zero, List.set_cons_succ]
              refine stepF_call (by rfl) (by go_simp) (HCO.out x hR) ?_
              rintro e x' ⟨u, rfl, ho, hb⟩
              obtain ⟨A1, c1, rfl, _, _⟩ := ho.form
              exact ⟨_, rfl, ⟨A1, c1, rfl, ho.base (Nat.le_trans HZ4.out hR.size)⟩, hb, hR.next hb (Nat.le_refl _)⟩
            · refine ⟨fun _ _ _ _ _ h => h, fun _ _ _ _ h hS => (by obtain ⟨A1, c1, A2, c2, e1, o1, o2⟩ := h; exact ⟨A1, c1, A2, c2, e1, o1.below hS, o2.below hS⟩), fun v n x hn hR hk => ?_⟩
              have h4 : v 4 = iv (xa + n0) := hk 4 (by kernel_rfl)
              have h7 := hk 7 (by kernel_rfl)
              obtain ⟨A7, c7, h7, o7⟩ := h7
              have h10 := hk 10 (by kernel_rfl)
              obtain ⟨A10, c10, h10, o10⟩ := h10
              rw [h7] at o7
              rw [h10] at o10
              simp only [List.take_succ_cons, List.take_zero, frameF, Act.put, List.setIfInBounds_toArray, List.set_cons_zero, List.set_cons_succ]
              exact stepF_val (u := .agg #[iv (xa + n0), .slice A7 xn.length c7, .slice A10 xo.length c10]) (by rfl) (by go_simp <;> omega) ⟨⟨A7, c7, A10, c10, rfl, o7, o10⟩, Below.refl _ _, hR⟩
            · refine ⟨fun _ _ _ _ _ h => h, fun _ _ _ _ h hS => (by obtain ⟨g, A1, c1, A2, c2, e1, b1, o1, o2⟩ := h; exact ⟨g, A1, c1, A2, c2, e1, b1.under hS, o1.below hS, o2.below hS⟩), fun v n x hn hR hk => ?_⟩
              have h11 := hk 11 (by kernel_rfl)
              obtain ⟨A1, c1, A2, c2, h11, p1, p2⟩ := h11
              simp only [List.take_succ_cons, List.take_zero, frameF, Act.put, List.setIfInBounds_toArray, List.set_cons_zero, List.set_cons_succ]
              exact stepF_new (u := .slice (some ⟨x.heap.size, 0, none⟩) 1 1) (w' := x.alloc (.cells #[iv (xa + n0), .slice A1 xn.length c1, .slice A2 xo.length c2] 53)) (by rfl) (by go_simp) ⟨⟨x.heap.size, A1, c1, A2, c2, rfl, Blk.new _ _ _, p1.below ((Below.refl _ _).alloc (Nat.le_refl _) _), p2.below ((Below.refl _ _).alloc (Nat.le_refl _) _)⟩, (Below.refl _ _).alloc (Nat.le_refl _) _, hR.alloc hR.size _⟩
          · intro v n x hn hR hall
            have hsg : ∃ g A1 c1 A2 c2, v 12 = .slice (some ⟨g, 0, none⟩) 1 1 ∧ Blk x g 53 #[iv (xa + n0), .slice A1 xn.length c1, .slice A2 xo.length c2] ∧ Own strE 9 w3.heap.size x (.slice A1 xn.length c1) xn ∧ Own strE 9 w3.heap.size x (.slice A2 xo.length c2) xo := hall 12 (by decide)
            obtain ⟨g, A1, c1, A2, c2, h12, hB, hon, hoo⟩ := hsg
            have h0 : v 0 = .slice Ax rs.length cx := hall 0 (by decide)
            clear hall hn
            simp only [List.drop_succ_cons, List.drop_zero, List.take_succ_cons, List.take_zero, frameF, Act.put, List.setIfInBounds_toArray, List.set_cons_zero, List.set_cons_succ, Nat.zero_add, Nat.reduceAdd, h0, h12]
            have hsl : Sl rawE x (some ⟨g, 0, none⟩) [(⟨xa + n0, A1, xn.length, c1, A2, xo.length, c2⟩ : RawEd)] := fun _ => ⟨g, 0, rfl, hB.lt, fun i y hi j u hu => by
              have h1 := (List.getElem?_eq_some_iff.1 hi).1
              have hi0 : i = 0 := by simpa using h1
              subst hi0
              simp at hi
              subst hi
              have hc := hB.cell j
              rw [Nat.zero_mul, Nat.zero_add, hc]
              rw [← hu]
              simp [rawE]⟩
            have hox := HO4.out.below hR
            have hzx : w3.heap.size ≤ x.heap.size := Nat.le_trans HZ4.out hR.size
            go_upto_region 12 with (at_builtin; refine wpAppS rawE tyEdits rfl _ _ rfl hox hsl rfl rfl hzx (by simp [big]; omega) ?_; intro v5 w5 hown5 hb5 hk5)
            have hst : Strs w3.heap.size x w5 := strs_app hox hb5.size hk5
            have HE5 := Lib.hid (EdsR.snoc (r := (⟨xa + n0, A1, xn.length, c1, A2, xo.length, c2⟩ : RawEd)) (x := ⟨xa + n0, xn, xo⟩) ⟨rfl, rfl, rfl, hst.own hon, hst.own hoo⟩ (EdsR.keep ((Strs.below hR).trans hst) HE4.out))
            have hb35 := HB34.out.trans ((hR.mono HZ4.out).trans hb5)
            have ew2 : IntKind.i64.wrap ((xn.length : Int) - (xo.length : Int)) = (xn.length : Int) - (xo.length : Int) := IntWalk.i64_in _ (by omega)
            have ew3 : IntKind.i64.wrap (n0 + ((xn.length : Int) - (xo.length : Int))) = n0 + ((xn.length : Int) - (xo.length : Int)) := IntWalk.i64_in _ (by omega)
            have hBx := Blk.under HMB.out hR
            have hB5 : Blk w5 wr.heap.size 53 #[iv xa, .slice xA xo.length xc, .slice xA' xn.length xc'] := (hk5 _ hBx.lt HNEB.out).trans hBx
            have y1 : w5.cell? ⟨wr.heap.size, 1, none⟩ = some (.slice xA xo.length xc) := hB5.cell 1
            have y2 : w5.cell? ⟨wr.heap.size, 2, none⟩ = some (.slice xA' xn.length xc') := hB5.cell 2
            have yl := hB5.lt
            clear hBx hB5 hB hsl hox hon hoo hst
            go_wp2_with fail
            go_roundw
            case rel => exact ⟨k + 1, n0 + ((xn.length : Int) - (xo.length : Int)), _, _, by omega, by go_num, by go_num, by omega, by omega, hown5, HE5, by simp; omega, HBN, hb35⟩
            case measure => simp [intOf]; omega
      · have hki : ¬ (k : Int) < (vs.length : Int) := by omega
        have hbt := HB.out
        rw [show (vs.map EdV.ed).drop k = [] from List.drop_eq_nil_of_le (by rw [List.length_map]; omega)] at hbt
        have HX : Hid (ans = (acc, 0)) := Lib.hid (by rw [HA.out, ← hbt]; simp [File.backTry])
        clear hbt HB
        go_wp2_with fail
        go_ret2
        exact ⟨_, by rw [HX.out]; rfl, rs, HO.out.base hb03.size, by rw [HX.out]; exact EdsR.base hb03.size HE.out, hb0r⟩
  · have HA : Hid (File.backAns (vs.map EdV.ed) = ([], File.checkChange (vs.map EdV.ed))) := Lib.hid (by unfold File.backAns; rw [if_neg hz])
    generalize File.backAns (vs.map EdV.ed) = ans at *
    generalize File.checkChange (vs.map EdV.ed) = e0 at *
    have he0 : (e0 != 0) = true := by simpa using hz
    clear hz
    go_enter Tryz.func33, Tryz.ntmps33
    go_wp2_with fail
    refine HC.out.mono ?_
    rintro _ w1 ⟨rfl, hb1⟩
    go_wp2_with fail
    go_ret2
    exact ⟨.slice none 0 0, [], by rw [HA.out]; rfl, Own.nil, by rw [HA.out]; exact trivial, hb1⟩
end Fl
end Go.Proofs.YtekkhnjepcebkaaGreatDoor
end
section
namespace Go.Proofs.YtekkhnjepcebkaaGreatDoor
namespace File
def fitGo (f : List ByteArray) : Nat → List ByteArray → Bool
  | _, [] => true
  | i, s :: r => decide (f[i]? = some s) && fitGo f (i + 1) r
/-- Whether an edit's old lines are at their place. -/
def fitAt (f : List ByteArray) (x : Edit ByteArray) : Bool := decide (x.at_ ≤ (f.length : Int)) && fitGo f x.at_.toNat x.old
/-- What Make answers. -/
def makeAns (f : List ByteArray) (c : List (Edit ByteArray)) : List ByteArray × Int :=
  if check f = 0 then (if checkChange c = 0 then (if c.all (fitAt f) then (if 24 < (make f c).length then ([], 2) else (make f c, 0)) else ([], 7)) else ([], checkChange c)) else ([], check f)
theorem fitGo_hi {f : List ByteArray} : ∀ {l : List ByteArray} {i : Nat}, i ≤ f.length → fitGo f i l = true → i + l.length ≤ f.length
  | [], _, h, _ => h
  | s :: r, i, _, h => by
    unfold fitGo at h
    rw [Bool.and_eq_true, decide_eq_true_eq] at h
    have h1 := (List.getElem?_eq_some_iff.1 h.1).1
    have := fitGo_hi (by omega) h.2
    simp only [List.length_cons]
    omega
theorem fit_hi {f : List ByteArray} {x : Edit ByteArray} (h0 : 0 ≤ x.at_) (h : fitAt f x = true) : x.hi ≤ f.length := by
  unfold fitAt at h
  rw [Bool.and_eq_true, decide_eq_true_eq] at h
  exact fitGo_hi (by omega) h.2
theorem chain_of : ∀ {c : List (Edit ByteArray)} {lo : Nat}, ordered c = true → (∀ x ∈ c, 0 ≤ x.at_) → (∀ x, c.head? = some x → (lo : Int) ≤ x.at_) → Chain lo c
  | [], _, _, _, _ => trivial
  | [x], lo, _, _, h => ⟨h x rfl, trivial⟩
  | x :: y :: r, lo, ho, h0, h => by
    unfold ordered at ho
    rw [Bool.and_eq_true, Bool.not_eq_true', decide_eq_false_iff_not] at ho
    refine ⟨h x rfl, chain_of ho.2 (fun z hz => h0 z (List.mem_cons_of_mem _ hz)) fun z hz => ?_⟩
    simp at hz
    subst hz
    have := h0 x (by simp)
    unfold Edit.hi
    omega
theorem ch_chain {c : List (Edit ByteArray)} (h : ChOk c) : Chain 0 c := chain_of h.order (fun x hx => (h.at_ x hx).1) fun x hx => (h.at_ x (List.mem_of_mem_head? (by rw [hx]; rfl))).1
theorem make_ge {f : List ByteArray} : ∀ {c : List (Edit ByteArray)} {lo : Nat}, Chain lo c → (∀ x ∈ c, x.hi ≤ f.length) → lo ≤ f.length → lo ≤ (make f c).length
  | [], _, _, _, h => h
  | x :: r, lo, ⟨h1, h2⟩, hh, _ => by
    have hx := hh x (by simp)
    have ih := make_ge (h2.weaken (Nat.le_succ _)) (fun y hy => hh y (List.mem_cons_of_mem _ hy)) hx
    show lo ≤ (made (make f r) x).length
    unfold made
    rw [List.length_append, List.length_take]
    have : x.at_.toNat ≤ x.hi := Nat.le_add_right _ _
    omega
theorem chain_drop : ∀ {c : List (Edit ByteArray)} {lo k : Nat} {x : Edit ByteArray}, Chain lo c → c[k]? = some x → Chain (x.hi + 1) (c.drop (k + 1))
  | [], _, _, _, _, h => by simp at h
  | y :: r, lo, 0, x, ⟨_, h2⟩, h => by simp at h; subst h; simpa using h2
  | y :: r, lo, k + 1, x, ⟨_, h2⟩, h => by
    have := chain_drop (k := k) h2 (by simpa using h)
    simpa using this
theorem chain_len : ∀ {c : List (Edit ByteArray)} {lo : Nat}, Chain lo c → (∀ x ∈ c, x.at_ ≤ 24) → c ≠ [] → c.length + lo ≤ 25
  | [], _, _, _, h => absurd rfl h
  | [x], lo, ⟨h1, _⟩, ha, _ => by have := ha x (by simp); simp; omega
  | x :: y :: r, lo, ⟨h1, h2⟩, ha, _ => by
    have := chain_len h2 (fun z hz => ha z (List.mem_cons_of_mem _ hz)) (by simp)
    have h3 : lo ≤ x.hi := by unfold Edit.hi; omega
    simp only [List.length_cons] at this ⊢
    omega
theorem make_le {f : List ByteArray} : ∀ {c : List (Edit ByteArray)}, (∀ x ∈ c, x.new.length ≤ 24) → (make f c).length ≤ f.length + c.length * 24
  | [], _ => by simp [make]
  | x :: r, h => by
    have ih := make_le (f := f) (c := r) fun y hy => h y (List.mem_cons_of_mem _ hy)
    have hx := h x (by simp)
    show (made (make f r) x).length ≤ _
    unfold made
    simp only [List.length_append, List.length_take, List.length_drop, List.length_cons]
    omega
end File
namespace Fl
open Go.RowKit
set_option maxRecDepth 100000
set_option maxHeartbeats 8000000 in
theorem make_spec (F : Option Addr) (f : List ByteArray) (cf : Nat) (A : Option Addr) (vs : List EdV) (c : Nat) (w : World) (hF : f.length ≤ big) (hfc : f.length ≤ cf) (hsF : Sl strE w F f) (hm : vs.length ≤ 1000) (hs : Sl edE w A vs) (hok : ∀ r ∈ vs, EdOk w r) (hb1 : ∀ r ∈ vs, r.old.length ≤ big ∧ r.new.length ≤ big) :
    Calls Tryz.prog 32 #[.slice F f.length cf, .slice A vs.length c] w fun e w' => ∃ v, e = .returned (.tuple #[v, iv (File.makeAns f (vs.map EdV.ed)).2]) ∧ Own strE 9 w.heap.size w' v (File.makeAns f (vs.map EdV.ed)).1 ∧ Below w.heap.size w w' := by
  have HCF := Lib.hid (check_spec F f cf w hF hsF)
  have HCC := Lib.hid (fun W (h : Below w.heap.size w W) => cc_spec A vs c W hm (hs.below h) (fun r hr => (hok r hr).below h) hb1)
  obtain ⟨ans, hans⟩ : ∃ ans, ans = File.makeAns f (vs.map EdV.ed) := ⟨_, rfl⟩
  rw [← hans]
  unfold File.makeAns at hans
  by_cases hz : File.check f = 0
  · rw [if_pos hz] at hans
    rw [hz] at HCF
    have hgf := good_of_check hz
    have hf24 := hgf.many
    by_cases hz2 : File.checkChange (vs.map EdV.ed) = 0
    · rw [if_pos hz2] at hans
      simp only [hz2] at HCC
      have hch := File.ch_of hz2
      have hchain := File.ch_chain hch
      have HSZ : Hid (∀ r ∈ vs, 0 ≤ r.at_ ∧ r.at_ ≤ 24 ∧ r.old.length ≤ 24 ∧ r.new.length ≤ 24) := Lib.hid fun r hr => ⟨(hch.at_ r.ed (List.mem_map_of_mem hr)).1, (hch.at_ r.ed (List.mem_map_of_mem hr)).2, hch.old r.ed (List.mem_map_of_mem hr), hch.new r.ed (List.mem_map_of_mem hr)⟩
      have HCL : Hid ((vs.map EdV.ed).all (File.fitAt f) = false → ans = ([], 7)) := Lib.hid fun h => by rw [hans, h]; rfl
      have HFT : Hid ((vs.map EdV.ed).all (File.fitAt f) = true → ans = if 24 < (File.make f (vs.map EdV.ed)).length then ([], 2) else (File.make f (vs.map EdV.ed), 0)) := Lib.hid fun h => by rw [hans, h]; rfl
      have HCH := Lib.hid hchain
      have HCO := Lib.hid hch
      have HOK := Lib.hid hok
      clear hz hz2 hans hch hchain hok hb1 hgf
      go_enter Tryz.func32, Tryz.ntmps32
      go_wp2_with fail
      go_step3
      go_wp2_with fail
      refine HCF.out.mono ?_
      rintro _ w1 ⟨rfl, hb1⟩
      go_wp2_with fail
      refine (HCC.out w1 hb1).mono ?_
      rintro _ w2 ⟨rfl, hb2⟩
      have hb02 := hb1.next hb2 (Nat.le_refl _)
      clear HCF HCC hb1 hb2
      go_wp2_with fail
      go_step3
      go_wp2_with fail
      go_loopw [8, 10, 11, 12, 13, 28] (fun cl _ _ _ _ i wr => ∃ k : Nat, k ≤ vs.length ∧ i = iv k ∧ cl = .bool false ∧ Hid (((vs.map EdV.ed).drop k).all (File.fitAt f) = (vs.map EdV.ed).all (File.fitAt f)) ∧ Below w2.heap.size w2 wr) (fun _ _ _ _ _ i _ => vs.length - (intOf i).toNat)
      case atStart => exact ⟨0, by omega, rfl, rfl, rfl, Below.refl _ _⟩
      case round =>
        obtain ⟨k, hk, rfl, rfl, HA, hbr⟩ := hrel
        have hb0r := hb02.next hbr (Nat.le_refl _)
        by_cases hlt : k < vs.length
        · have hki : (k : Int) < (vs.length : Int) := by omega
          obtain ⟨b, off, x, rfl, hb0, hx, hc0, hc1, hc2⟩ := Sl.atEd (hs.below hb0r) hlt
          have hxs := HSZ.out x (mem_at hx)
          have ha := HA.out
          rw [drop_ed hx, List.all_cons] at ha
          have HXO : Hid (∀ z : World, Below w2.heap.size w2 z → Sl strE z x.A x.old) := Lib.hid fun z h => ((HOK.out x (mem_at hx)).below (hb02.next h (Nat.le_refl _))).old
          obtain ⟨xa, xA, xc, xo, xA', xc', xn⟩ := x
          simp only at hc0 hc1 hc2 hxs HXO
          obtain ⟨n, rfl⟩ : ∃ n : Nat, xa = (n : Int) := ⟨xa.toNat, by omega⟩
          have ha : ((decide ((n : Int) ≤ (f.length : Int)) && File.fitGo f n xo) && ((vs.map EdV.ed).drop (k + 1)).all (File.fitAt f)) = (vs.map EdV.ed).all (File.fitAt f) := ha
          have hbM : Below wr.heap.size wr (wr.alloc (.cells #[iv (n : Int), .slice xA xo.length xc, .slice xA' xn.length xc'] 53)) := (Below.refl _ _).alloc (Nat.le_refl _) _
          have hM : Blk (wr.alloc (.cells #[iv (n : Int), .slice xA xo.length xc, .slice xA' xn.length xc'] 53)) wr.heap.size 53 #[iv (n : Int), .slice xA xo.length xc, .slice xA' xn.length xc'] := Blk.new _ _ _
          have HAL := Lib.hid ha
          clear ha HA hx
          go_upto_region 11 with fail
          generalize wr.alloc (.cells #[iv (n : Int), .slice xA xo.length xc, .slice xA' xn.length xc'] 53) = w4 at *
          have hb24 : Below w2.heap.size w2 w4 := hbr.trans (hbM.mono hbr.size)
          have m0 := hM.cell 0
          have m1 := hM.cell 1
          have ml := hM.lt
          have hb04 := hb02.next hb24 (Nat.le_refl _)
          clear hc0 hc1 hc2 hbM
          by_cases hnl : n ≤ f.length
          · have hni : ¬ (f.length : Int) < (n : Int) := by omega
            have HAL2 : Hid ((File.fitGo f n xo && ((vs.map EdV.ed).drop (k + 1)).all (File.fitAt f)) = (vs.map EdV.ed).all (File.fitAt f)) := Lib.hid (by
              rw [← HAL.out, decide_eq_true (show (n : Int) ≤ (f.length : Int) by omega), Bool.true_and])
            go_wp2_with fail
            go_loopw [8, 11, 12, 13, 40] (fun cl _ _ _ i wx => ∃ j : Nat, j ≤ xo.length ∧ i = iv j ∧ cl = .bool false ∧ Hid (File.fitGo f (n + j) (xo.drop j) = File.fitGo f n xo) ∧ wx = w4) (fun _ _ _ _ i _ => xo.length - (intOf i).toNat)
            case atStart => exact ⟨0, by omega, rfl, rfl, rfl, rfl⟩
            case round =>
              obtain ⟨j, hj, rfl, rfl, HFG, rfl⟩ := hrel
              by_cases hjl : j < xo.length
              · have hji : (j : Int) < (xo.length : Int) := by omega
                obtain ⟨b2, off2, s, hA2, hb2', hs2, hd2⟩ := Sl.atS (HXO.out _ hb24) hjl
                subst hA2
                have hg := HFG.out
                rw [drop_at hs2, File.fitGo] at hg
                obtain ⟨p, hp⟩ : ∃ p, p = n + j := ⟨_, rfl⟩
                have hpi : (n : Int) + (j : Int) = (p : Int) := by omega
                have ep : IntKind.i64.wrap (p : Int) = (p : Int) := IntWalk.i64_in _ (by omega)
                have ew : IntKind.i64.wrap ((n : Int) + (j : Int)) = (p : Int) := by rw [hpi]; exact ep
                rw [← hp] at hg
                have HP := Lib.hid hp
                clear hp hs2
                by_cases hpl : p < f.length
                · have hge : ¬ (f.length : Int) ≤ (p : Int) := by omega
                  have hpl2 : (p : Int) < (f.length : Int) := by omega
                  obtain ⟨b3, off3, y, hA3, hb3, hy, hd3⟩ := Sl.atS (hsF.below hb04) hpl
                  subst hA3
                  have hsq := str_eq y s
                  rw [hy] at hg
                  by_cases hys : y = s
                  · rw [decide_eq_true hys] at hsq
                    have hsq' : (y.toList != s.toList) = false := by unfold bne; rw [hsq]; rfl
                    rw [decide_eq_true (by rw [hys]), Bool.true_and] at hg
                    have HN : Hid (File.fitGo f (n + (j + 1)) (xo.drop (j + 1)) = File.fitGo f n xo) := Lib.hid (by
                      have := HP.out; rw [show n + (j + 1) = p + 1 by omega]; exact hg)
                    clear hg hy HFG hys
                    go_wp2_with fail
                    go_roundw
                    case rel => exact ⟨j + 1, hjl, by go_num, rfl, HN, trivial⟩
                    case measure => simp [intOf]; omega
                  · rw [decide_eq_false hys] at hsq
                    have hsq' : (y.toList != s.toList) = true := by unfold bne; rw [hsq]; rfl
                    rw [decide_eq_false (fun e => hys (Option.some.inj e)), Bool.false_and] at hg
                    have hall : (vs.map EdV.ed).all (File.fitAt f) = false := by rw [← HAL2.out, ← hg]; rfl
                    clear hg hy HFG hys HAL HAL2 HFT HCO HCH
                    have HX : Hid (ans = ([], 7)) := Lib.hid (HCL.out hall)
                    go_wp2_with fail
                    try rw [Exit.noGoto_ret]
                    go_ret2
                    exact ⟨.slice none 0 0, by rw [HX.out]; rfl, by rw [HX.out]; exact Own.nil, hb04⟩
                · have hge : (f.length : Int) ≤ (p : Int) := by omega
                  rw [List.getElem?_eq_none (by omega), decide_eq_false (by simp), Bool.false_and] at hg
                  have hall : (vs.map EdV.ed).all (File.fitAt f) = false := by rw [← HAL2.out, ← hg]; rfl
                  clear hg HFG HAL HAL2 HFT HCO HCH
                  have HX : Hid (ans = ([], 7)) := Lib.hid (HCL.out hall)
                  go_wp2_with fail
                  try rw [Exit.noGoto_ret]
                  go_ret2
                  exact ⟨.slice none 0 0, by rw [HX.out]; rfl, by rw [HX.out]; exact Own.nil, hb04⟩
              · have hji : ¬ (j : Int) < (xo.length : Int) := by omega
                have hg := HFG.out
                rw [List.drop_eq_nil_of_le (by omega), File.fitGo] at hg
                have HA2 : Hid (((vs.map EdV.ed).drop (k + 1)).all (File.fitAt f) = (vs.map EdV.ed).all (File.fitAt f)) := Lib.hid (by rw [← HAL2.out, ← hg, Bool.true_and])
                clear hg HFG HAL HAL2
                go_wp2_with fail
                go_roundw
                case rel => exact ⟨k + 1, by omega, by go_num, rfl, HA2, hb24⟩
                case measure => simp [intOf]; omega
          · have hni : (f.length : Int) < (n : Int) := by omega
            have hall : (vs.map EdV.ed).all (File.fitAt f) = false := by rw [← HAL.out, decide_eq_false (show ¬ (n : Int) ≤ (f.length : Int) by omega)]; rfl
            have en : IntKind.i64.wrap (n : Int) = (n : Int) := IntWalk.i64_in _ (by omega)
            have hgn : (f.length : Int) ≤ (n : Int) := by omega
            clear HAL HFT HCO HCH
            go_wp2_with fail
            go_loopw [8, 11, 12, 13, 40] (fun cl _ _ _ i wx => i = iv 0 ∧ cl = .bool true ∧ wx = w4) (fun _ _ _ _ i _ => 0)
            case atStart => exact ⟨rfl, rfl, rfl⟩
            case round =>
              obtain ⟨rfl, rfl, rfl⟩ := hrel
              by_cases hx0 : 0 < xo.length
              · have hxi : (0 : Int) < (xo.length : Int) := by omega
                obtain ⟨b2, off2, s, hA2, hb2', hs2, hd2⟩ := Sl.atS (HXO.out _ hb24) hx0
                subst hA2
                rw [Nat.add_zero] at hd2
                clear hs2
                have HX : Hid (ans = ([], 7)) := Lib.hid (HCL.out hall)
                go_wp2_with fail
                try rw [Exit.noGoto_ret]
                go_ret2
                exact ⟨.slice none 0 0, by rw [HX.out]; rfl, by rw [HX.out]; exact Own.nil, hb04⟩
              · have hxi : ¬ (0 : Int) < (xo.length : Int) := by omega
                have HX : Hid (ans = ([], 7)) := Lib.hid (HCL.out hall)
                go_wp2_with fail
                try rw [Exit.noGoto_ret]
                go_ret2
                exact ⟨.slice none 0 0, by rw [HX.out]; rfl, by rw [HX.out]; exact Own.nil, hb04⟩
        · have hki : ¬ (k : Int) < (vs.length : Int) := by omega
          have ha := HA.out
          rw [show (vs.map EdV.ed).drop k = [] from List.drop_eq_nil_of_le (by rw [List.length_map]; omega)] at ha
          have HX := Lib.hid (HFT.out ha.symm)
          have HFI : Hid (∀ r ∈ vs, r.ed.hi ≤ f.length) := Lib.hid fun r hr => File.fit_hi (HSZ.out r hr).1 (List.all_eq_true.1 ha.symm r.ed (List.mem_map_of_mem hr))
          have hvl : vs.length ≤ 25 := by
            by_cases h : vs.map EdV.ed = []
            · have := congrArg List.length h; rw [List.length_map, List.length_nil] at this; omega
            · have := File.chain_len HCH.out (fun x hx => (HCO.out.at_ x hx).2) h
              rw [List.length_map] at this; omega
          have HMK : Hid (∀ q, (File.make f ((vs.map EdV.ed).drop q)).length ≤ 700) := Lib.hid fun q => by
            have h1 := File.make_le (f := f) (c := (vs.map EdV.ed).drop q) (fun x hx => HCO.out.new x (List.mem_of_mem_drop hx))
            have h2 : ((vs.map EdV.ed).drop q).length ≤ 25 := by rw [List.length_drop, List.length_map]; omega
            omega
          clear ha HA HFT HCL
          go_wp2_with fail
          refine (cloneS F f cf _ hF (hsF.below hb0r)).mono ?_
          rintro _ w5 ⟨v5, rfl, ho5, hb5⟩
          have hb05 := hb0r.next hb5 (Nat.le_refl _)
          have hz5 := hb0r.size
          have ho5' : Own strE 9 w.heap.size w5 v5 f := ho5.base hz5
          clear ho5 hb5 hz5 hbr hb0r
          have ei : IntKind.i64.wrap ((vs.length : Int) - 1) = (vs.length : Int) - 1 := IntWalk.i64_in _ (by omega)
          go_wp2_with fail
          go_loopw [14, 15] (fun v i wx => ∃ q : Nat, q ≤ vs.length ∧ i = iv ((q : Int) - 1) ∧ Hid (Own strE 9 w.heap.size wx v (File.make f ((vs.map EdV.ed).drop q))) ∧ Below w5.heap.size w5 wx) (fun _ i _ => (intOf i + 1).toNat)
          case atStart => exact ⟨vs.length, Nat.le_refl _, rfl, Lib.hid (by rw [show (vs.map EdV.ed).drop vs.length = [] from List.drop_eq_nil_of_le (by rw [List.length_map]; omega)]; exact ho5'), Below.refl _ _⟩
          case round =>
            obtain ⟨q, hq, rfl, HO, hbx⟩ := hrel
            have hb0x := hb05.next hbx (Nat.le_refl _)
            obtain ⟨Ax, cx, rfl, hcx, _⟩ := HO.out.form
            have hml := HMK.out q
            by_cases hq0 : q = 0
            · subst hq0
              have hqi : ¬ (0 : Int) ≤ -1 := by omega
              have ho := HO.out
              rw [List.drop_zero] at ho hml ⊢
              by_cases h24 : 24 < (File.make f (vs.map EdV.ed)).length
              · have h24i : (24 : Int) < ((File.make f (vs.map EdV.ed)).length : Int) := by omega
                have HX2 : Hid (ans = ([], 2)) := Lib.hid (by rw [HX.out, if_pos h24])
                clear HO ho
                go_wp2_with fail
                try rw [Exit.noGoto_ret]
                go_ret2
                exact ⟨.slice none 0 0, by rw [HX2.out]; rfl, by rw [HX2.out]; exact Own.nil, hb0x⟩
              · have h24i : ¬ (24 : Int) < ((File.make f (vs.map EdV.ed)).length : Int) := by omega
                have HX2 : Hid (ans = (File.make f (vs.map EdV.ed), 0)) := Lib.hid (by rw [HX.out, if_neg h24])
                have HO2 := Lib.hid ho
                clear HO ho
                go_wp2_with fail
                try rw [Exit.noGoto_ret]
                go_ret2
                exact ⟨_, by rw [HX2.out]; rfl, by rw [HX2.out]; exact HO2.out, hb0x⟩
            · obtain ⟨r, rfl⟩ : ∃ r, q = r + 1 := ⟨q - 1, by omega⟩
              have hri : ((r + 1 : Nat) : Int) - 1 = (r : Int) := by omega
              have hrl : r < vs.length := by omega
              have hrli : (r : Int) < (vs.length : Int) := by omega
              have hr0 : (0 : Int) ≤ (r : Int) := by omega
              rw [hri]
              obtain ⟨b, off, x, rfl, hb0, hx, hc0, hc1, hc2⟩ := Sl.atEd (hs.below hb0x) hrl
              have hxs := HSZ.out x (mem_at hx)
              have hxh := HFI.out x (mem_at hx)
              have hxn := ((HOK.out x (mem_at hx)).below hb0x).new
              have hd := drop_ed hx
              have hge := File.make_ge (f := f) ((File.chain_drop HCH.out (by rw [List.getElem?_map, hx]; rfl)).weaken (Nat.le_succ x.ed.hi)) (fun y hy => by
                obtain ⟨z, hz, rfl⟩ := List.mem_map.1 (List.mem_of_mem_drop hy)
                exact HFI.out z hz) hxh
              have hmk : File.make f ((vs.map EdV.ed).drop r) = File.made (File.make f ((vs.map EdV.ed).drop (r + 1))) x.ed := by rw [hd]; rfl
              obtain ⟨xa, xA, xc, xo, xA', xc', xn⟩ := x
              simp only at hc0 hc1 hc2 hxs hxn
              obtain ⟨n, rfl⟩ : ∃ n : Nat, xa = (n : Int) := ⟨xa.toNat, by omega⟩
              have hge2 : n + xo.length ≤ (File.make f ((vs.map EdV.ed).drop (r + 1))).length := hge
              have hmk2 : File.make f ((vs.map EdV.ed).drop r) = (File.make f ((vs.map EdV.ed).drop (r + 1))).take n ++ (xn ++ (File.make f ((vs.map EdV.ed).drop (r + 1))).drop (n + xo.length)) := hmk
              have HMD := Lib.hid (made_spec Ax (File.make f ((vs.map EdV.ed).drop (r + 1))) cx n xA xo.length xc xA' xn xc' wr (by omega) (by omega) hge2 hcx HO.out.sl hxn)
              rw [← hmk2] at HMD
              have HMR := Lib.hid (rfl : File.make f ((vs.map EdV.ed).drop r) = File.make f ((vs.map EdV.ed).drop r))
              have hzx := hb0x.size
              clear hge hge2 hmk hmk2 hd hx hxh hxn HO
              generalize (File.make f ((vs.map EdV.ed).drop (r + 1))).length = L at *
              go_wp2_with fail
              refine HMD.out.mono ?_
              rintro _ w7 ⟨v7, rfl, ho7, hb7⟩
              go_wp2_with fail
              go_roundw
              case rel => exact ⟨r, by omega, by go_num, Lib.hid (ho7.base hzx), hbx.next hb7 (Nat.le_refl _)⟩
              case measure => first | (simp [intOf]; done) | (simp [intOf]; omega)
    · rw [if_neg hz2] at hans
      have HX := Lib.hid hans
      generalize File.checkChange (vs.map EdV.ed) = e0 at *
      have he0 : (e0 != 0) = true := by simpa using hz2
      clear hz hz2 hans hgf
      go_enter Tryz.func32, Tryz.ntmps32
      go_wp2_with fail
      go_step3
      go_wp2_with fail
      refine HCF.out.mono ?_
      rintro _ w1 ⟨rfl, hb1⟩
      go_wp2_with fail
      refine (HCC.out w1 hb1).mono ?_
      rintro _ w2 ⟨rfl, hb2⟩
      go_wp2_with fail
      try rw [Exit.noGoto_ret]
      go_ret2
      exact ⟨.slice none 0 0, by rw [HX.out]; rfl, by rw [HX.out]; exact Own.nil, hb1.next hb2 (Nat.le_refl _)⟩
  · rw [if_neg hz] at hans
    have HX := Lib.hid hans
    generalize File.check f = e0 at *
    have he0 : (e0 != 0) = true := by simpa using hz
    clear hz hans
    go_enter Tryz.func32, Tryz.ntmps32
    go_wp2_with fail
    go_step3
    go_wp2_with fail
    refine HCF.out.mono ?_
    rintro _ w1 ⟨rfl, hb1⟩
    go_wp2_with fail
    try rw [Exit.noGoto_ret]
    go_ret2
    exact ⟨.slice none 0 0, by rw [HX.out]; rfl, by rw [HX.out]; exact Own.nil, hb1⟩
end Fl
end Go.Proofs.YtekkhnjepcebkaaGreatDoor
end
section
namespace Go.Proofs.YtekkhnjepcebkaaGreatDoor
namespace File
set_option linter.unusedSectionVars false
section
variable {α : Type} [DecidableEq α]
def Block.swap (b : Block α) : Block α := ⟨b.lo, b.hi, b.e1, b.e0⟩
theorem add_add (b : Block α) (x y : Edit α) : (b.add false x).add true y = (b.add true y).add false x := by
  simp [Block.add, Nat.max_assoc, Nat.max_comm x.hi y.hi]
/-- What a change makes, told from its start on. -/
theorem make_has {f : List α} : ∀ {c : List (Edit α)} {lo : Nat}, Chain lo c → Within f.length c → make f c = f.take lo ++ hasGo f f.length lo c
  | [], lo, _, _ => by
    simp only [make, List.foldr_nil, hasGo, cut]
    rw [List.take_of_length_le (l := f.drop lo) (by simp), List.take_append_drop]
  | x :: r, lo, ⟨h1, h2⟩, hw => by
    have hx := hw x List.mem_cons_self
    have hr : Within f.length r := fun y hy => hw y (List.mem_cons_of_mem _ hy)
    have hlh := x.lo_hi
    have hlo : lo ≤ x.lo := by unfold Edit.lo; omega
    have ih := make_has (f := f) (h2.weaken (Nat.le_succ x.hi)) hr
    show made (make f r) x = _
    rw [ih]
    simp only [made, hasGo]
    have e1 : x.at_.toNat = x.lo := rfl
    have e2 : x.at_.toNat + x.old.length = x.hi := rfl
    have hl : (f.take x.hi).length = x.hi := by rw [List.length_take]; omega
    rw [e2, e1, List.take_append_of_le_length (by omega), List.take_take, Nat.min_eq_left hlh]
    have e3 : (f.take x.hi ++ hasGo f f.length x.hi r).drop x.hi = hasGo f f.length x.hi r := by
      rw [List.drop_append_of_le_length (by omega), List.drop_of_length_le (by omega), List.nil_append]
    rw [e3, ← List.append_assoc (f.take lo)]
    congr 1
    unfold cut
    have : f.take x.lo = f.take lo ++ (f.drop lo).take (x.lo - lo) := by
      rw [← List.take_add]
      congr 1
      omega
    rw [this]
end
end File
end Go.Proofs.YtekkhnjepcebkaaGreatDoor
namespace Go.Proofs.YtekkhnjepcebkaaGreatDoor
namespace File
/-- How many lines more a change makes. -/
def more : List (Edit ByteArray) → Int
  | [] => 0
  | x :: r => (x.new.length : Int) - (x.old.length : Int) + more r
end File
end Go.Proofs.YtekkhnjepcebkaaGreatDoor
namespace Go.Proofs.YtekkhnjepcebkaaGreatDoor
namespace File
/-- Where reading stands. -/
def posOf : (Int × Nat) ⊕ (List ByteArray × List UInt8 × Nat) → Nat
  | .inl x => x.2
  | .inr x => x.2.2
end File
end Go.Proofs.YtekkhnjepcebkaaGreatDoor
end
