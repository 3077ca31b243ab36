/- Earns of package price; a plan with two weeks exchanged. Conditions: lengths are below a great bound. -/
import Derived.Test.YtkailkfiakagfaaGreatPriceF
import Derived.BigRegion
set_option linter.unusedVariables false
set_option linter.unusedSimpArgs false
namespace Go.Proofs.YtkailkfiakagfaaGreat
open Go.RowKit
set_option maxRecDepth 100000

namespace Price
structure OpenOk (l : List Rule) (fall : Int) (bought : List Int) (stock : List Piece) : Prop where
  hcheck : check l = 0
  hstock : stock.length ≤ 10
  hfall0 : 0 ≤ fall
  hfall1 : fall ≤ 30
  hweeks0 : 1 ≤ bought.length
  hweeks1 : bought.length ≤ 8
  hbought : ∀ n ∈ bought, 0 ≤ n ∧ n ≤ 9
  hprices : ∀ p ∈ (stocked l stock).1, 0 ≤ p ∧ p ≤ 500
  hlength : (stocked l stock).1.length = stock.length
  hok : (stocked l stock).2 = 0
theorem openErr_ok {l : List Rule} {fall : Int} {bought : List Int} {stock : List Piece} (h : openErr l fall bought stock = 0) : OpenOk l fall bought stock := by
  unfold openErr at h
  split at h
  · rename_i h0
    split at h
    · rename_i h1
      split at h
      · rename_i h2
        unfold checkSale at h1
        split at h1
        · rename_i h3
          split at h1
          · rename_i h4
            simp only [Bool.and_eq_true, List.all_eq_true, inB, decide_eq_true_eq] at h3 h4
            exact ⟨h0, h2, h4.1.1, h4.1.2, by omega, by omega, h4.2, stocked_bounds (check_prices h0) stock, stocked_length stock h, h⟩
          · cases h1
        · cases h1
      · cases h
    · rename_i h1; exact absurd h h1
  · rename_i h0; exact absurd h h0
structure PlanOk (l : List Rule) (fall : Int) (bought : List Int) (stock : List Piece) (plan : List Int) : Prop extends OpenOk l fall bought stock where
  hopenErr : openErr l fall bought stock = 0
  hplan : plan.length = stock.length
  hplanweeks : ∀ x ∈ plan, -1 ≤ x ∧ x ≤ bought.length - 1
  hroom : room bought plan = true
theorem planErr_ok {l : List Rule} {fall : Int} {bought : List Int} {stock : List Piece} {plan : List Int} (h : planErr l fall bought stock plan = 0) : PlanOk l fall bought stock plan := by
  unfold planErr at h
  split at h
  · rename_i h0
    split at h
    · rename_i h1
      split at h
      · rename_i h2
        split at h
        · rename_i h3
          simp only [List.all_eq_true, inB, Bool.and_eq_true, decide_eq_true_eq] at h2
          exact ⟨openErr_ok h0, h0, h1, h2, h3⟩
        · cases h
      · cases h
    · cases h
  · rename_i h0; exact absurd h h0
def earnsOf (l : List Rule) (fall : Int) (bought : List Int) (stock : List Piece) (plan : List Int) : Int × Int :=
  if planErr l fall bought stock plan = 0 then (earns fall (stocked l stock).1 plan, 0) else (0, planErr l fall bought stock plan)
end Price
theorem Earns_spec
    (A : Option Addr) (l : List Rule) (c : Nat) (fall : Int) (Ab : Option Addr) (bought : List Int) (cb : Nat) (As : Option Addr) (stock : List Piece) (cs : Nat) (w : World) (hm : l.length ≤ big) (hc : l.length ≤ c) (hs : Sl ruleE w A l) (hmb : bought.length ≤ big) (hsb : Sl intE w Ab bought) (hms : stock.length ≤ big) (hss : Sl pieceE w As stock)
    (App : Option Addr) (plan : List Int) (cp : Nat) (hmp : plan.length ≤ big) (hsp : Sl intE w App plan)
    : Calls Tryz.prog 51 #[.slice A l.length c, saleV fall Ab bought.length cb, .slice As stock.length cs, .slice App plan.length cp] w fun e w' =>
      e = .returned (.tuple #[iv (Price.earnsOf l fall bought stock plan).1, iv (Price.earnsOf l fall bought stock plan).2]) ∧ Below w.heap.size w w' := by
  have hop := planned_spec A l c fall Ab bought cb As stock cs (w.alloc (.cells #[iv fall, .slice Ab bought.length cb] 30)) hm hc (hs.alloc _) hmb (hsb.alloc _) hms (hss.alloc _) App plan cp hmp (hsp.alloc _)
  have HOP := Lib.hid hop
  clear hop
  by_cases h0 : Price.planErr l fall bought stock plan = 0
  · have ho := Price.planErr_ok h0
    have he : Price.earnsOf l fall bought stock plan = (Price.earns fall (Price.stocked l stock).1 plan, 0) := by simp [Price.earnsOf, h0]
    rw [h0] at HOP
    rw [he]
    clear he h0
    have HO := Lib.hid ho
    clear ho
    go_enter Tryz.func51, Tryz.ntmps51
    go_wp2_with (first
      | (go_at_call 80; refine HOP.out.mono ?_; rintro e w1 ⟨hb1, ⟨h, _⟩ | ⟨_, g, Ap, cpp, rfl, hd⟩⟩; exact absurd rfl h)
      | (go_at_call 81; refine (earns_spec g fall bought stock (Price.stocked l stock).1 Ab cb As cs Ap cpp App plan cp _ hd (hsp.below hb1.of_alloc) (HO.out.hplan.trans HO.out.hlength.symm) (by have := HO.out.hstock; have := HO.out.hplan; omega) HO.out.hfall0 HO.out.hfall1 HO.out.hprices (fun x hx => by have := HO.out.hplanweeks x hx; have := HO.out.hweeks1; omega)).mono ?_; rintro e w2 ⟨rfl, hb2⟩))
    go_ret2
    exact ⟨rfl, hb1.of_alloc.next hb2 (Nat.le_refl _)⟩
  · have he : Price.earnsOf l fall bought stock plan = (0, Price.planErr l fall bought stock plan) := by simp [Price.earnsOf, h0]
    rw [he]
    clear he
    have h0' : (Price.planErr l fall bought stock plan != 0) = true := by simpa using h0
    go_enter Tryz.func51, Tryz.ntmps51
    go_wp2_with (first
      | (go_at_call 80; refine HOP.out.mono ?_; rintro e w1 ⟨hb1, ⟨_, rfl⟩ | ⟨h, _⟩⟩; rotate_left; exact absurd h h0))
    go_ret2
    exact ⟨rfl, hb1.of_alloc⟩

/-- The plan in which two pieces have the week of each other. -/
def Price.exch (plan : List Int) (i k : Nat) : List Int := (plan.set i (plan.getD k 0)).set k (plan.getD i 0)
theorem zero_int : ∃ i z, (Tryz.prog).info? 3 = some i ∧ i.zero = some z ∧ z.cells.toList = intE.cells 0 := by
  obtain ⟨i, h1, h2, _, _⟩ := info_parts (P := Tryz.prog) (e := 3) (z := .int .i64 0) (size := 1) (bytes := 8) (by kernel_rfl)
  exact ⟨i, _, h1, h2, rfl⟩
theorem exchanged_spec (A : Option Addr) (plan : List Int) (c : Nat) (i k : Nat) (w : World) (hm : plan.length ≤ big) (hs : Sl intE w A plan) (hi : i < plan.length) (hk : k < plan.length) (hik : i ≠ k) :
    Calls Tryz.prog 82 #[.slice A plan.length c, iv i, iv k] w fun e w' => ∃ v, e = .returned v ∧ Own intE 3 w.heap.size w' v (Price.exch plan i k) ∧ Below w.heap.size w w' := by
  obtain ⟨b, off, x, rfl, hb, hx, hc⟩ := hs.atI hi
  obtain ⟨b2, off2, y, hA, hb2, hy, hc2⟩ := hs.atI hk
  injection hA with hA
  injection hA with e1 e2
  subst e1 e2
  have hsz : ((Tryz.prog).info? 3).map (·.size) = some 1 := by kernel_rfl
  go_enter Tryz.func82, Tryz.ntmps82
  go_wp2_with (first
    | (at_make; refine wpMakeN intE tyInts 0 zero_int rfl _ _ rfl plan.length rfl rfl hm ?_; intro w1 hown1 hb1; obtain ⟨hB1, _⟩ := hown1.full; rw [flat_int] at hB1; obtain ⟨w2, hcp, hB2, hb2⟩ := run_copyI (ty := 3) Tryz.underlying22 hsz hB1 (by simp) (c := c) (hs.below hb1); have HB2 := Lib.hid hB2; clear hB1 hown1 hB2))
  have hg1 : (plan.map iv).toArray[i]? = some (iv x) := by simp [hx]
  have hg2 : (plan.map iv).toArray[k]? = some (iv y) := by simp [hy]
  have hb3 := hb1.trans hb2
  have hlt : w.heap.size < w2.heap.size := HB2.out.lt
  have s1 := (hb3.cell (p := ⟨b, off + i, none⟩) hb).trans hc
  have s2 := (hb3.cell (p := ⟨b, off + k, none⟩) hb).trans hc2
  have d1 : w2.cell? ⟨w.heap.size, i, none⟩ = some (iv x) := (HB2.out.cell i).trans hg1
  have d2 : w2.cell? ⟨w.heap.size, k, none⟩ = some (iv y) := (HB2.out.cell k).trans hg2
  have f1 := HB2.out.frozen i
  have f2 := HB2.out.frozen k
  have i1 : (i : Int) < (plan.length : Int) := by omega
  have i2 : (k : Int) < (plan.length : Int) := by omega
  have hik' : ¬ k = i := fun h => hik h.symm
  have hbn : ¬ b = w.heap.size := by omega
  have hbn' : ¬ w.heap.size = b := by omega
  clear hcp hg1 hg2 hc hc2
  go_region
  go_wp2
  go_ret
  have hlen : (Price.exch plan i k).length = plan.length := by simp [Price.exch]
  have hcells : ((((plan.map iv).toArray.setIfInBounds i (iv y)).setIfInBounds k (iv x))) = ((Price.exch plan i k).flatMap intE.cells).toArray := by
    rw [flat_int]
    simp [Price.exch, List.map_set, hx, hy, List.getD_eq_getElem?_getD]
  have hB4 := ((show Blk w2.drew w.heap.size _ _ from HB2.out).set_ i (iv y)).set_ k (iv x)
  rw [hcells] at hB4
  have ho := Own.ofBlk (E := intE) (B := w.heap.size) hB4 (Nat.le_refl _) (by rw [hlen]; unfold maxLen; unfold big at hm; omega)
  rw [hlen] at ho
  exact ⟨_, rfl, ho, ((hb3.drew).setCell (Nat.le_refl _) _).setCell (Nat.le_refl _) _⟩
end Go.Proofs.YtkailkfiakagfaaGreat
