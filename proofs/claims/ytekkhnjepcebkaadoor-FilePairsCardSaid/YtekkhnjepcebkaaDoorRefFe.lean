/- The reference of layer 11: Most, first, Common, Alike. Conditions: few lines. -/
import Derived.Test.YtekkhnjepcebkaaDoorFlLs
import Derived.Lib.MinMax
set_option linter.unusedVariables false
set_option linter.unusedSimpArgs false
namespace Go.Proofs.YtekkhnjepcebkaaDoor
namespace File
/-- A row of the reference's table. -/
def preRow (a b : List ByteArray) (i : Nat) : List Int := (List.range (b.length + 1)).map fun j => ((pre a b i j : Nat) : Int)
theorem preRow_len (a b : List ByteArray) (i : Nat) : (preRow a b i).length = b.length + 1 := by simp [preRow]
theorem preRow_at (a b : List ByteArray) (i : Nat) {j : Nat} (h : j < b.length + 1) : (preRow a b i)[j]? = some ((pre a b i j : Nat) : Int) := by simp [preRow, List.getElem?_map, List.getElem?_range h]
theorem preRow_zero (a b : List ByteArray) : preRow a b 0 = List.replicate (b.length + 1) 0 := by
  apply List.ext_getElem?
  intro j
  by_cases h : j < b.length + 1
  · rw [preRow_at a b 0 h, List.getElem?_replicate, if_pos h, pre_zero]; rfl
  · rw [List.getElem?_eq_none (by rw [preRow_len]; omega), List.getElem?_eq_none (by simp; omega)]
end File
namespace Fl
open Go.RowKit
set_option maxRecDepth 100000
/-- A row that is under way. -/
def Run (a b : List ByteArray) (i j : Nat) (ys : List Int) : Prop := ys.length = b.length + 1 ∧ ∀ q, q ≤ j → q ≤ b.length → ys[q]? = some ((File.pre a b (i + 1) q : Nat) : Int)
theorem Run.start (a b : List ByteArray) (i : Nat) : Run a b i 0 (List.replicate (b.length + 1) 0) := ⟨List.length_replicate, fun q h _ => by
  have : q = 0 := by omega
  subst this
  rw [List.getElem?_replicate, if_pos (by omega), File.pre_none]; rfl⟩
theorem Run.next {a b : List ByteArray} {i j : Nat} {ys : List Int} (h : Run a b i j ys) {m : Int} (hj : j < b.length) (hm : m = ((File.pre a b (i + 1) (j + 1) : Nat) : Int)) : Run a b i (j + 1) (ys.set (j + 1) m) := by
  obtain ⟨h1, h2⟩ := h
  refine ⟨by rw [List.length_set]; exact h1, fun q hq hb => ?_⟩
  by_cases he : q = j + 1
  · subst he; rw [List.getElem?_set_self (by omega), hm]
  · rw [List.getElem?_set_ne (by omega)]; exact h2 q (by omega) hb
theorem Run.full {a b : List ByteArray} {i : Nat} {ys : List Int} (h : Run a b i b.length ys) : ys = File.preRow a b (i + 1) := by
  obtain ⟨h1, h2⟩ := h
  apply List.ext_getElem?
  intro q
  by_cases hq : q < b.length + 1
  · rw [h2 q (by omega) (by omega), File.preRow_at a b (i + 1) hq]
  · rw [List.getElem?_eq_none (by omega), List.getElem?_eq_none (by rw [File.preRow_len]; omega)]
set_option maxHeartbeats 8000000 in
theorem most_spec (A : Option Addr) (a : List ByteArray) (c : Nat) (A' : Option Addr) (b : List ByteArray) (c' : Nat) (w : World) (ha : a.length ≤ 24) (hb : b.length ≤ 24) (hsa : Sl strE w A a) (hsb : Sl strE w A' b) :
    Calls Tryd.prog 36 #[.slice A a.length c, .slice A' b.length c'] w fun e w' => e = .returned (iv (File.lcs a b : Nat)) ∧ Below w.heap.size w w' := by
  go_enter Tryd.func36, Tryd.ntmps36
  go_wp2_with (at_make; refine wpMakeN intE tyInts 0 zero_int rfl _ _ rfl (b.length + 1) rfl rfl (by unfold big; omega) ?_; intro w1 hown1 hb1)
  have hb1' := hb1
  go_loopw [5, 6, 7, 8] (fun u i _ _ wr => ∃ (k g : Nat), k ≤ a.length ∧ i = iv k ∧ u = .slice (some ⟨g, 0, none⟩) (b.length + 1) (b.length + 1) ∧ Hid (Own intE 3 w.heap.size wr (.slice (some ⟨g, 0, none⟩) (b.length + 1) (b.length + 1)) (File.preRow a b k)) ∧ Below w.heap.size w wr) (fun _ i _ _ _ => a.length - (intOf i).toNat)
  case atStart => exact ⟨0, w.heap.size, by omega, rfl, rfl, Lib.hid (by rw [File.preRow_zero]; exact hown1), hb1⟩
  case round =>
    obtain ⟨i, g, hi, rfl, rfl, HO, hbr⟩ := hrel
    by_cases hlt : i < a.length
    · have hii : (i : Int) < (a.length : Int) := by omega
      go_wp2_with (at_make; refine wpMakeN intE tyInts 0 zero_int rfl _ _ rfl (b.length + 1) rfl rfl (by unfold big; omega) ?_; intro w4 hown4 hb4)
      have HO4 := Lib.hid (HO.out.below hb4)
      have hgl := Own.lt HO.out g rfl
      have hb04 := hbr.next hb4 (Nat.le_refl _)
      have hown4' := Lib.hid hown4
      generalize wr.heap.size = g2 at *
      have hg2 := (Own.lt hown4 g2 rfl).2
      clear hown1 hb1' hown4 HO hb4 hb1
      go_loopw [8] (fun v wx => ∃ (j : Nat) (ys : List Int), j ≤ b.length ∧ v = iv j ∧ Hid (Run a b i j ys) ∧ Hid (Own intE 3 g2 wx (.slice (some ⟨g2, 0, none⟩) (b.length + 1) (b.length + 1)) ys) ∧ Only g2 w4 wx) (fun v _ => b.length - (intOf v).toNat)
      case atStart => exact ⟨0, _, by omega, rfl, Lib.hid (Run.start a b i), hown4', Only.refl _ _⟩
      case round =>
        obtain ⟨j, ys, hj, rfl, HR, HY, hon⟩ := hrel
        have hbx := hb04.trans (hon.below.mono (by have := hb04.size; omega))
        by_cases hjl : j < b.length
        · have hjj : (j : Int) < (b.length : Int) := by omega
          have hOg := Only.own hon HO4.out (by simp [Value.ownBlock]; omega)
          obtain ⟨X0, hX0⟩ : ∃ X0, X0 = File.pre a b i j := ⟨_, rfl⟩
          obtain ⟨X1, hX1⟩ : ∃ X1, X1 = File.pre a b i (j + 1) := ⟨_, rfl⟩
          obtain ⟨Y0, hY0⟩ : ∃ Y0, Y0 = File.pre a b (i + 1) j := ⟨_, rfl⟩
          obtain ⟨_, _, v0, e0, _, gl0, hv0, hc0, _⟩ := ownI hOg (k := j) (by rw [File.preRow_len]; omega)
          obtain ⟨_, _, v1, e1, _, _, hv1, hc1, _⟩ := ownI hOg (k := j + 1) (by rw [File.preRow_len]; omega)
          rw [File.preRow_at a b i (by omega), ← hX0] at hv0
          rw [File.preRow_at a b i (by omega), ← hX1] at hv1
          have hyl : ys.length = b.length + 1 := HR.out.1
          obtain ⟨_, _, v2, e2, _, gl2, hv2, hc2, hf2⟩ := ownI HY.out (k := j) (by omega)
          rw [HR.out.2 j (Nat.le_refl _) (by omega), ← hY0] at hv2
          injection e0 with e0 _ _
          injection e0 with e0
          injection e0 with e0 _ _
          injection e1 with e1 _ _
          injection e1 with e1
          injection e1 with e1 _ _
          injection e2 with e2 _ _
          injection e2 with e2
          injection e2 with e2 _ _
          subst e0 e1 e2
          have hv0 := (Option.some.inj hv0).symm
          have hv1 := (Option.some.inj hv1).symm
          have hv2 := (Option.some.inj hv2).symm
          subst hv0 hv1 hv2
          have HX : Hid (∀ x, Below wr.heap.size wr x → x.cell? ⟨g, j, none⟩ = some (iv (X0 : Int)) ∧ x.cell? ⟨g, j + 1, none⟩ = some (iv (X1 : Int)) ∧ x.cell? ⟨g2, j, none⟩ = some (iv (Y0 : Int))) := Lib.hid fun x h =>
            ⟨(h.cell (p := ⟨g, j, none⟩) gl0).trans hc0, (h.cell (p := ⟨g, j + 1, none⟩) gl0).trans hc1, (h.cell (p := ⟨g2, j, none⟩) gl2).trans hc2⟩
          have hXb : X0 ≤ 24 ∧ X1 ≤ 24 ∧ Y0 ≤ 25 := ⟨by rw [hX0]; have := File.pre_le a b i j; omega, by rw [hX1]; have := File.pre_le a b i (j + 1); omega, by rw [hY0]; have := File.pre_le a b (i + 1) j; omega⟩
          obtain ⟨ba, oa, sa, rfl, hba, hxa, hca⟩ := Sl.atS (hsa.below hbx) hlt
          obtain ⟨bb, ob, sb, rfl, hbb, hxb, hcb⟩ := Sl.atS (hsb.below hbx) hjl
          have HST := File.pre_step hxa hxb
          rw [← hX0, ← hX1, ← hY0] at HST
          have HST := Lib.hid HST
          have HSA : Hid (∀ x, Below w.heap.size w x → x.cell? ⟨ba, oa + i, none⟩ = some (.string sa)) := Lib.hid fun W h => by
            obtain ⟨_, _, s2, hA', _, hx2, hc2⟩ := Sl.atS (hsa.below h) hlt
            injection hA' with hA'
            injection hA' with e1 e2 _
            subst e1; subst e2
            rw [hxa] at hx2
            rw [hc2, Option.some.inj hx2]
          have HSB : Hid (∀ x, Below w.heap.size w x → x.cell? ⟨bb, ob + j, none⟩ = some (.string sb)) := Lib.hid fun W h => by
            obtain ⟨_, _, s2, hA', _, hx2, hc2⟩ := Sl.atS (hsb.below h) hjl
            injection hA' with hA'
            injection hA' with e1 e2 _
            subst e1; subst e2
            rw [hxb] at hx2
            rw [hc2, Option.some.inj hx2]
          obtain ⟨q, hq⟩ : ∃ q, (sa.toList == sb.toList) = q := ⟨_, rfl⟩
          have HQ : Hid (q = decide (sa = sb)) := Lib.hid (by rw [← hq, str_eq])
          have hsx := hon.below.size
          have ewj : IntKind.i64.wrap ((j : Int) + 1) = (j : Int) + 1 := IntWalk.i64_in _ (by omega)
          have ewx : IntKind.i64.wrap ((X0 : Int) + 1) = (X0 : Int) + 1 := IntWalk.i64_in _ (by omega)
          clear hc0 hc1 hc2 hOg hX0 hX1 hY0 hxa hxb hca hcb hown4'
          go_upto_region 9 with fail
          refine wp_free_lit (by kernel_rfl) 14 (by kernel_rfl) (by kernel_rfl) (by decide) (fun _ x => Below wr.heap.size wr x) (fun x x' => Below x.heap.size x x')
            [fun _ u _ => u = .slice (some ⟨g2, 0, none⟩) (b.length + 1) (b.length + 1),
             fun _ u _ => u = iv (j : Int),
             fun _ u _ => u = iv ((j : Int) + 1),
             fun _ u _ => u = .slice (some ⟨g, 0, none⟩) (b.length + 1) (b.length + 1),
             fun _ u _ => u = iv (j : Int),
             fun _ u _ => u = iv ((j : Int) + 1),
             fun _ u _ => u = .pointer (some ⟨g, j + 1, none⟩),
             fun _ u _ => u = iv (X1 : Int),
             fun _ u _ => u = .slice (some ⟨g2, 0, none⟩) (b.length + 1) (b.length + 1),
             fun _ u _ => u = iv (j : Int),
             fun _ u _ => u = .pointer (some ⟨g2, j, none⟩),
             fun _ u _ => u = iv (Y0 : Int),
             fun _ u _ => u = iv (max (X1 : Int) (Y0 : Int)),
             fun _ u _ => u = .pointer (some ⟨g2, j + 1, none⟩)]
            (Below.refl _ wr).drew ?_ ?_
          · simp only [List.take_succ_cons, List.take_zero, HopL]
            refine ⟨?_, ?_, ?_, ?_, ?_, ?_, ?_, ?_, ?_, ?_, ?_, ?_, ?_, ?_, trivial⟩
            · refine ⟨fun _ _ _ _ _ h => h, fun _ _ _ _ h _ => h, fun v nR x hnR hR hk => ?_⟩
              simp only [List.take_succ_cons, List.take_zero, frameF, Act.put, List.setIfInBounds_toArray, List.set_cons_zero, List.set_cons_succ]
              exact stepF_val (by first | rfl | simp [Region.wanted, yielded, *]) (by go_simp <;> omega) ⟨rfl, Below.refl _ _, hR⟩
            · refine ⟨fun _ _ _ _ _ h => h, fun _ _ _ _ h _ => h, fun v nR x hnR hR hk => ?_⟩
              simp only [List.take_succ_cons, List.take_zero, frameF, Act.put, List.setIfInBounds_toArray, List.set_cons_zero, List.set_cons_succ]
              exact stepF_val (by first | rfl | simp [Region.wanted, yielded, *]) (by go_simp <;> omega) ⟨rfl, Below.refl _ _, hR⟩
            · refine ⟨fun _ _ _ _ _ h => h, fun _ _ _ _ h _ => h, fun v nR x hnR hR hk => ?_⟩
              have h1 : v 1 = iv (j : Int) := hk 1 (by kernel_rfl)
              simp only [List.take_succ_cons, List.take_zero, frameF, Act.put, List.setIfInBounds_toArray, List.set_cons_zero, List.set_cons_succ]
              exact stepF_val (by first | rfl | simp [Region.wanted, yielded, *]) (by go_simp <;> omega) ⟨rfl, Below.refl _ _, hR⟩
            · refine ⟨fun _ _ _ _ _ h => h, fun _ _ _ _ h _ => h, fun v nR x hnR hR hk => ?_⟩
              simp only [List.take_succ_cons, List.take_zero, frameF, Act.put, List.setIfInBounds_toArray, List.set_cons_zero, List.set_cons_succ]
              exact stepF_val (by first | rfl | simp [Region.wanted, yielded, *]) (by go_simp <;> omega) ⟨rfl, Below.refl _ _, hR⟩
            · refine ⟨fun _ _ _ _ _ h => h, fun _ _ _ _ h _ => h, fun v nR x hnR hR hk => ?_⟩
              simp only [List.take_succ_cons, List.take_zero, frameF, Act.put, List.setIfInBounds_toArray, List.set_cons_zero, List.set_cons_succ]
              exact stepF_val (by first | rfl | simp [Region.wanted, yielded, *]) (by go_simp <;> omega) ⟨rfl, Below.refl _ _, hR⟩
            · refine ⟨fun _ _ _ _ _ h => h, fun _ _ _ _ h _ => h, fun v nR x hnR hR hk => ?_⟩
              have h4 : v 4 = iv (j : Int) := hk 4 (by kernel_rfl)
              simp only [List.take_succ_cons, List.take_zero, frameF, Act.put, List.setIfInBounds_toArray, List.set_cons_zero, List.set_cons_succ]
              exact stepF_val (by first | rfl | simp [Region.wanted, yielded, *]) (by go_simp <;> omega) ⟨rfl, Below.refl _ _, hR⟩
            · refine ⟨fun _ _ _ _ _ h => h, fun _ _ _ _ h _ => h, fun v nR x hnR hR hk => ?_⟩
              have h3 : v 3 = .slice (some ⟨g, 0, none⟩) (b.length + 1) (b.length + 1) := hk 3 (by kernel_rfl)
              have h5 : v 5 = iv ((j : Int) + 1) := hk 5 (by kernel_rfl)
              simp only [List.take_succ_cons, List.take_zero, frameF, Act.put, List.setIfInBounds_toArray, List.set_cons_zero, List.set_cons_succ]
              exact stepF_val (by first | rfl | simp [Region.wanted, yielded, *]) (by go_simp <;> omega) ⟨rfl, Below.refl _ _, hR⟩
            · refine ⟨fun _ _ _ _ _ h => h, fun _ _ _ _ h _ => h, fun v nR x hnR hR hk => ?_⟩
              have h6 : v 6 = .pointer (some ⟨g, j + 1, none⟩) := hk 6 (by kernel_rfl)
              have g1 := (HX.out x hR).2.1
              simp only [List.take_succ_cons, List.take_zero, frameF, Act.put, List.setIfInBounds_toArray, List.set_cons_zero, List.set_cons_succ]
              exact stepF_val (by first | rfl | simp [Region.wanted, yielded, *]) (by go_simp <;> omega) ⟨rfl, Below.refl _ _, hR⟩
            · refine ⟨fun _ _ _ _ _ h => h, fun _ _ _ _ h _ => h, fun v nR x hnR hR hk => ?_⟩
              simp only [List.take_succ_cons, List.take_zero, frameF, Act.put, List.setIfInBounds_toArray, List.set_cons_zero, List.set_cons_succ]
              exact stepF_val (by first | rfl | simp [Region.wanted, yielded, *]) (by go_simp <;> omega) ⟨rfl, Below.refl _ _, hR⟩
            · refine ⟨fun _ _ _ _ _ h => h, fun _ _ _ _ h _ => h, fun v nR x hnR hR hk => ?_⟩
              simp only [List.take_succ_cons, List.take_zero, frameF, Act.put, List.setIfInBounds_toArray, List.set_cons_zero, List.set_cons_succ]
              exact stepF_val (by first | rfl | simp [Region.wanted, yielded, *]) (by go_simp <;> omega) ⟨rfl, Below.refl _ _, hR⟩
            · refine ⟨fun _ _ _ _ _ h => h, fun _ _ _ _ h _ => h, fun v nR x hnR hR hk => ?_⟩
              have h8 : v 8 = .slice (some ⟨g2, 0, none⟩) (b.length + 1) (b.length + 1) := hk 8 (by kernel_rfl)
              have h9 : v 9 = iv (j : Int) := hk 9 (by kernel_rfl)
              simp only [List.take_succ_cons, List.take_zero, frameF, Act.put, List.setIfInBounds_toArray, List.set_cons_zero, List.set_cons_succ]
              exact stepF_val (by first | rfl | simp [Region.wanted, yielded, *]) (by go_simp <;> omega) ⟨rfl, Below.refl _ _, hR⟩
            · refine ⟨fun _ _ _ _ _ h => h, fun _ _ _ _ h _ => h, fun v nR x hnR hR hk => ?_⟩
              have h10 : v 10 = .pointer (some ⟨g2, j, none⟩) := hk 10 (by kernel_rfl)
              have g1 := (HX.out x hR).2.2
              simp only [List.take_succ_cons, List.take_zero, frameF, Act.put, List.setIfInBounds_toArray, List.set_cons_zero, List.set_cons_succ]
              exact stepF_val (by first | rfl | simp [Region.wanted, yielded, *]) (by go_simp <;> omega) ⟨rfl, Below.refl _ _, hR⟩
            · refine ⟨fun _ _ _ _ _ h => h, fun _ _ _ _ h _ => h, fun v nR x hnR hR hk => ?_⟩
              have h7 : v 7 = iv (X1 : Int) := hk 7 (by kernel_rfl)
              have h11 : v 11 = iv (Y0 : Int) := hk 11 (by kernel_rfl)
              simp only [List.take_succ_cons, List.take_zero, frameF, Act.put, List.setIfInBounds_toArray, List.set_cons_zero, List.set_cons_succ]
              exact stepF_val (by first | rfl | simp [Region.wanted, yielded, *]) (by go_simp <;> omega) ⟨rfl, Below.refl _ _, hR⟩
            · refine ⟨fun _ _ _ _ _ h => h, fun _ _ _ _ h _ => h, fun v nR x hnR hR hk => ?_⟩
              have h0 : v 0 = .slice (some ⟨g2, 0, none⟩) (b.length + 1) (b.length + 1) := hk 0 (by kernel_rfl)
              have h2 : v 2 = iv ((j : Int) + 1) := hk 2 (by kernel_rfl)
              simp only [List.take_succ_cons, List.take_zero, frameF, Act.put, List.setIfInBounds_toArray, List.set_cons_zero, List.set_cons_succ]
              exact stepF_val (by first | rfl | simp [Region.wanted, yielded, *]) (by go_simp <;> omega) ⟨rfl, Below.refl _ _, hR⟩
          · intro v nR x1 hnR hR hall
            have h12 : v 12 = iv (max (X1 : Int) (Y0 : Int)) := hall 12 (by decide)
            have h13 : v 13 = .pointer (some ⟨g2, j + 1, none⟩) := hall 13 (by decide)
            clear hall hnR
            simp only [List.drop_succ_cons, List.drop_zero, List.take_succ_cons, List.take_zero, frameF, Act.put, List.setIfInBounds_toArray, List.set_cons_zero, List.set_cons_succ, Nat.zero_add, Nat.reduceAdd, h12, h13]
            have hY1 := HY.out.below hR
            have hY2 := setI hY1 (k := j + 1) (by omega) (max (X1 : Int) (Y0 : Int))
            have hf1 : ∀ o, x1.frozen? ⟨g2, o, none⟩ = false := by
              obtain ⟨_, _, _, e3, _, _, _, _, hf3⟩ := ownI hY1 (k := j) (by omega)
              injection e3 with e3 _ _
              injection e3 with e3
              injection e3 with e3 _ _
              subst e3
              exact hf3
            have hg1 : g2 < x1.heap.size := Nat.lt_of_lt_of_le gl2 hR.size
            have hc1 : ∃ u, x1.cell? ⟨g2, j + 1, none⟩ = some u := by
              obtain ⟨_, _, u, e3, _, _, _, hcc, _⟩ := ownI hY1 (k := j + 1) (by omega)
              injection e3 with e3 _ _
              injection e3 with e3
              injection e3 with e3 _ _
              subst e3
              exact ⟨_, hcc⟩
            obtain ⟨u1, hc1⟩ := hc1
            have hon1 : Only g2 w4 (x1.setCell ⟨g2, j + 1, none⟩ (iv (max (X1 : Int) (Y0 : Int)))) := (hon.next hR (by omega)).trans (Only.set_ g2 (j + 1) _ _)
            have hX2 : Hid (∀ x, Below (x1.setCell ⟨g2, j + 1, none⟩ (iv (max (X1 : Int) (Y0 : Int)))).heap.size (x1.setCell ⟨g2, j + 1, none⟩ (iv (max (X1 : Int) (Y0 : Int)))) x → x.cell? ⟨g, j, none⟩ = some (iv (X0 : Int))) := Lib.hid fun x h => by
              rw [h.cell (p := ⟨g, j, none⟩) (by simp [World.setCell]; have := hR.size; omega), World.cell?_of_block (w := x1) (Below.heap_setCell x1 ⟨g2, j + 1, none⟩ _ g (by simp; omega))]
              exact (HX.out x1 hR).1
            have hbx1 : Below w.heap.size w (x1.setCell ⟨g2, j + 1, none⟩ (iv (max (X1 : Int) (Y0 : Int)))) := hb04.trans (hon1.below.mono (by have := hb04.size; omega))
            have hl1 : g2 < (x1.setCell ⟨g2, j + 1, none⟩ (iv (max (X1 : Int) (Y0 : Int)))).heap.size := by simp [World.setCell]; exact hg1
            have HX2 := hX2
            clear hX2 HX hY1
            obtain ⟨M, hM⟩ : ∃ M : Nat, max (X1 : Int) (Y0 : Int) = (M : Int) := ⟨max X1 Y0, by omega⟩
            rw [hM] at hY2 hon1 HX2 hbx1 hl1
            rw [hM]
            have HM : Hid (M = max X1 Y0) := Lib.hid (by omega)
            have hMb : M ≤ 25 := by omega
            clear hM
            have HY2 := Lib.hid hY2
            clear hY2 HY
            go_upto_region 10 with fail
            generalize x1.setCell ⟨g2, j + 1, none⟩ (iv (M : Int)) = w5 at *
            refine wp_free_lit (by kernel_rfl) 9 (by kernel_rfl) (by kernel_rfl) (by decide) (fun _ x => Below w5.heap.size w5 x) (fun x x' => Below x.heap.size x x')
              [fun _ u _ => u = .slice (some ⟨ba, oa, none⟩) a.length c,
               fun _ u _ => u = iv (i : Int),
               fun _ u _ => u = .pointer (some ⟨ba, oa + i, none⟩),
               fun _ u _ => u = .string sa,
               fun _ u _ => u = .slice (some ⟨bb, ob, none⟩) b.length c',
               fun _ u _ => u = iv (j : Int),
               fun _ u _ => u = .pointer (some ⟨bb, ob + j, none⟩),
               fun _ u _ => u = .string sb,
               fun _ u _ => u = .bool q]
              (Below.refl _ w5).drew ?_ ?_
            · simp only [List.take_succ_cons, List.take_zero, HopL]
              refine ⟨?_, ?_, ?_, ?_, ?_, ?_, ?_, ?_, ?_, trivial⟩
              · refine ⟨fun _ _ _ _ _ h => h, fun _ _ _ _ h _ => h, fun v nR x hnR hR hk => ?_⟩
                simp only [List.take_succ_cons, List.take_zero, frameF, Act.put, List.setIfInBounds_toArray, List.set_cons_zero, List.set_cons_succ]
                exact stepF_val (by first | rfl | simp [Region.wanted, yielded, *]) (by go_simp <;> omega) ⟨rfl, Below.refl _ _, hR⟩
              · refine ⟨fun _ _ _ _ _ h => h, fun _ _ _ _ h _ => h, fun v nR x hnR hR hk => ?_⟩
                simp only [List.take_succ_cons, List.take_zero, frameF, Act.put, List.setIfInBounds_toArray, List.set_cons_zero, List.set_cons_succ]
                exact stepF_val (by first | rfl | simp [Region.wanted, yielded, *]) (by go_simp <;> omega) ⟨rfl, Below.refl _ _, hR⟩
              · refine ⟨fun _ _ _ _ _ h => h, fun _ _ _ _ h _ => h, fun v nR x hnR hR hk => ?_⟩
                have h0 : v 0 = .slice (some ⟨ba, oa, none⟩) a.length c := hk 0 (by kernel_rfl)
                have h1 : v 1 = iv (i : Int) := hk 1 (by kernel_rfl)
                simp only [List.take_succ_cons, List.take_zero, frameF, Act.put, List.setIfInBounds_toArray, List.set_cons_zero, List.set_cons_succ]
                exact stepF_val (by first | rfl | simp [Region.wanted, yielded, *]) (by go_simp <;> omega) ⟨rfl, Below.refl _ _, hR⟩
              · refine ⟨fun _ _ _ _ _ h => h, fun _ _ _ _ h _ => h, fun v nR x hnR hR hk => ?_⟩
                have h2 : v 2 = .pointer (some ⟨ba, oa + i, none⟩) := hk 2 (by kernel_rfl)
                have g1 := HSA.out x (hbx1.next hR (Nat.le_refl _))
                simp only [List.take_succ_cons, List.take_zero, frameF, Act.put, List.setIfInBounds_toArray, List.set_cons_zero, List.set_cons_succ]
                exact stepF_val (by first | rfl | simp [Region.wanted, yielded, *]) (by go_simp <;> omega) ⟨rfl, Below.refl _ _, hR⟩
              · refine ⟨fun _ _ _ _ _ h => h, fun _ _ _ _ h _ => h, fun v nR x hnR hR hk => ?_⟩
                simp only [List.take_succ_cons, List.take_zero, frameF, Act.put, List.setIfInBounds_toArray, List.set_cons_zero, List.set_cons_succ]
                exact stepF_val (by first | rfl | simp [Region.wanted, yielded, *]) (by go_simp <;> omega) ⟨rfl, Below.refl _ _, hR⟩
              · refine ⟨fun _ _ _ _ _ h => h, fun _ _ _ _ h _ => h, fun v nR x hnR hR hk => ?_⟩
                simp only [List.take_succ_cons, List.take_zero, frameF, Act.put, List.setIfInBounds_toArray, List.set_cons_zero, List.set_cons_succ]
                exact stepF_val (by first | rfl | simp [Region.wanted, yielded, *]) (by go_simp <;> omega) ⟨rfl, Below.refl _ _, hR⟩
              · refine ⟨fun _ _ _ _ _ h => h, fun _ _ _ _ h _ => h, fun v nR x hnR hR hk => ?_⟩
                have h4 : v 4 = .slice (some ⟨bb, ob, none⟩) b.length c' := hk 4 (by kernel_rfl)
                have h5 : v 5 = iv (j : Int) := hk 5 (by kernel_rfl)
                simp only [List.take_succ_cons, List.take_zero, frameF, Act.put, List.setIfInBounds_toArray, List.set_cons_zero, List.set_cons_succ]
                exact stepF_val (by first | rfl | simp [Region.wanted, yielded, *]) (by go_simp <;> omega) ⟨rfl, Below.refl _ _, hR⟩
              · refine ⟨fun _ _ _ _ _ h => h, fun _ _ _ _ h _ => h, fun v nR x hnR hR hk => ?_⟩
                have h6 : v 6 = .pointer (some ⟨bb, ob + j, none⟩) := hk 6 (by kernel_rfl)
                have g1 := HSB.out x (hbx1.next hR (Nat.le_refl _))
                simp only [List.take_succ_cons, List.take_zero, frameF, Act.put, List.setIfInBounds_toArray, List.set_cons_zero, List.set_cons_succ]
                exact stepF_val (by first | rfl | simp [Region.wanted, yielded, *]) (by go_simp <;> omega) ⟨rfl, Below.refl _ _, hR⟩
              · refine ⟨fun _ _ _ _ _ h => h, fun _ _ _ _ h _ => h, fun v nR x hnR hR hk => ?_⟩
                have h3 : v 3 = .string sa := hk 3 (by kernel_rfl)
                have h7 : v 7 = .string sb := hk 7 (by kernel_rfl)
                simp only [List.take_succ_cons, List.take_zero, frameF, Act.put, List.setIfInBounds_toArray, List.set_cons_zero, List.set_cons_succ]
                exact stepF_val (by first | rfl | simp [Region.wanted, yielded, *]) (by go_simp <;> omega) ⟨rfl, Below.refl _ _, hR⟩
            · intro v nR x2 hnR hR hall
              have h8 : v 8 = .bool q := hall 8 (by decide)
              clear hall hnR
              simp only [List.drop_succ_cons, List.drop_zero, List.take_succ_cons, List.take_zero, frameF, Act.put, List.setIfInBounds_toArray, List.set_cons_zero, List.set_cons_succ, Nat.zero_add, Nat.reduceAdd, h8]
              have hon2 := hon1.next hR (by omega)
              have HY3 := Lib.hid (HY2.out.below hR)
              have HX3 : Hid (∀ x, Below x2.heap.size x2 x → x.cell? ⟨g, j, none⟩ = some (iv (X0 : Int))) := Lib.hid fun x h => HX2.out x (hR.next h (Nat.le_refl _))
              clear HX2 HY2
              have hl2 : g2 < x2.heap.size := Nat.lt_of_lt_of_le hl1 hR.size
              have hysl : (ys.set (j + 1) (M : Int)).length = (b.length + 1) := by rw [List.length_set]; exact hyl
              cases q
              · have HR2 : Hid (Run a b i (j + 1) (ys.set (j + 1) (M : Int))) := Lib.hid (HR.out.next hjl (by
                  have h5 := HQ.out
                  have h6 := HST.out
                  rw [if_neg (by simpa using h5)] at h6
                  have := HM.out
                  omega))
                go_wp2_with fail
                go_roundw
                case rel => exact ⟨j + 1, _, by omega, by go_num, HR2, HY3, hon2⟩
                case measure => simp [intOf]; omega
              · have HZ : Hid (∀ x, Below x2.heap.size x2 x → x.cell? ⟨g2, j + 1, none⟩ = some (iv (M : Int))) := Lib.hid fun x h => by
                  obtain ⟨_, _, v3, e3, _, gl3, hv3, hc3, _⟩ := ownI HY3.out (k := j + 1) (by omega)
                  injection e3 with e3 _ _
                  injection e3 with e3
                  injection e3 with e3 _ _
                  subst e3
                  rw [List.getElem?_set_self (by omega)] at hv3
                  have hv3 := (Option.some.inj hv3).symm
                  subst hv3
                  exact (h.cell (p := ⟨g2, j + 1, none⟩) gl3).trans hc3
                go_upto_region 11 with fail
                refine wp_free_lit (by kernel_rfl) 15 (by kernel_rfl) (by kernel_rfl) (by decide) (fun _ x => Below x2.heap.size x2 x) (fun x x' => Below x.heap.size x x')
                  [fun _ u _ => u = .slice (some ⟨g2, 0, none⟩) (b.length + 1) (b.length + 1),
                   fun _ u _ => u = iv (j : Int),
                   fun _ u _ => u = iv ((j : Int) + 1),
                   fun _ u _ => u = .slice (some ⟨g2, 0, none⟩) (b.length + 1) (b.length + 1),
                   fun _ u _ => u = iv (j : Int),
                   fun _ u _ => u = iv ((j : Int) + 1),
                   fun _ u _ => u = .pointer (some ⟨g2, j + 1, none⟩),
                   fun _ u _ => u = iv (M : Int),
                   fun _ u _ => u = .slice (some ⟨g, 0, none⟩) (b.length + 1) (b.length + 1),
                   fun _ u _ => u = iv (j : Int),
                   fun _ u _ => u = .pointer (some ⟨g, j, none⟩),
                   fun _ u _ => u = iv (X0 : Int),
                   fun _ u _ => u = iv ((X0 : Int) + 1),
                   fun _ u _ => u = iv (max (M : Int) ((X0 : Int) + 1)),
                   fun _ u _ => u = .pointer (some ⟨g2, j + 1, none⟩)]
                  (Below.refl _ x2).drew ?_ ?_
                · simp only [List.take_succ_cons, List.take_zero, HopL]
                  refine ⟨?_, ?_, ?_, ?_, ?_, ?_, ?_, ?_, ?_, ?_, ?_, ?_, ?_, ?_, ?_, trivial⟩
                  · refine ⟨fun _ _ _ _ _ h => h, fun _ _ _ _ h _ => h, fun v nR x hnR hR hk => ?_⟩
                    simp only [List.take_succ_cons, List.take_zero, frameF, Act.put, List.setIfInBounds_toArray, List.set_cons_zero, List.set_cons_succ]
                    exact stepF_val (by first | rfl | simp [Region.wanted, yielded, *]) (by go_simp <;> omega) ⟨rfl, Below.refl _ _, hR⟩
                  · refine ⟨fun _ _ _ _ _ h => h, fun _ _ _ _ h _ => h, fun v nR x hnR hR hk => ?_⟩
                    simp only [List.take_succ_cons, List.take_zero, frameF, Act.put, List.setIfInBounds_toArray, List.set_cons_zero, List.set_cons_succ]
                    exact stepF_val (by first | rfl | simp [Region.wanted, yielded, *]) (by go_simp <;> omega) ⟨rfl, Below.refl _ _, hR⟩
                  · refine ⟨fun _ _ _ _ _ h => h, fun _ _ _ _ h _ => h, fun v nR x hnR hR hk => ?_⟩
                    have h1 : v 1 = iv (j : Int) := hk 1 (by kernel_rfl)
                    simp only [List.take_succ_cons, List.take_zero, frameF, Act.put, List.setIfInBounds_toArray, List.set_cons_zero, List.set_cons_succ]
                    exact stepF_val (by first | rfl | simp [Region.wanted, yielded, *]) (by go_simp <;> omega) ⟨rfl, Below.refl _ _, hR⟩
                  · refine ⟨fun _ _ _ _ _ h => h, fun _ _ _ _ h _ => h, fun v nR x hnR hR hk => ?_⟩
                    simp only [List.take_succ_cons, List.take_zero, frameF, Act.put, List.setIfInBounds_toArray, List.set_cons_zero, List.set_cons_succ]
                    exact stepF_val (by first | rfl | simp [Region.wanted, yielded, *]) (by go_simp <;> omega) ⟨rfl, Below.refl _ _, hR⟩
                  · refine ⟨fun _ _ _ _ _ h => h, fun _ _ _ _ h _ => h, fun v nR x hnR hR hk => ?_⟩
                    simp only [List.take_succ_cons, List.take_zero, frameF, Act.put, List.setIfInBounds_toArray, List.set_cons_zero, List.set_cons_succ]
                    exact stepF_val (by first | rfl | simp [Region.wanted, yielded, *]) (by go_simp <;> omega) ⟨rfl, Below.refl _ _, hR⟩
                  · refine ⟨fun _ _ _ _ _ h => h, fun _ _ _ _ h _ => h, fun v nR x hnR hR hk => ?_⟩
                    have h4 : v 4 = iv (j : Int) := hk 4 (by kernel_rfl)
                    simp only [List.take_succ_cons, List.take_zero, frameF, Act.put, List.setIfInBounds_toArray, List.set_cons_zero, List.set_cons_succ]
                    exact stepF_val (by first | rfl | simp [Region.wanted, yielded, *]) (by go_simp <;> omega) ⟨rfl, Below.refl _ _, hR⟩
                  · refine ⟨fun _ _ _ _ _ h => h, fun _ _ _ _ h _ => h, fun v nR x hnR hR hk => ?_⟩
                    have h3 : v 3 = .slice (some ⟨g2, 0, none⟩) (b.length + 1) (b.length + 1) := hk 3 (by kernel_rfl)
                    have h5 : v 5 = iv ((j : Int) + 1) := hk 5 (by kernel_rfl)
                    simp only [List.take_succ_cons, List.take_zero, frameF, Act.put, List.setIfInBounds_toArray, List.set_cons_zero, List.set_cons_succ]
                    exact stepF_val (by first | rfl | simp [Region.wanted, yielded, *]) (by go_simp <;> omega) ⟨rfl, Below.refl _ _, hR⟩
                  · refine ⟨fun _ _ _ _ _ h => h, fun _ _ _ _ h _ => h, fun v nR x hnR hR hk => ?_⟩
                    have h6 : v 6 = .pointer (some ⟨g2, j + 1, none⟩) := hk 6 (by kernel_rfl)
                    have g1 := HZ.out x hR
                    simp only [List.take_succ_cons, List.take_zero, frameF, Act.put, List.setIfInBounds_toArray, List.set_cons_zero, List.set_cons_succ]
                    exact stepF_val (by first | rfl | simp [Region.wanted, yielded, *]) (by go_simp <;> omega) ⟨rfl, Below.refl _ _, hR⟩
                  · refine ⟨fun _ _ _ _ _ h => h, fun _ _ _ _ h _ => h, fun v nR x hnR hR hk => ?_⟩
                    simp only [List.take_succ_cons, List.take_zero, frameF, Act.put, List.setIfInBounds_toArray, List.set_cons_zero, List.set_cons_succ]
                    exact stepF_val (by first | rfl | simp [Region.wanted, yielded, *]) (by go_simp <;> omega) ⟨rfl, Below.refl _ _, hR⟩
                  · refine ⟨fun _ _ _ _ _ h => h, fun _ _ _ _ h _ => h, fun v nR x hnR hR hk => ?_⟩
                    simp only [List.take_succ_cons, List.take_zero, frameF, Act.put, List.setIfInBounds_toArray, List.set_cons_zero, List.set_cons_succ]
                    exact stepF_val (by first | rfl | simp [Region.wanted, yielded, *]) (by go_simp <;> omega) ⟨rfl, Below.refl _ _, hR⟩
                  · refine ⟨fun _ _ _ _ _ h => h, fun _ _ _ _ h _ => h, fun v nR x hnR hR hk => ?_⟩
                    have h8 : v 8 = .slice (some ⟨g, 0, none⟩) (b.length + 1) (b.length + 1) := hk 8 (by kernel_rfl)
                    have h9 : v 9 = iv (j : Int) := hk 9 (by kernel_rfl)
                    simp only [List.take_succ_cons, List.take_zero, frameF, Act.put, List.setIfInBounds_toArray, List.set_cons_zero, List.set_cons_succ]
                    exact stepF_val (by first | rfl | simp [Region.wanted, yielded, *]) (by go_simp <;> omega) ⟨rfl, Below.refl _ _, hR⟩
                  · refine ⟨fun _ _ _ _ _ h => h, fun _ _ _ _ h _ => h, fun v nR x hnR hR hk => ?_⟩
                    have h10 : v 10 = .pointer (some ⟨g, j, none⟩) := hk 10 (by kernel_rfl)
                    have g1 := HX3.out x hR
                    simp only [List.take_succ_cons, List.take_zero, frameF, Act.put, List.setIfInBounds_toArray, List.set_cons_zero, List.set_cons_succ]
                    exact stepF_val (by first | rfl | simp [Region.wanted, yielded, *]) (by go_simp <;> omega) ⟨rfl, Below.refl _ _, hR⟩
                  · refine ⟨fun _ _ _ _ _ h => h, fun _ _ _ _ h _ => h, fun v nR x hnR hR hk => ?_⟩
                    have h11 : v 11 = iv (X0 : Int) := hk 11 (by kernel_rfl)
                    simp only [List.take_succ_cons, List.take_zero, frameF, Act.put, List.setIfInBounds_toArray, List.set_cons_zero, List.set_cons_succ]
                    exact stepF_val (by first | rfl | simp [Region.wanted, yielded, *]) (by go_simp <;> omega) ⟨rfl, Below.refl _ _, hR⟩
                  · refine ⟨fun _ _ _ _ _ h => h, fun _ _ _ _ h _ => h, fun v nR x hnR hR hk => ?_⟩
                    have h7 : v 7 = iv (M : Int) := hk 7 (by kernel_rfl)
                    have h12 : v 12 = iv ((X0 : Int) + 1) := hk 12 (by kernel_rfl)
                    simp only [List.take_succ_cons, List.take_zero, frameF, Act.put, List.setIfInBounds_toArray, List.set_cons_zero, List.set_cons_succ]
                    exact stepF_val (by first | rfl | simp [Region.wanted, yielded, *]) (by go_simp <;> omega) ⟨rfl, Below.refl _ _, hR⟩
                  · refine ⟨fun _ _ _ _ _ h => h, fun _ _ _ _ h _ => h, fun v nR x hnR hR hk => ?_⟩
                    have h0 : v 0 = .slice (some ⟨g2, 0, none⟩) (b.length + 1) (b.length + 1) := hk 0 (by kernel_rfl)
                    have h2 : v 2 = iv ((j : Int) + 1) := hk 2 (by kernel_rfl)
                    simp only [List.take_succ_cons, List.take_zero, frameF, Act.put, List.setIfInBounds_toArray, List.set_cons_zero, List.set_cons_succ]
                    exact stepF_val (by first | rfl | simp [Region.wanted, yielded, *]) (by go_simp <;> omega) ⟨rfl, Below.refl _ _, hR⟩
                · intro v nR x3 hnR hR hall
                  have h13 : v 13 = iv (max (M : Int) ((X0 : Int) + 1)) := hall 13 (by decide)
                  have h14 : v 14 = .pointer (some ⟨g2, j + 1, none⟩) := hall 14 (by decide)
                  clear hall hnR
                  simp only [List.drop_succ_cons, List.drop_zero, List.take_succ_cons, List.take_zero, frameF, Act.put, List.setIfInBounds_toArray, List.set_cons_zero, List.set_cons_succ, Nat.zero_add, Nat.reduceAdd, h13, h14]
                  have hY4 := HY3.out.below hR
                  have hY5 := setI hY4 (k := j + 1) (by omega) (max (M : Int) ((X0 : Int) + 1))
                  rw [List.set_set] at hY5
                  have HY5 := Lib.hid hY5
                  have hf3 : ∀ o, x3.frozen? ⟨g2, o, none⟩ = false := by
                    obtain ⟨_, _, _, e3, _, _, _, _, hf3⟩ := ownI hY4 (k := j) (by omega)
                    injection e3 with e3 _ _
                    injection e3 with e3
                    injection e3 with e3 _ _
                    subst e3
                    exact hf3
                  have hc3 := HZ.out x3 hR
                  have hl3 : g2 < x3.heap.size := Nat.lt_of_lt_of_le hl2 hR.size
                  have hon3 : Only g2 w4 (x3.setCell ⟨g2, j + 1, none⟩ (iv (max (M : Int) ((X0 : Int) + 1)))) := (hon2.next hR (by omega)).trans (Only.set_ g2 (j + 1) _ _)
                  have HR2 : Hid (Run a b i (j + 1) (ys.set (j + 1) (max (M : Int) ((X0 : Int) + 1)))) := Lib.hid (HR.out.next hjl (by
                    have h5 := HQ.out
                    have h6 := HST.out
                    rw [if_pos (by simpa using h5)] at h6
                    have := HM.out
                    omega))
                  clear hY4 hY5
                  go_wp2_with fail
                  go_roundw
                  case rel => exact ⟨j + 1, _, by omega, by go_num, HR2, HY5, hon3⟩
                  case measure => simp [intOf]; omega
        · have hjj : ¬ (j : Int) < (b.length : Int) := by omega
          have hje : j = b.length := by omega
          have hyr : ys = File.preRow a b (i + 1) := by
            have := HR.out
            rw [hje] at this
            exact this.full
          have hY := HY.out
          rw [hyr] at hY
          have hg2s := hb04.size
          have HY2 := Lib.hid (hY.base (B' := w.heap.size) (by omega))
          clear hY hyr HR HY hje
          go_wp2_with fail
          go_roundw
          case rel => exact ⟨i + 1, g2, by omega, by go_num, rfl, HY2, hbx⟩
          case measure => simp [intOf]; omega
    · have hii : ¬ (i : Int) < (a.length : Int) := by omega
      have hie : i = a.length := by omega
      obtain ⟨_, _, v0, e0, _, gl0, hv0, hc0, _⟩ := ownI HO.out (k := b.length) (by rw [File.preRow_len]; omega)
      injection e0 with e0 _ _
      injection e0 with e0
      injection e0 with e0 _ _
      subst e0
      rw [File.preRow_at a b i (by omega), hie, File.pre_full] at hv0
      have hv0 := (Option.some.inj hv0).symm
      subst hv0
      clear hie HO
      go_wp2_with fail
      go_ret
      exact ⟨rfl, hbr⟩
end Fl
end Go.Proofs.YtekkhnjepcebkaaDoor
