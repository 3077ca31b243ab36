/- The reference's searches of pieces that are better exchanged, or moved. Conditions: lengths are below a great bound; numbers are as they are let. -/
import Derived.Test.YtkailkfiakagfaaGreatRefG
set_option linter.unusedVariables false
set_option linter.unusedSimpArgs false
namespace Go.Proofs.YtkailkfiakagfaaGreat
open Go.RowKit
set_option maxRecDepth 100000
namespace Price
/-- Two numbers that were found, and whether they were. -/
def mv2 : Option (Nat × Nat) → Int × Int × Bool
  | some (i, k) => ((i : Int), (k : Int), true)
  | none => (0, 0, false)
theorem exch_weeks {plan : List Int} (h : ∀ x ∈ plan, -1 ≤ x ∧ x ≤ 100) {i k : Nat} (hi : i < plan.length) (hk : k < plan.length) : ∀ x ∈ exch plan i k, -1 ≤ x ∧ x ≤ 100 := fun x hx => by
  unfold exch at hx
  rcases List.mem_or_eq_of_mem_set hx with hx | rfl
  · rcases List.mem_or_eq_of_mem_set hx with hx | rfl
    · exact h x hx
    · exact h _ (getD_mem hk)
  · exact h _ (getD_mem hi)
end Price
set_option maxHeartbeats 4000000 in
theorem exchange2_spec (fall : Int) (Ab : Option Addr) (nb cb : Nat) (Ap : Option Addr) (prices : List Int) (cp : Nat) (A : Option Addr) (plan : List Int) (c : Nat) (w : World) (hsp : Sl intE w Ap prices) (hs : Sl intE w A plan) (hl : plan.length = prices.length) (hm : plan.length ≤ 1000)
    (h1 : 0 ≤ fall) (h2 : fall ≤ 30) (hp : ∀ p ∈ prices, 0 ≤ p ∧ p ≤ 500) (hw : ∀ x ∈ plan, -1 ≤ x ∧ x ≤ 100) (o : Option (Nat × Nat)) (ho : o = Price.searchIK (Price.better2 fall prices plan) plan.length 0 plan.length) :
    Calls Tryz.prog 49 #[saleV fall Ab nb cb, .slice Ap prices.length cp, .slice A plan.length c] w fun e w' => e = .returned (.tuple #[iv (Price.mv2 o).1, iv (Price.mv2 o).2.1, .bool (Price.mv2 o).2.2]) ∧ Below w.heap.size w w' := by
  have HE : Hid (∀ (W : World) (A' : Option Addr) (pl : List Int) (n c' : Nat), n = pl.length → pl.length = plan.length → (∀ x ∈ pl, -1 ≤ x ∧ x ≤ 100) → Below w.heap.size w W → Sl intE W A' pl → Calls Tryz.prog 48 #[saleV fall Ab nb cb, .slice Ap prices.length cp, .slice A' n c'] W fun e w' => e = .returned (iv (Price.earns fall prices pl)) ∧ Below W.heap.size W w') := fun W A' pl n c' hn hpl hwk hb hsl => by
    subst hn
    exact earns2_spec fall Ab nb cb Ap prices cp A' pl c' W (hsp.below hb) hsl (by omega) (by omega) h1 h2 hp hwk
  have HO := Lib.hid ho
  have HW := Lib.hid hw
  have hb1 : Below w.heap.size w (w.alloc (.cells #[iv fall, .slice Ab nb cb] 87)) := (Below.refl _ _).alloc (Nat.le_refl _) _
  have hB1 : Blk (w.alloc (.cells #[iv fall, .slice Ab nb cb] 87)) w.heap.size 87 #[iv fall, .slice Ab nb cb] := Blk.new _ _ _
  have hs1 := hs.below hb1
  clear hl hp hw hsp ho
  go_enter Tryz.func49, Tryz.ntmps49
  go_wp2_with fail
  go_loopw [9, 10, 11] (fun a _ _ wr => ∃ i : Nat, i ≤ plan.length ∧ a = iv i ∧ Below (w.alloc (.cells #[iv fall, .slice Ab nb cb] 87)).heap.size (w.alloc (.cells #[iv fall, .slice Ab nb cb] 87)) wr ∧
    Hid (Price.searchIK (Price.better2 fall prices plan) plan.length i (plan.length - i) = o)) (fun a _ _ _ => plan.length - (intOf a).toNat)
  case atStart => exact ⟨0, by omega, rfl, Below.refl _ _, HO.out.symm⟩
  case round =>
    obtain ⟨i, hi, rfl, hbw, hf⟩ := hrel
    by_cases hlt : i < plan.length
    · have hf' := hf.out
      rw [show plan.length - i = (plan.length - (i + 1)) + 1 from by omega] at hf'
      simp only [Price.searchIK] at hf'
      have HF := Lib.hid hf'
      clear hf hf'
      have hil : (i : Int) < (plan.length : Int) := by omega
      go_wp2
      obtain ⟨wo, rfl⟩ : ∃ wo : World, wo = wr := ⟨_, rfl⟩
      go_loopw [10, 11] (fun b _ wr => ∃ k : Nat, i + 1 ≤ k ∧ k ≤ plan.length ∧ b = iv k ∧ Below wo.heap.size wo wr ∧ Hid (Price.searchK (Price.better2 fall prices plan i) k (plan.length - k) = Price.searchK (Price.better2 fall prices plan i) (i + 1) (plan.length - (i + 1)))) (fun b _ _ => plan.length - (intOf b).toNat)
      case atStart => exact ⟨i + 1, by omega, by omega, by go_num, Below.refl _ _, rfl⟩
      case round =>
        obtain ⟨k, hk1, hk, rfl, hbi, hg⟩ := hrel
        by_cases hkt : k < plan.length
        · have hg' := hg.out
          rw [show plan.length - k = (plan.length - (k + 1)) + 1 from by omega] at hg'
          simp only [Price.searchK] at hg'
          have HG := Lib.hid hg'
          have hb1r := hbw.next hbi (Nat.le_refl _)
          have hsr := hs1.below hb1r
          obtain ⟨b, off, pi, rfl, hb, hpi, hci⟩ := hsr.atI hlt
          obtain ⟨b', off', pk, hA, hb', hpk, hck⟩ := hsr.atI hkt
          injection hA with hA
          injection hA with e1 e2
          subst e1 e2
          have hgi : plan.getD i 0 = pi := by rw [List.getD_eq_getElem?_getD, hpi]; rfl
          have hgk : plan.getD k 0 = pk := by rw [List.getD_eq_getElem?_getD, hpk]; rfl
          have hex : (plan.set i pk).set k pi = Price.exch plan i k := by rw [← hgi, ← hgk]; rfl
          have HEX := Lib.hid hex
          have hkl : (k : Int) < (plan.length : Int) := by omega
          have hne : plan ≠ [] := fun e => by rw [e] at hlt; simp at hlt
          have hwx := Price.exch_weeks HW.out hlt hkt
          have hxl : (Price.exch plan i k).length = plan.length := by simp [Price.exch]
          have HXL := Lib.hid hxl
          have HWX := Lib.hid hwx
          have hkik : ¬ i = k := by omega
          have hikk : ¬ k = i := by omega
          clear hg hg' hgi hgk hex hpi hpk hwx hxl
          go_wp2_with (at_builtin; refine wpAppS intE tyInts rfl _ _ rfl (Own.empty (B := wr.heap.size) (Nat.le_refl _)) (hsr.alloc _) rfl rfl (by simp) (by unfold big; simp; omega) ?_; intro v2 w2 hown2 hb2 hk2; rw [List.nil_append] at hown2; obtain ⟨g2, c2, rfl⟩ := hown2.some_ hne; obtain ⟨z1, hBg, hgl, _, hsa⟩ := hown2.store i hlt pk; obtain ⟨z2, _, _, _, _⟩ := hown2.store k hkt pi; obtain ⟨_, _, _, _, hsb⟩ := hsa.store k (by simpa using hkt) pi; rw [HEX.out] at hsb; have HSB := Lib.hid hsb; have hb02 : Below wr.heap.size wr w2 := ((Below.refl _ _).alloc (Nat.le_refl _) _).trans hb2; have y1 := (hb02.cell (p := ⟨b, off + i, none⟩) hb).trans hci; have y2 := (hb02.cell (p := ⟨b, off + k, none⟩) hb).trans hck; have HB3 := Lib.hid (((hb02.setCell (p := ⟨g2, i, none⟩) hBg (iv pk)).setCell (p := ⟨g2, k, none⟩) hBg (iv pi)).drew); clear hown2 hb2 hk2 hsa hsb hb02)
          go_region
          have HO3 : Hid (Own intE 3 wr.heap.size (((w2.setCell ⟨g2, i, none⟩ (iv pk)).setCell ⟨g2, k, none⟩ (iv pi)).drew) (.slice (some ⟨g2, 0, none⟩) plan.length c2) (Price.exch plan i k)) := HSB.out.keep (Nat.le_refl _) fun _ _ => rfl
          generalize ((w2.setCell ⟨g2, i, none⟩ (iv pk)).setCell ⟨g2, k, none⟩ (iv pi)).drew = w3 at *
          have hb03 := (hb1.next hb1r (Nat.le_refl _)).next HB3.out (Nat.le_refl _)
          have hs3 := hsr.below HB3.out
          have HE1 : Hid (∀ a : World, Below w3.heap.size w3 a → Calls Tryz.prog 48 #[saleV fall Ab nb cb, .slice Ap prices.length cp, .slice (some ⟨g2, 0, none⟩) plan.length c2] a fun e w' => e = .returned (iv (Price.earns fall prices (Price.exch plan i k))) ∧ Below a.heap.size a w') := fun a h => HE.out a _ _ _ c2 HXL.out.symm HXL.out HWX.out (hb03.next h (Nat.le_refl _)) (HO3.out.sl.below h)
          have HE2 : Hid (∀ a : World, Below w3.heap.size w3 a → Calls Tryz.prog 48 #[saleV fall Ab nb cb, .slice Ap prices.length cp, .slice (some ⟨b, off, none⟩) plan.length c] a fun e w' => e = .returned (iv (Price.earns fall prices plan)) ∧ Below a.heap.size a w') := fun a h => HE.out a _ _ _ c rfl rfl HW.out (hb03.next h (Nat.le_refl _)) (hs3.below h)
          have hBx := hB1.under (hb1r.next HB3.out (Nat.le_refl _))
          have HFF : Hid (∀ a : World, Below w3.heap.size w3 a → a.cell? ⟨w.heap.size, 0, none⟩ = some (iv fall) ∧ a.cell? ⟨w.heap.size, 1, none⟩ = some (.slice Ab nb cb)) := fun a h => ⟨(hBx.under h).cell 0, (hBx.under h).cell 1⟩
          have HBT : Hid (Price.better2 fall prices plan i k = decide (Price.earns fall prices plan < Price.earns fall prices (Price.exch plan i k))) := rfl
          obtain ⟨e0, he0⟩ : ∃ e0, e0 = Price.earns fall prices plan := ⟨_, rfl⟩
          obtain ⟨e1, he1⟩ : ∃ e1, e1 = Price.earns fall prices (Price.exch plan i k) := ⟨_, rfl⟩
          rw [← he0, ← he1] at HBT
          rw [← he1] at HE1
          rw [← he0] at HE2
          rw [HBT.out] at HG
          clear he0 he1 HBT hBx z1 z2 y1 y2 hci hck
          by_cases hcmp : e0 < e1
          · rw [decide_eq_true hcmp, if_pos rfl] at HG
            have HQ : Hid (o = some (i, k)) := by
              have h := HF.out
              rw [← HG.out] at h
              exact h.symm
            go_wp2
            refine wp_havoc_lit (by kernel_rfl) (by kernel_rfl) ?_
            repeat (first
              | (refine hv_skip (by rfl) ?_; simp only [Act.put, List.setIfInBounds_toArray, List.set_cons_zero, List.set_cons_succ])
              | (apply hv_val (by rfl); (intro w hw; have F := HFF.out w hw; go_simp; exact rfl); simp only [Act.put, List.setIfInBounds_toArray, List.set_cons_zero, List.set_cons_succ])
              | (apply hv_call (by rfl); (intro w hw; have F := HFF.out w hw; go_simp; exact ⟨rfl, rfl⟩); (intro w hw; have F := HFF.out w hw; with_reducible exact HE1.out w hw); simp only [Act.put, List.setIfInBounds_toArray, List.set_cons_zero, List.set_cons_succ])
              | (apply hv_call (by rfl); (intro w hw; have F := HFF.out w hw; go_simp; exact ⟨rfl, rfl⟩); (intro w hw; have F := HFF.out w hw; with_reducible exact HE2.out w hw); simp only [Act.put, List.setIfInBounds_toArray, List.set_cons_zero, List.set_cons_succ]))
            refine hv_nil ?_
            rintro w4 hb4
            go_wp2
            go_ret3
            exact ⟨by rw [HQ.out]; rfl, hb03.next hb4 (Nat.le_refl _)⟩
          · rw [decide_eq_false hcmp] at HG
            go_wp2
            refine wp_havoc_lit (by kernel_rfl) (by kernel_rfl) ?_
            repeat (first
              | (refine hv_skip (by rfl) ?_; simp only [Act.put, List.setIfInBounds_toArray, List.set_cons_zero, List.set_cons_succ])
              | (apply hv_val (by rfl); (intro w hw; have F := HFF.out w hw; go_simp; exact rfl); simp only [Act.put, List.setIfInBounds_toArray, List.set_cons_zero, List.set_cons_succ])
              | (apply hv_call (by rfl); (intro w hw; have F := HFF.out w hw; go_simp; exact ⟨rfl, rfl⟩); (intro w hw; have F := HFF.out w hw; with_reducible exact HE1.out w hw); simp only [Act.put, List.setIfInBounds_toArray, List.set_cons_zero, List.set_cons_succ])
              | (apply hv_call (by rfl); (intro w hw; have F := HFF.out w hw; go_simp; exact ⟨rfl, rfl⟩); (intro w hw; have F := HFF.out w hw; with_reducible exact HE2.out w hw); simp only [Act.put, List.setIfInBounds_toArray, List.set_cons_zero, List.set_cons_succ]))
            refine hv_nil ?_
            rintro w4 hb4
            go_wp2
            go_roundw
            case rel => exact ⟨k + 1, by omega, by omega, by go_num, (hbi.next HB3.out (Nat.le_refl _)).next hb4 (Nat.le_refl _), by (have h := HG.out; show _ = _; simpa using h)⟩
            case measure => simp [intOf]; omega
        · have hg' := hg.out
          rw [show plan.length - k = 0 from by omega] at hg'
          simp only [Price.searchK] at hg'
          have hf' := HF.out
          rw [← hg'] at hf'
          have HF' := Lib.hid hf'
          clear hg hg' hf'
          go_wp2
          go_roundw
          case rel => exact ⟨i + 1, by omega, by go_num, hbw.next hbi (Nat.le_refl _), HF'.out⟩
          case measure => simp [intOf]; omega
    · have hf' := hf.out
      rw [show plan.length - i = 0 from by omega] at hf'
      simp only [Price.searchIK] at hf'
      have HF := Lib.hid hf'
      clear hf hf'
      go_wp2
      go_ret3
      exact ⟨by rw [← HF.out]; rfl, hb1.next hbw (Nat.le_refl _)⟩
set_option maxHeartbeats 4000000 in
theorem move2_spec (fall : Int) (Ab : Option Addr) (bought : List Int) (cb : Nat) (Ap : Option Addr) (prices : List Int) (cp : Nat) (A : Option Addr) (plan : List Int) (c : Nat) (w : World) (hsb : Sl intE w Ab bought) (hmb : bought.length ≤ 100) (hbo : ∀ m ∈ bought, 0 ≤ m ∧ m ≤ 9) (hsp : Sl intE w Ap prices) (hs : Sl intE w A plan) (hl : plan.length = prices.length) (hm : plan.length ≤ 1000)
    (h1 : 0 ≤ fall) (h2 : fall ≤ 30) (hp : ∀ p ∈ prices, 0 ≤ p ∧ p ≤ 500) (hw : ∀ x ∈ plan, -1 ≤ x ∧ x < bought.length) (o : Option (Nat × Nat)) (ho : o = Price.searchIW (Price.betterMove fall bought prices plan) bought.length 0 plan.length) :
    Calls Tryz.prog 50 #[saleV fall Ab bought.length cb, .slice Ap prices.length cp, .slice A plan.length c] w fun e w' => e = .returned (.tuple #[iv (Price.mv2 o).1, iv (Price.mv2 o).2.1, .bool (Price.mv2 o).2.2]) ∧ Below w.heap.size w w' := by
  have HE : Hid (∀ (W : World) (A' : Option Addr) (pl : List Int) (n c' : Nat), n = pl.length → pl.length = plan.length → (∀ x ∈ pl, -1 ≤ x ∧ x < bought.length) → Below w.heap.size w W → Sl intE W A' pl → Calls Tryz.prog 48 #[saleV fall Ab bought.length cb, .slice Ap prices.length cp, .slice A' n c'] W fun e w' => e = .returned (iv (Price.earns fall prices pl)) ∧ Below W.heap.size W w') := fun W A' pl n c' hn hpl hwk hb hsl => by
    subst hn
    exact earns2_spec fall Ab bought.length cb Ap prices cp A' pl c' W (hsp.below hb) hsl (by omega) (by omega) h1 h2 hp fun x hx => by have := hwk x hx; omega
  have HR : Hid (∀ (W : World) (A' : Option Addr) (pl : List Int) (n c' : Nat), n = pl.length → pl.length = plan.length → (∀ x ∈ pl, -1 ≤ x ∧ x < bought.length) → Below w.heap.size w W → Sl intE W A' pl → Calls Tryz.prog 79 #[saleV fall Ab bought.length cb, .slice A' n c'] W fun e w' => e = .returned (.bool (Price.room bought pl)) ∧ Below W.heap.size W w') := fun W A' pl n c' hn hpl hwk hb hsl => by
    subst hn
    exact room2_spec fall Ab bought cb A' pl c' W hmb (by unfold big; omega) (hsb.below hb) hsl hbo hwk
  have HO := Lib.hid ho
  have HW := Lib.hid hw
  have hb1 : Below w.heap.size w (w.alloc (.cells #[iv fall, .slice Ab bought.length cb] 87)) := (Below.refl _ _).alloc (Nat.le_refl _) _
  have hB1 : Blk (w.alloc (.cells #[iv fall, .slice Ab bought.length cb] 87)) w.heap.size 87 #[iv fall, .slice Ab bought.length cb] := Blk.new _ _ _
  have hs1 := hs.below hb1
  clear hl hp hw hsp ho hbo hsb
  go_enter Tryz.func50, Tryz.ntmps50
  go_wp2_with fail
  go_loopw [9, 10, 11] (fun a _ _ wr => ∃ i : Nat, i ≤ plan.length ∧ a = iv i ∧ Below (w.alloc (.cells #[iv fall, .slice Ab bought.length cb] 87)).heap.size (w.alloc (.cells #[iv fall, .slice Ab bought.length cb] 87)) wr ∧
    Hid (Price.searchIW (Price.betterMove fall bought prices plan) bought.length i (plan.length - i) = o)) (fun a _ _ _ => plan.length - (intOf a).toNat)
  case atStart => exact ⟨0, by omega, rfl, Below.refl _ _, HO.out.symm⟩
  case round =>
    obtain ⟨i, hi, rfl, hbw, hf⟩ := hrel
    by_cases hlt : i < plan.length
    · have hf' := hf.out
      rw [show plan.length - i = (plan.length - (i + 1)) + 1 from by omega] at hf'
      simp only [Price.searchIW] at hf'
      have HF := Lib.hid hf'
      clear hf hf'
      have hil : (i : Int) < (plan.length : Int) := by omega
      go_wp2
      obtain ⟨wo, rfl⟩ : ∃ wo : World, wo = wr := ⟨_, rfl⟩
      go_loopw [10, 11] (fun b _ wr => ∃ k : Nat, k ≤ bought.length ∧ b = iv k ∧ Below wo.heap.size wo wr ∧ Hid (Price.searchW (Price.betterMove fall bought prices plan i) k (bought.length - k) = Price.searchW (Price.betterMove fall bought prices plan i) 0 bought.length)) (fun b _ _ => bought.length - (intOf b).toNat)
      case atStart => exact ⟨0, by omega, rfl, Below.refl _ _, rfl⟩
      case round =>
        obtain ⟨k, hk, rfl, hbi, hg⟩ := hrel
        have hb1r := hbw.next hbi (Nat.le_refl _)
        have hBr := hB1.under hb1r
        have f1 := hBr.cell 1
        have f2 := hBr.lt
        by_cases hkt : k < bought.length
        · have hg' := hg.out
          rw [show bought.length - k = (bought.length - (k + 1)) + 1 from by omega] at hg'
          simp only [Price.searchW] at hg'
          have HG := Lib.hid hg'
          have hsr := hs1.below hb1r
          have hkl : (k : Int) < (bought.length : Int) := by omega
          have hne : plan ≠ [] := fun e => by rw [e] at hlt; simp at hlt
          have hwx : ∀ x ∈ plan.set i (k : Int), -1 ≤ x ∧ x < bought.length := fun x hx => by
            rcases List.mem_or_eq_of_mem_set hx with hx | rfl
            · exact HW.out x hx
            · omega
          have hxl : (plan.set i (k : Int)).length = plan.length := by simp
          have HXL := Lib.hid hxl
          have HWX := Lib.hid hwx
          clear hg hg' hwx hxl
          go_wp2_with (at_builtin; refine wpAppS intE tyInts rfl _ _ rfl (Own.empty (B := wr.heap.size) (Nat.le_refl _)) (hsr.alloc _) rfl rfl (by simp) (by unfold big; simp; omega) ?_; intro v2 w2 hown2 hb2 hk2; rw [List.nil_append] at hown2; obtain ⟨g2, c2, rfl⟩ := hown2.some_ hne; obtain ⟨z1, hBg, hgl, _, hsa⟩ := hown2.store i hlt (k : Int); have HO3 := Lib.hid hsa; have hb02 : Below wr.heap.size wr w2 := ((Below.refl _ _).alloc (Nat.le_refl _) _).trans hb2; have HB3 := Lib.hid (hb02.setCell (p := ⟨g2, i, none⟩) hBg (iv k)); clear hown2 hb2 hk2 hsa hb02)
          generalize w2.setCell ⟨g2, i, none⟩ (iv k) = w3 at *
          have hb03 := (hb1.next hb1r (Nat.le_refl _)).next HB3.out (Nat.le_refl _)
          have hs3 := hsr.below HB3.out
          have HE1 : Hid (∀ a : World, Below w3.heap.size w3 a → Calls Tryz.prog 48 #[saleV fall Ab bought.length cb, .slice Ap prices.length cp, .slice (some ⟨g2, 0, none⟩) plan.length c2] a fun e w' => e = .returned (iv (Price.earns fall prices (plan.set i (k : Int)))) ∧ Below a.heap.size a w') := fun a h => HE.out a _ _ _ c2 HXL.out.symm HXL.out HWX.out (hb03.next h (Nat.le_refl _)) (HO3.out.sl.below h)
          have HR1 : Hid (∀ a : World, Below w3.heap.size w3 a → Calls Tryz.prog 79 #[saleV fall Ab bought.length cb, .slice (some ⟨g2, 0, none⟩) plan.length c2] a fun e w' => e = .returned (.bool (Price.room bought (plan.set i (k : Int)))) ∧ Below a.heap.size a w') := fun a h => HR.out a _ _ _ c2 HXL.out.symm HXL.out HWX.out (hb03.next h (Nat.le_refl _)) (HO3.out.sl.below h)
          have HE2 : Hid (∀ a : World, Below w3.heap.size w3 a → Calls Tryz.prog 48 #[saleV fall Ab bought.length cb, .slice Ap prices.length cp, .slice A plan.length c] a fun e w' => e = .returned (iv (Price.earns fall prices plan)) ∧ Below a.heap.size a w') := fun a h => HE.out a _ _ _ c rfl rfl HW.out (hb03.next h (Nat.le_refl _)) (hs3.below h)
          have hBx := hB1.under (hb1r.next HB3.out (Nat.le_refl _))
          have HFF : Hid (∀ a : World, Below w3.heap.size w3 a → a.cell? ⟨w.heap.size, 0, none⟩ = some (iv fall) ∧ a.cell? ⟨w.heap.size, 1, none⟩ = some (.slice Ab bought.length cb)) := fun a h => ⟨(hBx.under h).cell 0, (hBx.under h).cell 1⟩
          have HBT : Hid (Price.betterMove fall bought prices plan i k = (Price.room bought (plan.set i (k : Int)) && decide (Price.earns fall prices plan < Price.earns fall prices (plan.set i (k : Int))))) := rfl
          obtain ⟨e0, he0⟩ : ∃ e0, e0 = Price.earns fall prices plan := ⟨_, rfl⟩
          obtain ⟨e1, he1⟩ : ∃ e1, e1 = Price.earns fall prices (plan.set i (k : Int)) := ⟨_, rfl⟩
          obtain ⟨r, hr⟩ : ∃ r, r = Price.room bought (plan.set i (k : Int)) := ⟨_, rfl⟩
          rw [← he0, ← he1, ← hr] at HBT
          rw [← he1] at HE1
          rw [← he0] at HE2
          rw [← hr] at HR1
          rw [HBT.out] at HG
          clear he0 he1 hr HBT hBx z1 f1 f2 hBr
          cases r with
          | false =>
            rw [Bool.false_and] at HG
            go_wp2
            refine wp_havoc_lit (by kernel_rfl) (by kernel_rfl) ?_
            repeat (first
              | (refine hv_skip (by rfl) ?_; simp only [Act.put, List.setIfInBounds_toArray, List.set_cons_zero, List.set_cons_succ])
              | (apply hv_val (by rfl); (intro w hw; have F := HFF.out w hw; go_simp; exact rfl); simp only [Act.put, List.setIfInBounds_toArray, List.set_cons_zero, List.set_cons_succ])
              | (apply hv_call (by rfl); (intro w hw; have F := HFF.out w hw; go_simp; exact ⟨rfl, rfl⟩); (intro w hw; have F := HFF.out w hw; with_reducible exact HR1.out w hw); simp only [Act.put, List.setIfInBounds_toArray, List.set_cons_zero, List.set_cons_succ]))
            refine hv_nil ?_
            rintro w4 hb4
            go_wp2
            go_roundw
            case rel => exact ⟨k + 1, by omega, by go_num, (hbi.next HB3.out (Nat.le_refl _)).next hb4 (Nat.le_refl _), by (have h := HG.out; show _ = _; simpa using h)⟩
            case measure => simp [intOf]; omega
          | true =>
            rw [Bool.true_and] at HG
            by_cases hcmp : e0 < e1
            · rw [decide_eq_true hcmp, if_pos rfl] at HG
              have HQ : Hid (o = some (i, k)) := by
                have h := HF.out
                rw [← HG.out] at h
                exact h.symm
              go_wp2
              refine wp_havoc_lit (by kernel_rfl) (by kernel_rfl) ?_
              repeat (first
                | (refine hv_skip (by rfl) ?_; simp only [Act.put, List.setIfInBounds_toArray, List.set_cons_zero, List.set_cons_succ])
                | (apply hv_val (by rfl); (intro w hw; have F := HFF.out w hw; go_simp; exact rfl); simp only [Act.put, List.setIfInBounds_toArray, List.set_cons_zero, List.set_cons_succ])
                | (apply hv_call (by rfl); (intro w hw; have F := HFF.out w hw; go_simp; exact ⟨rfl, rfl⟩); (intro w hw; have F := HFF.out w hw; with_reducible exact HR1.out w hw); simp only [Act.put, List.setIfInBounds_toArray, List.set_cons_zero, List.set_cons_succ])
                | (apply hv_call (by rfl); (intro w hw; have F := HFF.out w hw; go_simp; exact ⟨rfl, rfl⟩); (intro w hw; have F := HFF.out w hw; with_reducible exact HE1.out w hw); simp only [Act.put, List.setIfInBounds_toArray, List.set_cons_zero, List.set_cons_succ])
                | (apply hv_call (by rfl); (intro w hw; have F := HFF.out w hw; go_simp; exact ⟨rfl, rfl⟩); (intro w hw; have F := HFF.out w hw; with_reducible exact HE2.out w hw); simp only [Act.put, List.setIfInBounds_toArray, List.set_cons_zero, List.set_cons_succ]))
              refine hv_nil ?_
              rintro w4 hb4
              go_wp2
              go_ret3
              exact ⟨by rw [HQ.out]; rfl, hb03.next hb4 (Nat.le_refl _)⟩
            · rw [decide_eq_false hcmp] at HG
              go_wp2
              refine wp_havoc_lit (by kernel_rfl) (by kernel_rfl) ?_
              repeat (first
                | (refine hv_skip (by rfl) ?_; simp only [Act.put, List.setIfInBounds_toArray, List.set_cons_zero, List.set_cons_succ])
                | (apply hv_val (by rfl); (intro w hw; have F := HFF.out w hw; go_simp; exact rfl); simp only [Act.put, List.setIfInBounds_toArray, List.set_cons_zero, List.set_cons_succ])
                | (apply hv_call (by rfl); (intro w hw; have F := HFF.out w hw; go_simp; exact ⟨rfl, rfl⟩); (intro w hw; have F := HFF.out w hw; with_reducible exact HR1.out w hw); simp only [Act.put, List.setIfInBounds_toArray, List.set_cons_zero, List.set_cons_succ])
                | (apply hv_call (by rfl); (intro w hw; have F := HFF.out w hw; go_simp; exact ⟨rfl, rfl⟩); (intro w hw; have F := HFF.out w hw; with_reducible exact HE1.out w hw); simp only [Act.put, List.setIfInBounds_toArray, List.set_cons_zero, List.set_cons_succ])
                | (apply hv_call (by rfl); (intro w hw; have F := HFF.out w hw; go_simp; exact ⟨rfl, rfl⟩); (intro w hw; have F := HFF.out w hw; with_reducible exact HE2.out w hw); simp only [Act.put, List.setIfInBounds_toArray, List.set_cons_zero, List.set_cons_succ]))
              refine hv_nil ?_
              rintro w4 hb4
              go_wp2
              go_roundw
              case rel => exact ⟨k + 1, by omega, by go_num, (hbi.next HB3.out (Nat.le_refl _)).next hb4 (Nat.le_refl _), by (have h := HG.out; show _ = _; simpa using h)⟩
              case measure => simp [intOf]; omega
        · have hg' := hg.out
          rw [show bought.length - k = 0 from by omega] at hg'
          simp only [Price.searchW] at hg'
          have hf' := HF.out
          rw [← hg'] at hf'
          have HF' := Lib.hid hf'
          clear hg hg' hf'
          go_wp2
          go_roundw
          case rel => exact ⟨i + 1, by omega, by go_num, hbw.next hbi (Nat.le_refl _), HF'.out⟩
          case measure => simp [intOf]; omega
    · have hf' := hf.out
      rw [show plan.length - i = 0 from by omega] at hf'
      simp only [Price.searchIW] at hf'
      have HF := Lib.hid hf'
      clear hf hf'
      go_wp2
      go_ret3
      exact ⟨by rw [← HF.out]; rfl, hb1.next hbw (Nat.le_refl _)⟩
end Go.Proofs.YtkailkfiakagfaaGreat
