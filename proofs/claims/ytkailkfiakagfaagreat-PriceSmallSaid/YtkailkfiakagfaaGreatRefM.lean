/- The reference's most that pieces earn, all plans tried. Conditions: few pieces and weeks; numbers are as they are let. -/
import Derived.Test.YtkailkfiakagfaaGreatRefE
import Derived.Test.YtkailkfiakagfaaGreatPlanB
set_option linter.unusedVariables false
set_option linter.unusedSimpArgs false
namespace Go.Proofs.YtkailkfiakagfaaGreat
open Go.RowKit
set_option maxRecDepth 100000
/-- A cell that is written, and written back behind a call that leaves all as it was. -/
theorem below_restore {w w2 : World} {g k : Nat} {u v : Value} (hv : w.cell? ⟨g, k, none⟩ = some v) (h : Below w.heap.size (w.setCell ⟨g, k, none⟩ u) w2) : Below w.heap.size w (w2.setCell ⟨g, k, none⟩ v) := by
  refine ⟨h.os, h.tape, h.output, by have := h.size; simpa [World.setCell] using this, fun b hb => ?_⟩
  by_cases hbg : b = g
  · subst hbg
    have h1 := h.block b hb
    unfold World.cell? at hv
    dsimp only at hv
    split at hv
    · rename_i c e f hw
      have hc : c[k]? = some v := by simpa using hv
      have h2 : (w.setCell ⟨b, k, none⟩ u).heap[b]? = some (.cells (c.setIfInBounds k u) e f) := by simp [World.setCell, Array.getElem?_modify, hw]
      rw [h2] at h1
      have h3 : (w2.setCell ⟨b, k, none⟩ v).heap[b]? = some (.cells ((c.setIfInBounds k u).setIfInBounds k v) e f) := by simp [World.setCell, Array.getElem?_modify, h1]
      rw [h3, hw]
      congr 2
      apply Array.ext_getElem?
      intro i
      by_cases hik : k = i
      · subst hik
        have hlt : k < c.size := (Array.getElem?_eq_some_iff.1 hc).1
        rw [Array.getElem?_setIfInBounds_self_of_lt (by simpa using hlt), hc]
      · rw [Array.getElem?_setIfInBounds_ne hik, Array.getElem?_setIfInBounds_ne hik]
    · cases hv
  · rw [Below.heap_setCell w2 ⟨g, k, none⟩ v b hbg, h.block b hb, Below.heap_setCell w ⟨g, k, none⟩ u b hbg]
namespace Price
theorem mostGo_step (f : Nat → Int) (left : List Int) (c w : Nat) (b : Int) : mostGo f left (c + 1) w b = mostGo f left c (w + 1) (if left.getD w 0 = 0 then b else max b (f w)) := rfl
end Price
set_option maxHeartbeats 4000000 in
theorem most2_spec (fall : Int) (Ab : Option Addr) (nb cb : Nat) (Ap : Option Addr) (prices : List Int) (cp : Nat) (h1 : 0 ≤ fall) (h2 : fall ≤ 30) (hp : ∀ p ∈ prices, 0 ≤ p ∧ p ≤ 500) (hl10 : prices.length ≤ 10) :
    ∀ (d k : Nat) (left : List Int) (Al : Option Addr) (cl B : Nat) (w : World), prices.length = k + d → left.length ≤ 100 → (∀ j : Nat, 0 ≤ left.getD j 0 ∧ left.getD j 0 ≤ 9) → Sl intE w Ap prices → Own intE 3 B w (.slice Al left.length cl) left → (∀ b off s, Ap = some ⟨b, off, s⟩ → prices ≠ [] → b < B) →
      Calls Tryz.prog 56 #[saleV fall Ab nb cb, .slice Ap prices.length cp, .slice Al left.length cl, iv k] w fun e w' => e = .returned (iv (Price.mostOf fall (prices.drop k) left)) ∧ Below w.heap.size w w' := by
  intro d
  induction d with
  | zero =>
    intro k left Al cl B w hk _ _ _ _ _
    have hkk : ((k : Int) == (prices.length : Int)) = true := by simp; omega
    have HM : Hid (Price.mostOf fall (prices.drop k) left = 0) := by
      show _ = _
      rw [List.drop_of_length_le (by omega)]; rfl
    clear hk
    go_enter Tryz.func56, Tryz.ntmps56
    go_wp2_with fail
    go_ret
    exact ⟨ret_eq (by rw [HM.out]; rfl), (Below.refl _ _).alloc (Nat.le_refl _) _⟩
  | succ d ih =>
    intro k left Al cl B w hk hll hlb hsp hown hfar
    have hkp : k < prices.length := by omega
    have hkk : ((k : Int) == (prices.length : Int)) = false := by simp; omega
    have hb1 : Below w.heap.size w (w.alloc (.cells #[iv fall, .slice Ab nb cb] 87)) := (Below.refl _ _).alloc (Nat.le_refl _) _
    have hB1 : Blk (w.alloc (.cells #[iv fall, .slice Ab nb cb] 87)) w.heap.size 87 #[iv fall, .slice Ab nb cb] := Blk.new _ _ _
    have IH : Hid (∀ (l2 : List Int) (W : World), l2.length = left.length → (∀ j : Nat, 0 ≤ l2.getD j 0 ∧ l2.getD j 0 ≤ 9) → Sl intE W Ap prices → Own intE 3 B W (.slice Al left.length cl) l2 → Calls Tryz.prog 56 #[saleV fall Ab nb cb, .slice Ap prices.length cp, .slice Al left.length cl, iv ((k : Int) + 1)] W fun e w' => e = .returned (iv (Price.mostOf fall (prices.drop (k + 1)) l2)) ∧ Below W.heap.size W w') := fun l2 W h0 h3 h4 h5 => by
      have := ih (k + 1) l2 Al cl B W (by omega) (by omega) h3 h4 (by rw [h0]; exact h5) hfar
      rw [h0] at this
      exact this
    obtain ⟨pk, hpk⟩ : ∃ x, prices[k]? = some x := ⟨_, List.getElem?_eq_getElem hkp⟩
    have hpkb := hp pk (mem_at hpk)
    obtain ⟨f, hfd⟩ : ∃ f : Nat → Int, f = fun (j : Nat) => pk * max 0 (100 - fall * j) + Price.mostOf fall (prices.drop (k + 1)) (left.set j (left.getD j 0 - 1)) := ⟨_, rfl⟩
    obtain ⟨b0, hb0⟩ : ∃ b0, b0 = Price.mostOf fall (prices.drop (k + 1)) left := ⟨_, rfl⟩
    have HM : Hid (Price.mostOf fall (prices.drop k) left = Price.mostGo f left left.length 0 b0) := by
      show _ = _
      rw [drop_at hpk, hfd, hb0]; rfl
    have hbd : ∀ l2 : List Int, 0 ≤ Price.mostOf fall (prices.drop (k + 1)) l2 ∧ Price.mostOf fall (prices.drop (k + 1)) l2 ≤ 500000 := fun l2 => by
      have := Price.mostOf_bounds h1 (prices.drop (k + 1)) l2 fun q hq => hp q (List.mem_of_mem_drop hq)
      rw [List.length_drop] at this
      omega
    have HBD := Lib.hid hbd
    have HFD := Lib.hid hfd
    have hb0b := hbd left
    rw [← hb0] at hb0b
    have hkw : IntKind.i64.wrap ((k : Int) + 1) = (k : Int) + 1 := IntWalk.i64_in _ (by omega)
    have hkl : (k : Int) < (prices.length : Int) := by omega
    have hsp1 := hsp.below hb1
    have hown1 := hown.below hb1
    have HI0 := Lib.hid (IH.out left _ rfl hlb hsp1 hown1)
    rw [← hb0] at HI0
    have HLB := Lib.hid hlb
    have HPK := Lib.hid hpk
    have HOW1 := Lib.hid hown1
    have HFA := Lib.hid hfar
    have HLT : Hid (∀ b, (Value.slice Al left.length cl).ownBlock = some b → b < w.heap.size) := fun b hb => (hown.lt b hb).2
    clear hk hlb hbd hfd hb0 hp hpk ih hown hsp hown1 hfar
    go_enter Tryz.func56, Tryz.ntmps56
    go_wp2_with fail
    refine HI0.out.mono ?_
    rintro e w2 ⟨rfl, hb2⟩
    have hb02 := hb1.next hb2 (Nat.le_refl _)
    have hsp2 := hsp1.below hb2
    have hB2 := hB1.under hb2
    have HOW2 := Lib.hid (HOW1.out.below hb2)
    clear HI0 hsp1 hB1 HOW1 hb1
    go_wp2_with fail
    go_loopw [9, 10] (fun v i wr => ∃ (j : Nat) (b : Int), j ≤ left.length ∧ i = iv j ∧ v = iv b ∧ 0 ≤ b ∧ b ≤ 1000000 ∧ Hid (Price.mostGo f left (left.length - j) j b = Price.mostGo f left left.length 0 b0) ∧ Below w2.heap.size w2 wr) (fun _ i _ => left.length - (intOf i).toNat)
    case atStart => exact ⟨0, b0, by omega, rfl, rfl, by omega, by omega, rfl, Below.refl _ _⟩
    case round =>
      obtain ⟨j, b, hj, rfl, rfl, hbb0, hbb1, hf, hbw⟩ := hrel
      by_cases hlt : j < left.length
      · have hf' := hf.out
        rw [show left.length - j = (left.length - (j + 1)) + 1 from by omega, Price.mostGo_step] at hf'
        have HF := Lib.hid hf'
        have hownr := HOW2.out.below hbw
        have hne : left ≠ [] := fun e => by rw [e] at hlt; simp at hlt
        obtain ⟨gl, cg, hv⟩ := hownr.some_ hne
        injection hv with hA hn2 hcc
        subst hA hcc
        obtain ⟨lv, hlv⟩ : ∃ lv, lv = left.getD j 0 := ⟨_, rfl⟩
        have hlvb := HLB.out j
        rw [← hlv] at hlvb HF
        have hjl : (j : Int) < (left.length : Int) := by omega
        have HLV := Lib.hid hlv
        clear hf hf' hlv
        by_cases h0 : lv = 0
        · rw [if_pos h0] at HF
          have h0' : (lv == 0) = true := by simpa using h0
          obtain ⟨fz, hBg, hgl, hce, hst⟩ := hownr.store j hlt 0
          rw [← HLV.out] at hce
          clear hst hownr
          go_wp2_with fail
          go_roundw
          case rel => exact ⟨j + 1, b, by omega, by go_num, rfl, hbb0, hbb1, HF, hbw⟩
          case measure => simp [intOf]; omega
        · rw [if_neg h0] at HF
          obtain ⟨m, rfl⟩ : ∃ m, lv = m + 1 := ⟨lv - 1, by omega⟩
          have h0' : (m + 1 == 0) = false := by simpa using h0
          obtain ⟨fz, hBg, hgl, hce, hst⟩ := hownr.store j hlt m
          rw [← HLV.out] at hce
          have hgw : gl < w.heap.size := HLT.out gl rfl
          obtain ⟨bp, offp, hAp, hbp, hcp⟩ : ∃ bp offp, Ap = some ⟨bp, offp, none⟩ ∧ bp < w2.heap.size ∧ w2.cell? ⟨bp, offp + k, none⟩ = some (iv pk) := by
            obtain ⟨x1, x2, x3, hA, hx, hx2, hx3⟩ := hsp2.atI hkp
            rw [HPK.out] at hx2
            injection hx2 with hx2
            subst hx2
            exact ⟨x1, x2, hA, hx, hx3⟩
          subst hAp
          have hbB := HFA.out bp offp none rfl fun e => by rw [e] at hkp; simp at hkp
          have hst' : Own intE 3 B (wr.setCell ⟨gl, j, none⟩ (iv m)) (.slice (some ⟨gl, 0, none⟩) left.length cl) (left.set j m) := hst
          have hspr := hsp2.below hbw
          have hspS : Sl intE (wr.setCell ⟨gl, j, none⟩ (iv m)) (some ⟨bp, offp, none⟩) prices := hspr.setCell (B := B) (fun b off h => by cases h; exact hbB) (by exact hBg) _
          have hBr := hB2.under hbw
          have hBS : Blk (wr.setCell ⟨gl, j, none⟩ (iv m)) w.heap.size 87 #[iv fall, .slice Ab nb cb] := hBr.far (p := ⟨gl, j, none⟩) (by simp; omega) _
          have hcS : (wr.setCell ⟨gl, j, none⟩ (iv m)).cell? ⟨bp, offp + k, none⟩ = some (iv pk) := by
            rw [World.cell?_of_block (w := wr) (Below.heap_setCell wr ⟨gl, j, none⟩ (iv m) bp (by simp; omega))]
            exact (hbw.cell (p := ⟨bp, offp + k, none⟩) hbp).trans hcp
          obtain ⟨fz2, _, _, hce2, _⟩ := hst.store j (by simpa using hlt) 0
          rw [Price.getD_set_self hlt] at hce2
          have hzS : (wr.setCell ⟨gl, j, none⟩ (iv m)).heap.size = wr.heap.size := by simp [World.setCell]
          have hfS : (wr.setCell ⟨gl, j, none⟩ (iv m)).frozen? ⟨gl, j, none⟩ = false := fz2
          have HRB : Hid (∀ w4, Below (wr.setCell ⟨gl, j, none⟩ (iv m)).heap.size (wr.setCell ⟨gl, j, none⟩ (iv m)) w4 → Below wr.heap.size wr (w4.setCell ⟨gl, j, none⟩ (iv (m + 1)))) := fun w4 h => below_restore hce (by rw [hzS] at h; exact h)
          have hbpw : bp < (wr.setCell ⟨gl, j, none⟩ (iv m)).heap.size := by rw [hzS]; have := hbw.size; omega
          have HST := Lib.hid hst'
          have HSPS := Lib.hid hspS
          have HBS := Lib.hid hBS
          have HCS := Lib.hid hcS
          have HZS := Lib.hid hzS
          clear hst hst' hspS hspr hBS hBr hcS hownr hzS fz2
          go_wp2_with fail
          generalize wr.setCell ⟨gl, j, none⟩ (iv m) = wS at *
          have HFF : Hid (∀ a : World, Below wS.heap.size wS a → a.cell? ⟨w.heap.size, 0, none⟩ = some (iv fall) ∧ a.cell? ⟨w.heap.size, 1, none⟩ = some (.slice Ab nb cb) ∧ a.cell? ⟨bp, offp + k, none⟩ = some (iv pk)) := fun a h => ⟨(HBS.out.under h).cell 0, (HBS.out.under h).cell 1, (h.cell (p := ⟨bp, offp + k, none⟩) hbpw).trans HCS.out⟩
          obtain ⟨mx, hmx⟩ : ∃ mx, mx = Price.mostOf fall (prices.drop (k + 1)) (left.set j m) := ⟨_, rfl⟩
          have hmxb := HBD.out (left.set j m)
          have HC : Hid (∀ a : World, Below wS.heap.size wS a → Calls Tryz.prog 56 #[saleV fall Ab nb cb, .slice (some ⟨bp, offp, none⟩) prices.length cp, .slice (some ⟨gl, 0, none⟩) left.length cl, iv ((k : Int) + 1)] a fun e w' => e = .returned (iv mx) ∧ Below a.heap.size a w') := fun a h => by
            rw [hmx]
            exact IH.out (left.set j m) a (by simp) (fun i => by
              by_cases e : j = i
              · subst e; rw [Price.getD_set_self hlt]; omega
              · rw [Price.getD_set_ne e]; exact HLB.out i) (HSPS.out.below h) (HST.out.below h)
          have hfj : f j = pk * max 0 (100 - fall * (j : Int)) + mx := by
            rw [HFD.out, hmx]
            dsimp only
            rw [← HLV.out, Int.add_sub_cancel]
          rw [← hmx] at hmxb
          rw [hfj] at HF
          have hm0 : 0 ≤ fall * (j : Int) := Int.mul_nonneg h1 (by omega)
          have hm1 : fall * (j : Int) ≤ 30 * 100 := Int.mul_le_mul h2 (by omega) (by omega) (by omega)
          have hm2 : 0 ≤ pk * max 0 (100 - fall * (j : Int)) := Int.mul_nonneg hpkb.1 (by omega)
          have hm3 : pk * max 0 (100 - fall * (j : Int)) ≤ 500 * 100 := Int.mul_le_mul hpkb.2 (by omega) (by omega) (by omega)
          have q1 : IntKind.i64.wrap (fall * (j : Int)) = fall * (j : Int) := IntWalk.i64_in _ (by omega)
          have q2 : IntKind.i64.wrap (100 - fall * (j : Int)) = 100 - fall * (j : Int) := IntWalk.i64_in _ (by omega)
          have q3 : IntKind.i64.wrap (pk * max 0 (100 - fall * (j : Int))) = pk * max 0 (100 - fall * (j : Int)) := IntWalk.i64_in _ (by omega)
          have q4 : IntKind.i64.wrap (pk * max 0 (100 - fall * (j : Int)) + mx) = pk * max 0 (100 - fall * (j : Int)) + mx := IntWalk.i64_in _ (by omega)
          clear hmx hfj hcp hce
          refine wp_havoc_lit (by kernel_rfl) (by kernel_rfl) ?_
          repeat (first
            | (refine hv_skip (by rfl) ?_; simp only [Act.put, List.setIfInBounds_toArray, List.set_cons_zero, List.set_cons_succ])
            | (apply hv_val (by rfl); (intro w hw; have F := HFF.out w hw; go_simp; exact rfl); simp only [Act.put, List.setIfInBounds_toArray, List.set_cons_zero, List.set_cons_succ])
            | (apply hv_call (by rfl); (intro w hw; have F := HFF.out w hw; go_simp; exact ⟨rfl, rfl⟩); (intro w hw; have F := HFF.out w hw; with_reducible exact HC.out w hw); simp only [Act.put, List.setIfInBounds_toArray, List.set_cons_zero, List.set_cons_succ]))
          refine hv_nil ?_
          rintro w4 hb4
          have z0 := (hb4.cell (p := ⟨gl, j, none⟩) (by rw [HZS.out]; exact hgl)).trans hce2
          have z1 := (hb4.frozen (p := ⟨gl, j, none⟩) (by rw [HZS.out]; exact hgl)).trans hfS
          have z2 : gl < w4.heap.size := by have := hb4.size; have := HZS.out; omega
          have hbr := Lib.hid (HRB.out w4 hb4)
          clear hce2 hfS q1 q2 q3 q4
          go_wp2_with fail
          go_roundw
          case rel => exact ⟨j + 1, max b (pk * max 0 (100 - fall * (j : Int)) + mx), by omega, by go_num, rfl, by omega, by omega, HF, hbw.next hbr.out (Nat.le_refl _)⟩
          case measure => simp [intOf]; omega
      · have hf' := hf.out
        rw [show left.length - j = 0 from by omega] at hf'
        simp only [Price.mostGo] at hf'
        have HF := Lib.hid hf'
        clear hf hf'
        go_wp2_with fail
        go_ret
        exact ⟨ret_eq (by rw [HM.out, ← HF.out]; rfl), hb02.next hbw (Nat.le_refl _)⟩
end Go.Proofs.YtkailkfiakagfaaGreat
