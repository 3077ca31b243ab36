/- The reference's room of a plan, a plan's error, and what it earns. Conditions: lengths are below a great bound; numbers are as they are let. -/
import Derived.Test.YtkailkfiakagfaaGreatRefE
import Derived.Test.YtkailkfiakagfaaGreatPlanB
import Derived.BigRegion
import Derived.RegionTactic
set_option linter.unusedVariables false
set_option linter.unusedSimpArgs false
namespace Go.Proofs.YtkailkfiakagfaaGreat
open Go.RowKit
set_option maxRecDepth 100000
set_option maxHeartbeats 4000000 in
theorem room2_spec (fall : Int) (Ab : Option Addr) (bought : List Int) (cb : Nat) (A : Option Addr) (plan : List Int) (c : Nat) (w : World) (hm : bought.length ≤ 100) (hm2 : plan.length ≤ big) (hsb : Sl intE w Ab bought) (hs : Sl intE w A plan)
    (hbo : ∀ m ∈ bought, 0 ≤ m ∧ m ≤ 9) (hw : ∀ x ∈ plan, -1 ≤ x ∧ x < bought.length) :
    Calls Tryz.prog 79 #[saleV fall Ab bought.length cb, .slice A plan.length c] w fun e w' => e = .returned (.bool (Price.room bought plan)) ∧ Below w.heap.size w w' := by
  unfold big at hm2
  have HR := Lib.hid (Price.roomGo_room (fun m hm => (hbo m hm).1) hw)
  have HW := Lib.hid hw
  have hb0 : ∀ k : Nat, -1 ≤ bought.getD k 0 ∧ bought.getD k 0 ≤ 9 := fun k => by
    by_cases hk : k < bought.length
    · have := hbo _ (Price.getD_mem hk); omega
    · rw [List.getD_eq_getElem?_getD, List.getElem?_eq_none (by omega)]; simp
  have HB0 := Lib.hid hb0
  have hb1 : Below w.heap.size w (w.alloc (.cells #[iv fall, .slice Ab bought.length cb] 87)) := (Below.refl _ _).alloc (Nat.le_refl _) _
  have hsb1 := hsb.below hb1
  clear hw hbo hb0 hsb
  go_enter Tryz.func79, Tryz.ntmps79
  go_wp2_with (at_builtin; refine wpAppS intE tyInts rfl _ _ rfl (Own.emptyG (w := w.alloc (.cells #[iv fall, .slice Ab bought.length cb] 87)) (B := w.heap.size + 1) (G := w.heap.size + 1) (by simp) (by simp)) (hsb1.alloc _) rfl rfl (by simp) (by unfold big; simp; omega) ?_; intro v2 w2 hown2 hb2 hk2)
  have hb02 : Below w.heap.size w w2 := ((hb1.alloc (by simp) _)).trans (hb2.mono (by simp))
  rw [List.nil_append] at hown2
  have hown2' := hown2
  obtain ⟨A2, c2, rfl, _, _⟩ := hown2'.form
  have hz2 := hb02.size
  clear hk2 hb2 hb1 hsb1
  have HFAR : Hid (∀ b, (Value.slice A2 bought.length c2).ownBlock = some b → w.heap.size + 1 ≤ b) := fun b hb => (hown2'.lt b hb).1
  clear hown2'
  go_wp2_with fail
  go_loopw [6] (fun i wr => ∃ (k : Nat) (left : List Int), k ≤ plan.length ∧ i = iv k ∧ Own intE 3 (w.heap.size + 1) wr (.slice A2 bought.length c2) left ∧ Hid (left.length = bought.length) ∧ Hid (∀ k : Nat, -1 ≤ left.getD k 0 ∧ left.getD k 0 ≤ 9) ∧ Hid (Price.roomGo (plan.drop k) left = Price.roomGo plan bought) ∧ Below w.heap.size w wr) (fun i _ => plan.length - (intOf i).toNat)
  case atStart => exact ⟨0, bought, by omega, rfl, hown2, rfl, HB0, rfl, hb02⟩
  case round =>
    obtain ⟨k, left, hk, rfl, hown, hll, hlb, hf, hbw⟩ := hrel
    by_cases hlt : k < plan.length
    · obtain ⟨b, off, x, rfl, hb, hx, hc0⟩ := hs.atI hlt
      have hc := (hbw.cell (p := ⟨b, off + k, none⟩) hb).trans hc0
      have hxb := HW.out x (mem_at hx)
      have hf' := hf.out
      rw [drop_at hx] at hf'
      simp only [Price.roomGo] at hf'
      have HF := Lib.hid hf'
      have hkl : (k : Int) < (plan.length : Int) := by omega
      clear hf hf' hx
      by_cases hx0 : x < 0
      · rw [if_pos hx0] at HF
        clear hxb
        go_wp2
        go_roundw
        case rel => exact ⟨k + 1, left, by omega, by go_num, hown, hll, hlb, HF, hbw⟩
        case measure => simp [intOf]; omega
      · rw [if_neg hx0] at HF
        obtain ⟨jj, rfl⟩ := Int.eq_ofNat_of_zero_le (by omega : 0 ≤ x)
        rw [Int.toNat_natCast] at HF
        have hjb : jj < bought.length := by omega
        have hjl : jj < left.length := by rw [hll.out]; exact hjb
        have hjb' : (jj : Int) < (bought.length : Int) := by omega
        have hne : left ≠ [] := fun e => by rw [e] at hjl; simp at hjl
        obtain ⟨g2, cg, hv⟩ := hown.some_ hne
        injection hv with hA hn2 hcc
        subst hA hcc
        obtain ⟨lv, hlv⟩ : ∃ lv, lv = left.getD jj 0 := ⟨_, rfl⟩
        have hlvb := hlb.out jj
        obtain ⟨fz, hBg, hgl, hce, hst⟩ := hown.store jj hjl (lv - 1)
        obtain ⟨_, _, _, hce2, _⟩ := hst.store jj (by simpa using hjl) 0
        rw [Price.getD_set_self hjl] at hce2
        rw [← hlv] at hce HF hlvb
        have hbg : ¬ b = g2 := by omega
        have hgb : ¬ g2 = b := by omega
        have hws : IntKind.i64.wrap (lv - 1) = lv - 1 := IntWalk.i64_in _ (by omega)
        have hll' : Hid ((left.set jj (lv - 1)).length = bought.length) := by show _ = _; rw [List.length_set]; exact hll.out
        have HLV := Lib.hid hlv
        have HST := Lib.hid hst
        have hb4 : Below w.heap.size w ((wr.setCell ⟨g2, jj, none⟩ (iv (lv - 1))).drew) := (hbw.setCell (p := ⟨g2, jj, none⟩) (by simp; omega) _).drew
        have HB4 := Lib.hid hb4
        have HCE2 := Lib.hid hce2
        clear hst hlv hn2 hown hb4 hce2
        go_wp2
        go_region
        have hO4 : Own intE 3 (w.heap.size + 1) ((wr.setCell ⟨g2, jj, none⟩ (iv (lv - 1))).drew) (.slice (some ⟨g2, 0, none⟩) bought.length c2) (left.set jj (lv - 1)) := HST.out.keep (Nat.le_refl _) fun _ _ => rfl
        have hb4 := HB4.out
        have hce4 : ((wr.setCell ⟨g2, jj, none⟩ (iv (lv - 1))).drew).cell? ⟨g2, jj, none⟩ = some (iv (lv - 1)) := HCE2.out
        have hpc4 : ((wr.setCell ⟨g2, jj, none⟩ (iv (lv - 1))).drew).cell? ⟨b, off + k, none⟩ = some (iv jj) := (hb4.cell (p := ⟨b, off + k, none⟩) hb).trans hc0
        generalize (wr.setCell ⟨g2, jj, none⟩ (iv (lv - 1))).drew = w4 at *
        have HO4 := Lib.hid hO4
        have HB4' := Lib.hid hb4
        clear hO4 hb4 HST HB4 HCE2 hce hc fz hgl
        by_cases hneg : lv - 1 < 0
        · rw [if_pos hneg] at HF
          go_wp2
          go_ret
          exact ⟨ret_eq (by rw [← HR.out, ← HF.out]; rfl), HB4'.out⟩
        · rw [if_neg hneg] at HF
          have hneg' : ¬ lv < 1 := by omega
          go_wp2
          go_roundw
          case rel => exact ⟨k + 1, left.set jj (lv - 1), by omega, by go_num, HO4.out, hll', (fun i => by
            by_cases e : jj = i
            · subst e; rw [Price.getD_set_self hjl]; omega
            · rw [Price.getD_set_ne e]; exact hlb.out i), HF, HB4'.out⟩
          case measure => simp [intOf]; omega
    · have hf' := hf.out
      rw [drop_end hlt] at hf'
      have HF := Lib.hid hf'
      clear hf hf'
      go_wp2
      go_ret
      exact ⟨ret_eq (by rw [← HR.out, ← HF.out]; rfl), hbw⟩
set_option maxHeartbeats 4000000 in
theorem planned2_spec (fall : Int) (Ab : Option Addr) (bought : List Int) (cb : Nat) (n : Nat) (A : Option Addr) (plan : List Int) (c : Nat) (w : World) (hm : bought.length ≤ 100) (hm2 : plan.length ≤ big) (hsb : Sl intE w Ab bought) (hs : Sl intE w A plan)
    (hbo : ∀ m ∈ bought, 0 ≤ m ∧ m ≤ 9) :
    Calls Tryz.prog 47 #[saleV fall Ab bought.length cb, iv n, .slice A plan.length c] w fun e w' => e = .returned (iv (Price.planErr2 bought n plan)) ∧ Below w.heap.size w w' := by
  have hb1 : Below w.heap.size w (w.alloc (.cells #[iv fall, .slice Ab bought.length cb] 87)) := (Below.refl _ _).alloc (Nat.le_refl _) _
  have hB1 : Blk (w.alloc (.cells #[iv fall, .slice Ab bought.length cb] 87)) w.heap.size 87 #[iv fall, .slice Ab bought.length cb] := Blk.new _ _ _
  have HRO : Hid (∀ W, Below w.heap.size w W → (∀ x ∈ plan, -1 ≤ x ∧ x < bought.length) → Calls Tryz.prog 79 #[saleV fall Ab bought.length cb, .slice A plan.length c] W fun e w' => e = .returned (.bool (Price.room bought plan)) ∧ Below W.heap.size W w') := fun W h hw => room2_spec fall Ab bought cb A plan c W hm hm2 (hsb.below h) (hs.below h) hbo hw
  unfold big at hm2
  by_cases hn : plan.length = n
  · subst hn
    have hne : ((plan.length : Int) != (plan.length : Int)) = false := by simp
    have hpe : Price.planErr2 bought plan.length plan = if plan.all (Price.inB · (-1) (bought.length - 1)) then (if Price.room bought plan then 0 else 9) else 1 := by unfold Price.planErr2; rw [if_pos rfl]
    have HPE := Lib.hid hpe
    have hs1 := hs.below hb1
    clear hpe
    go_enter Tryz.func47, Tryz.ntmps47
    go_wp2_with fail
    go_loopw [7] (fun i wr => ∃ k : Nat, k ≤ plan.length ∧ i = iv k ∧ Hid ((plan.drop k).all (Price.inB · (-1) (bought.length - 1)) = plan.all (Price.inB · (-1) (bought.length - 1))) ∧ Below (w.alloc (.cells #[iv fall, .slice Ab bought.length cb] 87)).heap.size (w.alloc (.cells #[iv fall, .slice Ab bought.length cb] 87)) wr) (fun i _ => plan.length - (intOf i).toNat)
    case atStart => exact ⟨0, by omega, rfl, rfl, Below.refl _ _⟩
    case round =>
      obtain ⟨k, hk, rfl, hf, hbw⟩ := hrel
      have hb0r : Below w.heap.size w wr := hb1.next hbw (Nat.le_refl _)
      by_cases hlt : k < plan.length
      · obtain ⟨b, off, x, rfl, hb, hx, hc⟩ := (hs1.below hbw).atI hlt
        have hf' := hf.out
        rw [drop_at hx, List.all_cons] at hf'
        have HF := Lib.hid hf'
        have hkl : (k : Int) < (plan.length : Int) := by omega
        have hBr := hB1.under hbw
        have HFF : Hid (∀ a : World, Below wr.heap.size wr a → a.cell? ⟨w.heap.size, 0, none⟩ = some (iv fall) ∧ a.cell? ⟨w.heap.size, 1, none⟩ = some (.slice Ab bought.length cb) ∧ a.cell? ⟨b, off + k, none⟩ = some (iv x)) := fun a h => ⟨(hBr.under h).cell 0, (hBr.under h).cell 1, (h.cell (p := ⟨b, off + k, none⟩) hb).trans hc⟩
        have HOF : Hid (∀ a : World, Calls Tryz.prog 67 #[iv x, iv (-1), iv ((bought.length : Int) - 1)] a fun e w' => e = .returned (.bool (!Price.inB x (-1) (bought.length - 1))) ∧ Below a.heap.size a w') := fun a => (off_spec x (-1) (bought.length - 1) a).mono fun e w' h => ⟨h.1, by rw [← h.2]; exact Below.refl _ _⟩
        have hwl : IntKind.i64.wrap ((bought.length : Int) - 1) = (bought.length : Int) - 1 := IntWalk.i64_in _ (by omega)
        clear hf hf' hx hc hBr hb
        cases hin : Price.inB x (-1) (bought.length - 1)
        · rw [hin, Bool.false_and] at HF
          rw [hin] at HOF
          have H3 : Hid (Price.planErr2 bought plan.length plan = 1) := by show _ = _; rw [HPE.out, ← HF.out]; rfl
          clear hin
          go_wp2
          refine wp_havoc_lit (by kernel_rfl) (by kernel_rfl) ?_
          repeat (first
            | (refine hv_skip (by rfl) ?_; simp only [Act.put, List.setIfInBounds_toArray, List.set_cons_zero, List.set_cons_succ])
            | (apply hv_val (by rfl); (intro w hw; have F := HFF.out w hw; go_simp; exact rfl); simp only [Act.put, List.setIfInBounds_toArray, List.set_cons_zero, List.set_cons_succ])
            | (apply hv_call (by rfl); (intro w hw; have F := HFF.out w hw; go_simp; exact ⟨rfl, rfl⟩); (intro w hw; have F := HFF.out w hw; with_reducible exact HOF.out w); simp only [Act.put, List.setIfInBounds_toArray, List.set_cons_zero, List.set_cons_succ]))
          refine hv_nil ?_
          rintro w3 hb3
          go_wp2
          go_ret
          exact ⟨ret_eq (by rw [H3.out]; rfl), hb0r.next hb3 (Nat.le_refl _)⟩
        · rw [hin, Bool.true_and] at HF
          rw [hin] at HOF
          clear hin
          go_wp2
          refine wp_havoc_lit (by kernel_rfl) (by kernel_rfl) ?_
          repeat (first
            | (refine hv_skip (by rfl) ?_; simp only [Act.put, List.setIfInBounds_toArray, List.set_cons_zero, List.set_cons_succ])
            | (apply hv_val (by rfl); (intro w hw; have F := HFF.out w hw; go_simp; exact rfl); simp only [Act.put, List.setIfInBounds_toArray, List.set_cons_zero, List.set_cons_succ])
            | (apply hv_call (by rfl); (intro w hw; have F := HFF.out w hw; go_simp; exact ⟨rfl, rfl⟩); (intro w hw; have F := HFF.out w hw; with_reducible exact HOF.out w); simp only [Act.put, List.setIfInBounds_toArray, List.set_cons_zero, List.set_cons_succ]))
          refine hv_nil ?_
          rintro w3 hb3
          go_wp2
          go_roundw
          case rel => exact ⟨k + 1, by omega, by go_num, HF, hbw.next hb3 (Nat.le_refl _)⟩
          case measure => simp [intOf]; omega
      · have hf' := hf.out
        rw [drop_end hlt] at hf'
        have hall : ∀ x ∈ plan, -1 ≤ x ∧ x < bought.length := fun x hx => by
          have := List.all_eq_true.1 hf'.symm x hx
          simp only [Price.inB, Bool.and_eq_true, decide_eq_true_eq] at this
          omega
        have HRR := Lib.hid (HRO.out wr hb0r hall)
        have H3 : Hid (Price.planErr2 bought plan.length plan = if Price.room bought plan then 0 else 9) := by show _ = _; rw [HPE.out, ← hf']; rfl
        have hBr := hB1.under hbw
        have f0 := hBr.cell 0
        have f1 := hBr.cell 1
        have f2 := hBr.lt
        clear hf hf' hall
        cases hro : Price.room bought plan
        · rw [hro] at HRR H3
          go_wp2_with (go_at_call 79; refine HRR.out.mono ?_; rintro e w3 ⟨rfl, hb3⟩)
          go_ret
          exact ⟨ret_eq (by rw [H3.out]; rfl), hb0r.next hb3 (Nat.le_refl _)⟩
        · rw [hro] at HRR H3
          go_wp2_with (go_at_call 79; refine HRR.out.mono ?_; rintro e w3 ⟨rfl, hb3⟩)
          go_ret
          exact ⟨ret_eq (by rw [H3.out]; rfl), hb0r.next hb3 (Nat.le_refl _)⟩
  · have hne : ((plan.length : Int) != (n : Int)) = true := bne_iff_ne.2 (by omega)
    have H3 : Hid (Price.planErr2 bought n plan = 2) := by show _ = _; unfold Price.planErr2; rw [if_neg hn]
    go_enter Tryz.func47, Tryz.ntmps47
    go_wp2_with fail
    go_ret
    exact ⟨ret_eq (by rw [H3.out]; rfl), hb1⟩
theorem earns_drop2 {fall p w : Int} {ps plan : List Int} {k : Nat} (hp : ps[k]? = some p) (hw : plan[k]? = some w) : Price.earns fall (ps.drop k) (plan.drop k) = p * Price.rate fall w + Price.earns fall (ps.drop (k + 1)) (plan.drop (k + 1)) := by
  rw [drop_at hp, drop_at hw]; rfl
set_option maxHeartbeats 4000000 in
theorem earns2_spec (fall : Int) (Ab : Option Addr) (nb cb : Nat) (Ap : Option Addr) (prices : List Int) (cp : Nat) (A : Option Addr) (plan : List Int) (c : Nat) (w : World) (hsp : Sl intE w Ap prices) (hs : Sl intE w A plan) (hl : plan.length = prices.length) (hm : plan.length ≤ 1000)
    (h1 : 0 ≤ fall) (h2 : fall ≤ 30) (hp : ∀ p ∈ prices, 0 ≤ p ∧ p ≤ 500) (hw : ∀ x ∈ plan, -1 ≤ x ∧ x ≤ 100) :
    Calls Tryz.prog 48 #[saleV fall Ab nb cb, .slice Ap prices.length cp, .slice A plan.length c] w fun e w' => e = .returned (iv (Price.earns fall prices plan)) ∧ Below w.heap.size w w' := by
  have hb1 : Below w.heap.size w (w.alloc (.cells #[iv fall, .slice Ab nb cb] 87)) := (Below.refl _ _).alloc (Nat.le_refl _) _
  have hB1 : Blk (w.alloc (.cells #[iv fall, .slice Ab nb cb] 87)) w.heap.size 87 #[iv fall, .slice Ab nb cb] := Blk.new _ _ _
  have HL := Lib.hid hl
  have HP := Lib.hid hp
  have HW := Lib.hid hw
  have hs1 := hs.below hb1
  have hsp1 := hsp.below hb1
  clear hl hp hw hs hsp
  go_enter Tryz.func48, Tryz.ntmps48
  go_wp2_with fail
  go_loopw [7, 8] (fun v i wr => ∃ (k : Nat) (sum : Int), k ≤ plan.length ∧ i = iv k ∧ v = iv sum ∧ 0 ≤ sum ∧ sum ≤ 50000 * k ∧ Hid (sum + Price.earns fall (prices.drop k) (plan.drop k) = Price.earns fall prices plan) ∧ Below (w.alloc (.cells #[iv fall, .slice Ab nb cb] 87)).heap.size (w.alloc (.cells #[iv fall, .slice Ab nb cb] 87)) wr) (fun _ i _ => plan.length - (intOf i).toNat)
  case atStart => exact ⟨0, 0, by omega, rfl, rfl, by omega, by omega, by show _ = _; simp, Below.refl _ _⟩
  case round =>
    obtain ⟨k, sum, hk, rfl, rfl, hs0, hs1', hf, hbw⟩ := hrel
    by_cases hlt : k < plan.length
    · obtain ⟨b, off, x, rfl, hb, hx, hc⟩ := (hs1.below hbw).atI hlt
      obtain ⟨b2, off2, p, rfl, hb2, hpx, hc2⟩ := (hsp1.below hbw).atI (k := k) (by rw [← HL.out]; exact hlt)
      have hxb := HW.out x (mem_at hx)
      have hpb := HP.out p (mem_at hpx)
      have hf' := hf.out
      rw [earns_drop2 hpx hx] at hf'
      have HF := Lib.hid hf'
      have hkl : (k : Int) < (plan.length : Int) := by omega
      have hkl2 : (k : Int) < (prices.length : Int) := by rw [← HL.out]; exact hkl
      have hkl3 : k < prices.length := by omega
      have hBr := hB1.under hbw
      have f0 := hBr.cell 0
      have f2 := hBr.lt
      clear hf hf' hx hpx hBr
      by_cases hxn : x = -1
      · subst hxn
        rw [Price.rate_none, Int.mul_zero, Int.zero_add] at HF
        go_wp2
        go_roundw
        case rel => exact ⟨k + 1, sum, by omega, by go_num, rfl, by omega, by omega, HF, hbw⟩
        case measure => simp [intOf]; omega
      · have hr : Price.rate fall x = max 0 (100 - fall * x) := by unfold Price.rate; rw [if_neg hxn]
        rw [hr] at HF
        have hx0 : 0 ≤ x := by omega
        have hx0' : ¬ x < 0 := by omega
        have hm0 : 0 ≤ fall * x := Int.mul_nonneg h1 hx0
        have hm1 : fall * x ≤ 30 * 100 := Int.mul_le_mul h2 hxb.2 hx0 (by omega)
        have hm2 : 0 ≤ p * max 0 (100 - fall * x) := Int.mul_nonneg hpb.1 (by omega)
        have hm3 : p * max 0 (100 - fall * x) ≤ 500 * 100 := Int.mul_le_mul hpb.2 (by omega) (by omega) (by omega)
        have q1 : IntKind.i64.wrap (fall * x) = fall * x := IntWalk.i64_in _ (by omega)
        have q2 : IntKind.i64.wrap (100 - fall * x) = 100 - fall * x := IntWalk.i64_in _ (by omega)
        have q3 : IntKind.i64.wrap (p * max 0 (100 - fall * x)) = p * max 0 (100 - fall * x) := IntWalk.i64_in _ (by omega)
        have q4 : IntKind.i64.wrap (sum + p * max 0 (100 - fall * x)) = sum + p * max 0 (100 - fall * x) := IntWalk.i64_in _ (by omega)
        clear hr hxn
        go_wp2
        go_region
        go_wp2
        go_roundw
        case rel => exact ⟨k + 1, sum + p * max 0 (100 - fall * x), by omega, by go_num, rfl, by omega, by push_cast; omega, by (have := HF.out; show _ = _; omega), (by first | exact hbw | exact hbw.drew)⟩
        case measure => simp [intOf]; omega
    · have hf' := hf.out
      rw [drop_end hlt] at hf'
      have hn : Price.earns fall (prices.drop k) [] = 0 := by cases prices.drop k <;> rfl
      rw [hn, Int.add_zero] at hf'
      have HF := Lib.hid hf'
      clear hf hf' hn
      go_wp2
      go_ret
      exact ⟨ret_eq (by rw [HF.out]; rfl), hb1.next hbw (Nat.le_refl _)⟩
end Go.Proofs.YtkailkfiakagfaaGreat
