/- The reference of layer 11: Bound. Conditions: few lines. -/
import Derived.Test.YtekkhnjepcebkaaDoorRefFg
set_option linter.unusedVariables false
set_option linter.unusedSimpArgs false
namespace Go.Proofs.YtekkhnjepcebkaaDoor
namespace Fl
open Go.RowKit
set_option maxRecDepth 100000
theorem Sl.cellRw {α : Type} {w : World} {b off k : Nat} {rs : List (Rw α)} {r : Rw α} (h : Sl (rwE α) w (some ⟨b, off, none⟩) rs) (hx : rs[k]? = some r) : ∀ W, Below w.heap.size w W → W.cell? ⟨b, off + k, none⟩ = some (.slice r.A r.xs.length r.c) := fun W hW => by
  obtain ⟨_, _, s2, hA', _, hx2, hc2⟩ := Sl.atRw (h.below hW) (List.getElem?_eq_some_iff.1 hx).1
  injection hA' with hA'
  injection hA' with e1 e2 _
  subst e1; subst e2
  rw [hx] at hx2
  rw [hc2, ← Option.some.inj hx2]
theorem Sl.cellI {w : World} {b off k : Nat} {xs : List Int} {x : Int} (h : Sl intE w (some ⟨b, off, none⟩) xs) (hx : xs[k]? = some x) : ∀ W, Below w.heap.size w W → W.cell? ⟨b, off + k, none⟩ = some (iv x) := fun W hW => by
  obtain ⟨_, _, s2, hA', _, hx2, hc2⟩ := Sl.atI (h.below hW) (List.getElem?_eq_some_iff.1 hx).1
  injection hA' with hA'
  injection hA' with e1 e2 _
  subst e1; subst e2
  rw [hx] at hx2
  rw [hc2, Option.some.inj hx2]
theorem map_at {rs : List (Rw Int)} {k : Nat} {r : Rw Int} (h : rs[k]? = some r) : (rs.map Rw.xs)[k]? = some r.xs := by rw [List.getElem?_map, h]; rfl
/-- What is asked of a level up to a place. -/
def Later (a b : List ByteArray) (xs : List (List Int)) (i j : Nat) (n : Int) (k l : Nat) : Prop := 0 < n → a[k]? = b[l]? → n < (xs.getD k []).getD l 0
set_option maxHeartbeats 16000000 in
theorem rbound_spec (A : Option Addr) (a : List ByteArray) (c : Nat) (A' : Option Addr) (b : List ByteArray) (c' : Nat) (B : Option Addr) (rs : List (Rw Int)) (d : Nat) (w : World) (ha : a.length ≤ 24) (hb : b.length ≤ 24) (hm : rs.length ≤ big) (hms : ∀ r ∈ rs, r.xs.length ≤ big)
    (hsa : Sl strE w A a) (hsb : Sl strE w A' b) (hsr : Sl (rwE Int) w B rs) (hrr : RowsR intE w rs) :
    Calls Tryd.prog 13 #[.slice A a.length c, .slice A' b.length c', .slice B rs.length d] w fun e w' => e = .returned (.tuple #[iv (File.refBound a b (rs.map Rw.xs)).1, iv (File.refBound a b (rs.map Rw.xs)).2]) ∧ Below w.heap.size w w' := by
  unfold big at hm
  obtain ⟨R, hR⟩ : ∃ R, R = File.refBound a b (rs.map Rw.xs) := ⟨_, rfl⟩
  rw [← hR]
  unfold File.refBound at hR
  have HMS := Lib.hid hms
  clear hms
  by_cases hl : rs.length = a.length
  · have hq : ((rs.length : Int) != (a.length : Int)) = false := by simp; omega
    obtain ⟨XS, hXS⟩ : ∃ XS, XS = rs.map Rw.xs := ⟨_, rfl⟩
    rw [← hXS] at hR
    have hXl : XS.length = a.length := by rw [hXS, List.length_map]; exact hl
    have HX : Hid (∀ (k : Nat) (r : Rw Int), rs[k]? = some r → XS[k]? = some r.xs) := Lib.hid fun k r h => by rw [hXS]; exact map_at h
    have HR := Lib.hid hR
    have HXL := Lib.hid hXl
    clear hXS hR hXl
    go_enter Tryd.func13, Tryd.ntmps13
    go_wp2_with fail
    go_loopw [8] (fun v wr => ∃ i : Nat, i ≤ rs.length ∧ v = iv (i : Int) ∧ Hid (((XS.drop i).all fun l => decide (l.length = b.length)) = XS.all fun l => decide (l.length = b.length)) ∧ Below w.heap.size w wr) (fun v _ => rs.length - (intOf v).toNat)
    case atStart => exact ⟨0, Nat.zero_le _, rfl, rfl, Below.refl _ _⟩
    case round =>
      obtain ⟨i, hi, rfl, HA, hbr⟩ := hrel
      by_cases hlt : i < rs.length
      · have hii : (i : Int) < (rs.length : Int) := by omega
        obtain ⟨bR, oR, r, rfl, hbR, hr, hcR⟩ := Sl.atRw (hsr.below hbr) hlt
        have hrb := HMS.out r (mem_at hr)
        unfold big at hrb
        have hA := HA.out
        rw [drop_at (HX.out i r hr), List.all_cons] at hA
        by_cases he : r.xs.length = b.length
        · have hq2 : ((r.xs.length : Int) != (b.length : Int)) = false := by simp; omega
          have HN : Hid (((XS.drop (i + 1)).all fun l => decide (l.length = b.length)) = XS.all fun l => decide (l.length = b.length)) := Lib.hid (by rw [← hA, decide_eq_true he, Bool.true_and])
          clear hA HA hr he
          go_wp2_with fail
          go_roundw
          case rel => exact ⟨i + 1, by omega, by go_num, HN, hbr⟩
          case measure => simp [intOf]; omega
        · have hq2 : ((r.xs.length : Int) != (b.length : Int)) = true := by simp; omega
          have HN : Hid (R = (0, 2)) := Lib.hid (by
            rw [HR.out, if_neg]
            rintro ⟨_, h⟩
            rw [← hA, decide_eq_false he, Bool.false_and] at h
            cases h)
          clear hA HA hr he
          go_wp2_with fail
          go_ret2
          exact ⟨by rw [HN.out]; rfl, hbr⟩
      · have hii : ¬ (i : Int) < (rs.length : Int) := by omega
        have hA := HA.out
        rw [List.drop_eq_nil_of_le (by have := HXL.out; omega)] at hA
        have hR2 := HR.out
        rw [if_pos ⟨HXL.out, hA.symm⟩] at hR2
        have HLN : Hid (∀ r ∈ rs, r.xs.length = b.length) := Lib.hid fun r hr => by
          obtain ⟨k, hk⟩ := List.getElem?_of_mem hr
          have := List.all_eq_true.1 hA.symm r.xs (mem_at (HX.out k r hk))
          simpa using this
        have HR2 := Lib.hid hR2
        clear hA HA hR2 HR HMS
        generalize wr = w1 at *
        go_wp2_with fail
        go_loopw [9, 10] (fun v _ wr => ∃ i : Nat, i ≤ a.length ∧ v = iv (i : Int) ∧ Hid (((XS.drop i).all fun l => l.all File.inr) = XS.all fun l => l.all File.inr) ∧ Below w.heap.size w wr) (fun v _ _ => a.length - (intOf v).toNat)
        case atStart => exact ⟨0, Nat.zero_le _, rfl, rfl, hbr⟩
        case round =>
          clear hbr
          obtain ⟨i, hi, rfl, HA, hbr⟩ := hrel
          by_cases hlt : i < a.length
          · have hii : (i : Int) < (a.length : Int) := by omega
            have hirs : (i : Int) < (rs.length : Int) := by omega
            obtain ⟨bR, oR, r, rfl, hbR, hr, hcR⟩ := Sl.atRw (hsr.below hbr) (show i < rs.length by omega)
            have hrl := HLN.out r (mem_at hr)
            have hA := HA.out
            rw [drop_at (HX.out i r hr), List.all_cons] at hA
            have HCR := Lib.hid (Sl.cellRw (hsr.below hbr) hr)
            have HRR : Hid (∀ W, Below w.heap.size w W → Sl intE W r.A r.xs) := Lib.hid fun W h => (hrr r (mem_at hr)).1.below h
            obtain ⟨RA, RC, rx⟩ := r
            simp only at hrl hA HCR HRR
            have HA2 := Lib.hid hA
            have HRL := Lib.hid hrl
            clear hA HA hr hcR hrl
            have hbi := hbr
            generalize wr = w2 at *
            go_wp2_with fail
            go_loopw [10] (fun v wx => ∃ j : Nat, j ≤ b.length ∧ v = iv (j : Int) ∧ Hid (((rx.drop j).all File.inr && ((XS.drop (i + 1)).all fun l => l.all File.inr)) = XS.all fun l => l.all File.inr) ∧ Below w2.heap.size w2 wx) (fun v _ => b.length - (intOf v).toNat)
            case atStart => exact ⟨0, Nat.zero_le _, rfl, HA2, Below.refl _ _⟩
            case round =>
              clear HA2
              obtain ⟨j, hj, rfl, HA, hbx⟩ := hrel
              have hb0 := hbi.next hbx (Nat.le_refl _)
              by_cases hlt2 : j < b.length
              · have hji : (j : Int) < (b.length : Int) := by omega
                have hjr : (j : Int) < (rx.length : Int) := by rw [HRL.out]; exact hji
                obtain ⟨bI, oI, n, rfl, hbI, hn, hcI⟩ := Sl.atI (HRR.out _ hb0) (show j < rx.length by rw [HRL.out]; exact hlt2)
                have hcR := HCR.out _ hbx
                have hA := HA.out
                rw [drop_at hn, List.all_cons] at hA
                by_cases h0 : n < 0
                · have HN : Hid (R = (0, 3)) := Lib.hid (by
                    rw [HR2.out, if_neg]
                    intro h
                    rw [← hA, show File.inr n = false by unfold File.inr; rw [decide_eq_false (by omega)]; rfl] at h
                    simp at h)
                  clear hA HA hn
                  go_wp2_with fail
                  go_ret2
                  exact ⟨by rw [HN.out]; rfl, hb0⟩
                · by_cases h24 : 24 < n
                  · have HN : Hid (R = (0, 3)) := Lib.hid (by
                      rw [HR2.out, if_neg]
                      intro h
                      rw [← hA, show File.inr n = false by unfold File.inr; rw [decide_eq_false (p := n ≤ 24) (by omega), Bool.and_false]] at h
                      simp at h)
                    clear hA HA hn
                    go_wp2_with fail
                    go_ret2
                    exact ⟨by rw [HN.out]; rfl, hb0⟩
                  · have HN : Hid (((rx.drop (j + 1)).all File.inr && ((XS.drop (i + 1)).all fun l => l.all File.inr)) = XS.all fun l => l.all File.inr) := Lib.hid (by
                      rw [← hA, show File.inr n = true by unfold File.inr; rw [decide_eq_true (by omega), decide_eq_true (by omega)]; rfl, Bool.true_and])
                    clear hA HA hn
                    go_wp2_with fail
                    go_roundw
                    case rel => exact ⟨j + 1, by omega, by go_num, HN, hbx⟩
                    case measure => simp [intOf]; omega
              · have hji : ¬ (j : Int) < (b.length : Int) := by omega
                have hA := HA.out
                rw [List.drop_eq_nil_of_le (by rw [HRL.out]; omega), List.all_nil, Bool.true_and] at hA
                have HN := Lib.hid hA
                clear hA HA
                go_wp2_with fail
                go_roundw
                case rel => exact ⟨i + 1, by omega, by go_num, HN, hb0⟩
                case measure => simp [intOf]; omega
          · have hii : ¬ (i : Int) < (a.length : Int) := by omega
            have hA := HA.out
            rw [List.drop_eq_nil_of_le (by have := HXL.out; omega)] at hA
            have hR3 := HR2.out
            rw [if_pos (show (XS.all fun l => l.all File.inr) = true from hA.symm)] at hR3
            have HR3 := Lib.hid hR3
            have HIN : Hid (∀ r ∈ rs, ∀ n ∈ r.xs, 0 ≤ n ∧ n ≤ 24) := Lib.hid fun r hr n hn => by
              obtain ⟨k, hk⟩ := List.getElem?_of_mem hr
              have := List.all_eq_true.1 (List.all_eq_true.1 hA.symm r.xs (mem_at (HX.out k r hk))) n hn
              unfold File.inr at this
              simpa using this
            clear hA HA hR3 HR2
            generalize wr = w3 at *
            go_wp2_with fail
            go_loopw [11, 12, 13, 14, 15, 16] (fun u v _ _ _ _ wr => ∃ (i m : Nat), i ≤ a.length ∧ u = iv (m : Int) ∧ v = iv (i : Int) ∧ m ≤ 24 ∧ Hid (File.levelsP (File.laterOk a b XS) i (m : Int) (XS.drop i) = R) ∧ Below w.heap.size w wr) (fun _ v _ _ _ _ _ => a.length - (intOf v).toNat)
            case atStart => exact ⟨0, 0, Nat.zero_le _, rfl, rfl, by omega, Lib.hid HR3.out.symm, hbr⟩
            case round =>
              clear hbr HR3
              obtain ⟨i, m, hi, rfl, rfl, hm24, HL, hbr⟩ := hrel
              by_cases hlt : i < a.length
              · have hii : (i : Int) < (a.length : Int) := by omega
                have hirs : (i : Int) < (rs.length : Int) := by omega
                obtain ⟨bR, oR, r, rfl, hbR, hr, hcR⟩ := Sl.atRw (hsr.below hbr) (show i < rs.length by omega)
                obtain ⟨ba, oa, sa, rfl, hba, hxa, hca⟩ := Sl.atS (hsa.below hbr) hlt
                have hrl := HLN.out r (mem_at hr)
                have hL := HL.out
                rw [drop_at (HX.out i r hr), File.levelsP] at hL
                have HCR := Lib.hid (Sl.cellRw (hsr.below hbr) hr)
                have HCA := Lib.hid (Sl.cellS (hsa.below hbr) hxa)
                have HRR : Hid (∀ W, Below w.heap.size w W → Sl intE W r.A r.xs) := Lib.hid fun W h => (hrr r (mem_at hr)).1.below h
                have HRI := Lib.hid (HIN.out r (mem_at hr))
                have HXA := Lib.hid hxa
                obtain ⟨RA, RC, rx⟩ := r
                simp only at hrl hL HCR HRR HRI
                have HL2 := Lib.hid hL
                have HRL := Lib.hid hrl
                clear hL HL hr hcR hrl hca hxa
                have hbi := hbr
                generalize wr = w2 at *
                go_wp2_with fail
                go_loopw [11, 13, 14, 15, 16] (fun u v _ _ _ wx => ∃ (j m : Nat), j ≤ b.length ∧ u = iv (m : Int) ∧ v = iv (j : Int) ∧ m ≤ 24 ∧ Hid ((match File.rowP (File.laterOk a b XS) i j (m : Int) (rx.drop j) with | some m => File.levelsP (File.laterOk a b XS) (i + 1) m (XS.drop (i + 1)) | none => (0, 8)) = R) ∧ Below w2.heap.size w2 wx) (fun _ v _ _ _ _ => b.length - (intOf v).toNat)
                case atStart => exact ⟨0, m, Nat.zero_le _, rfl, rfl, hm24, HL2, Below.refl _ _⟩
                case round =>
                  clear HL2
                  obtain ⟨j, m, hj, rfl, rfl, hm24, HL, hbx⟩ := hrel
                  have hb0 := hbi.next hbx (Nat.le_refl _)
                  by_cases hlt2 : j < b.length
                  · have hji : (j : Int) < (b.length : Int) := by omega
                    have hjr : (j : Int) < (rx.length : Int) := by rw [HRL.out]; exact hji
                    obtain ⟨bI, oI, n0, rfl, hbI, hn, hcI⟩ := Sl.atI (HRR.out _ hb0) (show j < rx.length by rw [HRL.out]; exact hlt2)
                    obtain ⟨bb, ob, sb, rfl, hbb, hxb, hcb⟩ := Sl.atS (hsb.below hb0) hlt2
                    have hcR := HCR.out _ hbx
                    have hnr := HRI.out n0 (mem_at hn)
                    obtain ⟨n, rfl⟩ : ∃ n : Nat, n0 = (n : Int) := ⟨n0.toNat, by omega⟩
                    have hn24 : n ≤ 24 := by omega
                    have hL := HL.out
                    rw [drop_at hn, File.rowP] at hL
                    have HL3 := Lib.hid hL
                    have HCB := Lib.hid (Sl.cellS (hsb.below hb0) hxb)
                    obtain ⟨q, hqs⟩ : ∃ q, (sa.toList == sb.toList) = q := ⟨_, rfl⟩
                    have hqd : q = decide (sa = sb) := by rw [← hqs, str_eq]
                    have HLI : Hid (File.laterOk a b XS i j (n : Int) = true ↔ ((n = 0 ↔ q = false) ∧ ∀ k l, i < k → k < a.length → j < l → l < b.length → Later a b XS i j (n : Int) k l)) := Lib.hid (by
                      rw [File.later_iff, HXA.out, hxb, hqd]
                      refine and_congr ?_ Iff.rfl
                      rw [decide_eq_false_iff_not]
                      constructor <;> intro h <;> constructor <;> intro h1
                      · exact fun e => (h.1 (by omega)) (by rw [e])
                      · have := h.2 (fun e => h1 (Option.some.inj e)); omega
                      · intro e
                        exact (h.1 (by omega)) (Option.some.inj e)
                      · have := h.2 (fun e => h1 (by rw [e])); omega)
                    clear hL HL hn hxb hcb hnr
                    have HBD : Hid (∀ k l, i < k → k < a.length → j < l → l < b.length → ¬ Later a b XS i j (n : Int) k l → R = (0, 8)) := Lib.hid fun k l h1 h2 h3 h4 h5 => by
                      rw [← HL3.out, if_neg]
                      intro h
                      exact h5 ((HLI.out.1 h).2 k l h1 h2 h3 h4)
                    obtain ⟨q', hqn⟩ : ∃ q', (sa.toList != sb.toList) = q' := ⟨_, rfl⟩
                    obtain ⟨z, hz1⟩ : ∃ z, ((n : Int) == 0) = z := ⟨_, rfl⟩
                    obtain ⟨z', hz2⟩ : ∃ z', ((n : Int) != 0) = z' := ⟨_, rfl⟩
                    have hqq : q' = !q := by rw [← hqn, ← hqs]; rfl
                    have hzz : z' = !z := by rw [← hz1, ← hz2]; rfl
                    have hzn : z = decide (n = 0) := by rw [← hz1, Bool.eq_iff_iff]; simp
                    clear hqd
                    rcases Bool.eq_false_or_eq_true q with hqv | hqv
                    rotate_left
                    · have hqw : q' = true := by rw [hqq, hqv]; rfl
                      by_cases hn0 : n = 0
                      · have hzv : z = true := by rw [hzn]; exact decide_eq_true hn0
                        have hzw : z' = false := by rw [hzz, hzv]; rfl
                        clear hqq hzz hzn
                        have HOK : Hid ((∀ k l, i < k → k < a.length → j < l → l < b.length → Later a b XS i j (n : Int) k l) → (match File.rowP (File.laterOk a b XS) i (j + 1) (max (m : Int) (n : Int)) (rx.drop (j + 1)) with | some m => File.levelsP (File.laterOk a b XS) (i + 1) m (XS.drop (i + 1)) | none => (0, 8)) = R) := Lib.hid fun h => by
                          rw [← HL3.out, if_pos (HLI.out.2 ⟨⟨fun _ => hqv, fun _ => hn0⟩, h⟩)]
                        clear hn0
                        go_upto_region 24 with fail
                        refine wp_free_lit (by kernel_rfl) 28 (by kernel_rfl) (by kernel_rfl) (by decide) (fun _ x => Below wr.heap.size wr x) (fun x x' => Below x.heap.size x x')
                          [fun _ u _ => u = .slice (some ⟨ba, oa, none⟩) a.length c,
                           fun _ u _ => u = iv (i : Int),
                           fun _ u _ => u = .pointer (some ⟨ba, oa + i, none⟩),
                           fun _ u _ => u = .string sa,
                           fun _ u _ => u = .slice (some ⟨bb, ob, none⟩) b.length c',
                           fun _ u _ => u = iv (j : Int),
                           fun _ u _ => u = .pointer (some ⟨bb, ob + j, none⟩),
                           fun _ u _ => u = .string sb,
                           fun _ u _ => u = .bool q',
                           fun _ u _ => u = .bool q',
                           fun _ u _ => u = iv (n : Int),
                           fun _ u _ => u = .bool z',
                           fun _ u _ => u = .bool false,
                           fun _ u _ => u = .bool false,
                           fun _ u _ => u = .slice (some ⟨ba, oa, none⟩) a.length c,
                           fun _ u _ => u = iv (i : Int),
                           fun _ u _ => u = .pointer (some ⟨ba, oa + i, none⟩),
                           fun _ u _ => u = .string sa,
                           fun _ u _ => u = .slice (some ⟨bb, ob, none⟩) b.length c',
                           fun _ u _ => u = iv (j : Int),
                           fun _ u _ => u = .pointer (some ⟨bb, ob + j, none⟩),
                           fun _ u _ => u = .string sb,
                           fun _ u _ => u = .bool q,
                           fun _ u _ => u = .bool q,
                           fun _ u _ => u = undef,
                           fun _ u _ => u = undef,
                           fun _ u _ => u = .bool false,
                           fun _ u _ => u = .bool false]
                          (Below.refl _ wr).drew ?_ ?_
                        · simp only [List.take_succ_cons, List.take_zero, HopL]
                          refine ⟨?_, ?_, ?_, ?_, ?_, ?_, ?_, ?_, ?_, ?_, ?_, ?_, ?_, ?_, ?_, ?_, ?_, ?_, ?_, ?_, ?_, ?_, ?_, ?_, ?_, ?_, ?_, ?_, trivial⟩
                          · refine ⟨fun _ _ _ _ _ h => h, fun _ _ _ _ h _ => h, fun v nR x hnR hR hk => ?_⟩
                            simp only [List.take_succ_cons, List.take_zero, frameF, Act.put, List.setIfInBounds_toArray, List.set_cons_zero, List.set_cons_succ]
                            exact stepF_val (by first | rfl | simp [Region.wanted, yielded, *]) (by go_simp <;> omega) ⟨rfl, Below.refl _ _, hR⟩
                          · refine ⟨fun _ _ _ _ _ h => h, fun _ _ _ _ h _ => h, fun v nR x hnR hR hk => ?_⟩
                            simp only [List.take_succ_cons, List.take_zero, frameF, Act.put, List.setIfInBounds_toArray, List.set_cons_zero, List.set_cons_succ]
                            exact stepF_val (by first | rfl | simp [Region.wanted, yielded, *]) (by go_simp <;> omega) ⟨rfl, Below.refl _ _, hR⟩
                          · refine ⟨fun _ _ _ _ _ h => h, fun _ _ _ _ h _ => h, fun v nR x hnR hR hk => ?_⟩
                            have h0 : v 0 = .slice (some ⟨ba, oa, none⟩) a.length c := hk 0 (by kernel_rfl)
                            have h1 : v 1 = iv (i : Int) := hk 1 (by kernel_rfl)
                            simp only [List.take_succ_cons, List.take_zero, frameF, Act.put, List.setIfInBounds_toArray, List.set_cons_zero, List.set_cons_succ]
                            exact stepF_val (by first | rfl | simp [Region.wanted, yielded, *]) (by go_simp <;> omega) ⟨rfl, Below.refl _ _, hR⟩
                          · refine ⟨fun _ _ _ _ _ h => h, fun _ _ _ _ h _ => h, fun v nR x hnR hR hk => ?_⟩
                            have h2 : v 2 = .pointer (some ⟨ba, oa + i, none⟩) := hk 2 (by kernel_rfl)
                            have g1 := HCA.out x (hbx.next hR (Nat.le_refl _))
                            simp only [List.take_succ_cons, List.take_zero, frameF, Act.put, List.setIfInBounds_toArray, List.set_cons_zero, List.set_cons_succ]
                            exact stepF_val (by first | rfl | simp [Region.wanted, yielded, *]) (by go_simp <;> omega) ⟨rfl, Below.refl _ _, hR⟩
                          · refine ⟨fun _ _ _ _ _ h => h, fun _ _ _ _ h _ => h, fun v nR x hnR hR hk => ?_⟩
                            simp only [List.take_succ_cons, List.take_zero, frameF, Act.put, List.setIfInBounds_toArray, List.set_cons_zero, List.set_cons_succ]
                            exact stepF_val (by first | rfl | simp [Region.wanted, yielded, *]) (by go_simp <;> omega) ⟨rfl, Below.refl _ _, hR⟩
                          · refine ⟨fun _ _ _ _ _ h => h, fun _ _ _ _ h _ => h, fun v nR x hnR hR hk => ?_⟩
                            simp only [List.take_succ_cons, List.take_zero, frameF, Act.put, List.setIfInBounds_toArray, List.set_cons_zero, List.set_cons_succ]
                            exact stepF_val (by first | rfl | simp [Region.wanted, yielded, *]) (by go_simp <;> omega) ⟨rfl, Below.refl _ _, hR⟩
                          · refine ⟨fun _ _ _ _ _ h => h, fun _ _ _ _ h _ => h, fun v nR x hnR hR hk => ?_⟩
                            have h4 : v 4 = .slice (some ⟨bb, ob, none⟩) b.length c' := hk 4 (by kernel_rfl)
                            have h5 : v 5 = iv (j : Int) := hk 5 (by kernel_rfl)
                            simp only [List.take_succ_cons, List.take_zero, frameF, Act.put, List.setIfInBounds_toArray, List.set_cons_zero, List.set_cons_succ]
                            exact stepF_val (by first | rfl | simp [Region.wanted, yielded, *]) (by go_simp <;> omega) ⟨rfl, Below.refl _ _, hR⟩
                          · refine ⟨fun _ _ _ _ _ h => h, fun _ _ _ _ h _ => h, fun v nR x hnR hR hk => ?_⟩
                            have h6 : v 6 = .pointer (some ⟨bb, ob + j, none⟩) := hk 6 (by kernel_rfl)
                            have g1 := HCB.out x hR
                            simp only [List.take_succ_cons, List.take_zero, frameF, Act.put, List.setIfInBounds_toArray, List.set_cons_zero, List.set_cons_succ]
                            exact stepF_val (by first | rfl | simp [Region.wanted, yielded, *]) (by go_simp <;> omega) ⟨rfl, Below.refl _ _, hR⟩
                          · refine ⟨fun _ _ _ _ _ h => h, fun _ _ _ _ h _ => h, fun v nR x hnR hR hk => ?_⟩
                            have h3 : v 3 = .string sa := hk 3 (by kernel_rfl)
                            have h7 : v 7 = .string sb := hk 7 (by kernel_rfl)
                            simp only [List.take_succ_cons, List.take_zero, frameF, Act.put, List.setIfInBounds_toArray, List.set_cons_zero, List.set_cons_succ]
                            exact stepF_val (by first | rfl | simp [Region.wanted, yielded, *]) (by go_simp <;> omega) ⟨rfl, Below.refl _ _, hR⟩
                          · refine ⟨fun _ _ _ _ _ h => h, fun _ _ _ _ h _ => h, fun v nR x hnR hR hk => ?_⟩
                            have h8 : v 8 = .bool q' := hk 8 (by kernel_rfl)
                            simp only [List.take_succ_cons, List.take_zero, frameF, Act.put, List.setIfInBounds_toArray, List.set_cons_zero, List.set_cons_succ]
                            exact stepF_val (by first | rfl | simp [Region.wanted, yielded, *]) (by go_simp <;> omega) ⟨rfl, Below.refl _ _, hR⟩
                          · refine ⟨fun _ _ _ _ _ h => h, fun _ _ _ _ h _ => h, fun v nR x hnR hR hk => ?_⟩
                            have h9 : v 9 = .bool q' := hk 9 (by kernel_rfl)
                            simp only [List.take_succ_cons, List.take_zero, frameF, Act.put, List.setIfInBounds_toArray, List.set_cons_zero, List.set_cons_succ]
                            exact stepF_val (by first | rfl | simp [Region.wanted, yielded, *]) (by go_simp <;> omega) ⟨rfl, Below.refl _ _, hR⟩
                          · refine ⟨fun _ _ _ _ _ h => h, fun _ _ _ _ h _ => h, fun v nR x hnR hR hk => ?_⟩
                            have h10 : v 10 = iv (n : Int) := hk 10 (by kernel_rfl)
                            have h9 : v 9 = .bool q' := hk 9 (by kernel_rfl)
                            simp only [List.take_succ_cons, List.take_zero, frameF, Act.put, List.setIfInBounds_toArray, List.set_cons_zero, List.set_cons_succ]
                            exact stepF_val (by first | rfl | simp [Region.wanted, yielded, *]) (by go_simp <;> omega) ⟨rfl, Below.refl _ _, hR⟩
                          · refine ⟨fun _ _ _ _ _ h => h, fun _ _ _ _ h _ => h, fun v nR x hnR hR hk => ?_⟩
                            have h9 : v 9 = .bool q' := hk 9 (by kernel_rfl)
                            have h11 : v 11 = .bool z' := hk 11 (by kernel_rfl)
                            simp only [List.take_succ_cons, List.take_zero, frameF, Act.put, List.setIfInBounds_toArray, List.set_cons_zero, List.set_cons_succ]
                            exact stepF_val (by first | rfl | simp [Region.wanted, yielded, *]) (by go_simp <;> omega) ⟨rfl, Below.refl _ _, hR⟩
                          · refine ⟨fun _ _ _ _ _ h => h, fun _ _ _ _ h _ => h, fun v nR x hnR hR hk => ?_⟩
                            have h12 : v 12 = .bool false := hk 12 (by kernel_rfl)
                            simp only [List.take_succ_cons, List.take_zero, frameF, Act.put, List.setIfInBounds_toArray, List.set_cons_zero, List.set_cons_succ]
                            exact stepF_val (by first | rfl | simp [Region.wanted, yielded, *]) (by go_simp <;> omega) ⟨rfl, Below.refl _ _, hR⟩
                          · refine ⟨fun _ _ _ _ _ h => h, fun _ _ _ _ h _ => h, fun v nR x hnR hR hk => ?_⟩
                            have h13 : v 13 = .bool false := hk 13 (by kernel_rfl)
                            simp only [List.take_succ_cons, List.take_zero, frameF, Act.put, List.setIfInBounds_toArray, List.set_cons_zero, List.set_cons_succ]
                            exact stepF_val (by first | rfl | simp [Region.wanted, yielded, *]) (by go_simp <;> omega) ⟨rfl, Below.refl _ _, hR⟩
                          · refine ⟨fun _ _ _ _ _ h => h, fun _ _ _ _ h _ => h, fun v nR x hnR hR hk => ?_⟩
                            have h13 : v 13 = .bool false := hk 13 (by kernel_rfl)
                            simp only [List.take_succ_cons, List.take_zero, frameF, Act.put, List.setIfInBounds_toArray, List.set_cons_zero, List.set_cons_succ]
                            exact stepF_val (by first | rfl | simp [Region.wanted, yielded, *]) (by go_simp <;> omega) ⟨rfl, Below.refl _ _, hR⟩
                          · refine ⟨fun _ _ _ _ _ h => h, fun _ _ _ _ h _ => h, fun v nR x hnR hR hk => ?_⟩
                            have h14 : v 14 = .slice (some ⟨ba, oa, none⟩) a.length c := hk 14 (by kernel_rfl)
                            have h15 : v 15 = iv (i : Int) := hk 15 (by kernel_rfl)
                            have h13 : v 13 = .bool false := hk 13 (by kernel_rfl)
                            simp only [List.take_succ_cons, List.take_zero, frameF, Act.put, List.setIfInBounds_toArray, List.set_cons_zero, List.set_cons_succ]
                            exact stepF_val (by first | rfl | simp [Region.wanted, yielded, *]) (by go_simp <;> omega) ⟨rfl, Below.refl _ _, hR⟩
                          · refine ⟨fun _ _ _ _ _ h => h, fun _ _ _ _ h _ => h, fun v nR x hnR hR hk => ?_⟩
                            have h16 : v 16 = .pointer (some ⟨ba, oa + i, none⟩) := hk 16 (by kernel_rfl)
                            have h13 : v 13 = .bool false := hk 13 (by kernel_rfl)
                            have g1 := HCA.out x (hbx.next hR (Nat.le_refl _))
                            simp only [List.take_succ_cons, List.take_zero, frameF, Act.put, List.setIfInBounds_toArray, List.set_cons_zero, List.set_cons_succ]
                            exact stepF_val (by first | rfl | simp [Region.wanted, yielded, *]) (by go_simp <;> omega) ⟨rfl, Below.refl _ _, hR⟩
                          · refine ⟨fun _ _ _ _ _ h => h, fun _ _ _ _ h _ => h, fun v nR x hnR hR hk => ?_⟩
                            have h13 : v 13 = .bool false := hk 13 (by kernel_rfl)
                            simp only [List.take_succ_cons, List.take_zero, frameF, Act.put, List.setIfInBounds_toArray, List.set_cons_zero, List.set_cons_succ]
                            exact stepF_val (by first | rfl | simp [Region.wanted, yielded, *]) (by go_simp <;> omega) ⟨rfl, Below.refl _ _, hR⟩
                          · refine ⟨fun _ _ _ _ _ h => h, fun _ _ _ _ h _ => h, fun v nR x hnR hR hk => ?_⟩
                            have h13 : v 13 = .bool false := hk 13 (by kernel_rfl)
                            simp only [List.take_succ_cons, List.take_zero, frameF, Act.put, List.setIfInBounds_toArray, List.set_cons_zero, List.set_cons_succ]
                            exact stepF_val (by first | rfl | simp [Region.wanted, yielded, *]) (by go_simp <;> omega) ⟨rfl, Below.refl _ _, hR⟩
                          · refine ⟨fun _ _ _ _ _ h => h, fun _ _ _ _ h _ => h, fun v nR x hnR hR hk => ?_⟩
                            have h18 : v 18 = .slice (some ⟨bb, ob, none⟩) b.length c' := hk 18 (by kernel_rfl)
                            have h19 : v 19 = iv (j : Int) := hk 19 (by kernel_rfl)
                            have h13 : v 13 = .bool false := hk 13 (by kernel_rfl)
                            simp only [List.take_succ_cons, List.take_zero, frameF, Act.put, List.setIfInBounds_toArray, List.set_cons_zero, List.set_cons_succ]
                            exact stepF_val (by first | rfl | simp [Region.wanted, yielded, *]) (by go_simp <;> omega) ⟨rfl, Below.refl _ _, hR⟩
                          · refine ⟨fun _ _ _ _ _ h => h, fun _ _ _ _ h _ => h, fun v nR x hnR hR hk => ?_⟩
                            have h20 : v 20 = .pointer (some ⟨bb, ob + j, none⟩) := hk 20 (by kernel_rfl)
                            have h13 : v 13 = .bool false := hk 13 (by kernel_rfl)
                            have g1 := HCB.out x hR
                            simp only [List.take_succ_cons, List.take_zero, frameF, Act.put, List.setIfInBounds_toArray, List.set_cons_zero, List.set_cons_succ]
                            exact stepF_val (by first | rfl | simp [Region.wanted, yielded, *]) (by go_simp <;> omega) ⟨rfl, Below.refl _ _, hR⟩
                          · refine ⟨fun _ _ _ _ _ h => h, fun _ _ _ _ h _ => h, fun v nR x hnR hR hk => ?_⟩
                            have h17 : v 17 = .string sa := hk 17 (by kernel_rfl)
                            have h21 : v 21 = .string sb := hk 21 (by kernel_rfl)
                            have h13 : v 13 = .bool false := hk 13 (by kernel_rfl)
                            simp only [List.take_succ_cons, List.take_zero, frameF, Act.put, List.setIfInBounds_toArray, List.set_cons_zero, List.set_cons_succ]
                            exact stepF_val (by first | rfl | simp [Region.wanted, yielded, *]) (by go_simp <;> omega) ⟨rfl, Below.refl _ _, hR⟩
                          · refine ⟨fun _ _ _ _ _ h => h, fun _ _ _ _ h _ => h, fun v nR x hnR hR hk => ?_⟩
                            have h22 : v 22 = .bool q := hk 22 (by kernel_rfl)
                            have h13 : v 13 = .bool false := hk 13 (by kernel_rfl)
                            simp only [List.take_succ_cons, List.take_zero, frameF, Act.put, List.setIfInBounds_toArray, List.set_cons_zero, List.set_cons_succ]
                            exact stepF_val (by first | rfl | simp [Region.wanted, yielded, *]) (by go_simp <;> omega) ⟨rfl, Below.refl _ _, hR⟩
                          · refine ⟨fun _ _ _ _ _ h => h, fun _ _ _ _ h _ => h, fun v nR x hnR hR hk => ?_⟩
                            have h23 : v 23 = .bool q := hk 23 (by kernel_rfl)
                            simp only [List.take_succ_cons, List.take_zero, frameF, Act.put, List.setIfInBounds_toArray, List.set_cons_zero, List.set_cons_succ]
                            exact stepF_out (by first | rfl | (simp [Region.wanted, yielded, *]; done) | (simp [Region.wanted, yielded, undef, *]; done)) ⟨rfl, Below.refl _ _, hR⟩
                          · refine ⟨fun _ _ _ _ _ h => h, fun _ _ _ _ h _ => h, fun v nR x hnR hR hk => ?_⟩
                            have h23 : v 23 = .bool q := hk 23 (by kernel_rfl)
                            simp only [List.take_succ_cons, List.take_zero, frameF, Act.put, List.setIfInBounds_toArray, List.set_cons_zero, List.set_cons_succ]
                            exact stepF_out (by first | rfl | (simp [Region.wanted, yielded, *]; done) | (simp [Region.wanted, yielded, undef, *]; done)) ⟨rfl, Below.refl _ _, hR⟩
                          · refine ⟨fun _ _ _ _ _ h => h, fun _ _ _ _ h _ => h, fun v nR x hnR hR hk => ?_⟩
                            have h23 : v 23 = .bool q := hk 23 (by kernel_rfl)
                            have h25 : v 25 = undef := hk 25 (by kernel_rfl)
                            have h13 : v 13 = .bool false := hk 13 (by kernel_rfl)
                            simp only [List.take_succ_cons, List.take_zero, frameF, Act.put, List.setIfInBounds_toArray, List.set_cons_zero, List.set_cons_succ]
                            exact stepF_val (by first | rfl | simp [Region.wanted, yielded, *]) (by go_simp <;> omega) ⟨rfl, Below.refl _ _, hR⟩
                          · refine ⟨fun _ _ _ _ _ h => h, fun _ _ _ _ h _ => h, fun v nR x hnR hR hk => ?_⟩
                            have h13 : v 13 = .bool false := hk 13 (by kernel_rfl)
                            have h26 : v 26 = .bool false := hk 26 (by kernel_rfl)
                            simp only [List.take_succ_cons, List.take_zero, frameF, Act.put, List.setIfInBounds_toArray, List.set_cons_zero, List.set_cons_succ]
                            exact stepF_val (by first | rfl | simp [Region.wanted, yielded, *]) (by go_simp <;> omega) ⟨rfl, Below.refl _ _, hR⟩
                        · intro v nR x1 hnR hR hall
                          have h27 : v 27 = .bool false := hall 27 (by decide)
                          clear hall hnR
                          simp only [List.drop_succ_cons, List.drop_zero, List.take_succ_cons, List.take_zero, frameF, Act.put, List.setIfInBounds_toArray, List.set_cons_zero, List.set_cons_succ, Nat.zero_add, Nat.reduceAdd, h27]
                          have hb01 := hb0.next hR (Nat.le_refl _)
                          have hb21 := hbx.next hR (Nat.le_refl _)
                          clear hR
                          go_wp2_with fail
                          go_loopw [15, 16] (fun v _ wk => ∃ k : Nat, i < k ∧ k ≤ a.length ∧ v = iv (k : Int) ∧ Hid (∀ k' l, i < k' → k' < k → j < l → l < b.length → Later a b XS i j (n : Int) k' l) ∧ Below x1.heap.size x1 wk) (fun v _ _ => a.length - (intOf v).toNat)
                          case atStart => exact ⟨i + 1, by omega, by omega, by go_num, Lib.hid fun k' l h1 h2 => absurd h2 (by omega), Below.refl _ _⟩
                          case round =>
                            obtain ⟨k, hik, hk, rfl, HK, hbk⟩ := hrel
                            by_cases hlt3 : k < a.length
                            · have hki : (k : Int) < (a.length : Int) := by omega
                              have hkrs : (k : Int) < (rs.length : Int) := by omega
                              go_wp2_with fail
                              go_loopw [16] (fun v wl => ∃ l : Nat, j < l ∧ l ≤ b.length ∧ v = iv (l : Int) ∧ Hid (∀ l', j < l' → l' < l → Later a b XS i j (n : Int) k l') ∧ Below x1.heap.size x1 wl) (fun v _ => b.length - (intOf v).toNat)
                              case atStart => exact ⟨j + 1, by omega, by omega, by go_num, Lib.hid fun l' h1 h2 => absurd h2 (by omega), hbk⟩
                              case round =>
                                clear hbk
                                obtain ⟨l, hjl, hl2, rfl, HLL, hbl⟩ := hrel
                                have hb0l := hb01.next hbl (Nat.le_refl _)
                                by_cases hlt4 : l < b.length
                                · have hli : (l : Int) < (b.length : Int) := by omega
                                  have ewl : IntKind.i64.wrap ((l : Int) + 1) = (l : Int) + 1 := IntWalk.i64_in _ (by omega)
                                  by_cases hn0 : n = 0
                                  · have hng : ¬ (0 : Int) < (n : Int) := by omega
                                    have hng' : ¬ 0 < n := by omega
                                    clear hn0
                                    have HLN2 : Hid (∀ l', j < l' → l' < l + 1 → Later a b XS i j (n : Int) k l') := Lib.hid fun l' h1 h2 h3 => absurd h3 hng
                                    go_upto_region 32 with fail
                                    refine wp_free_lit (by kernel_rfl) 24 (by kernel_rfl) (by kernel_rfl) (by decide) (fun _ x => Below wr.heap.size wr x) (fun x x' => Below x.heap.size x x')
                                      [fun _ u _ => u = iv (n : Int),
                                       fun _ u _ => u = .bool false,
                                       fun _ u _ => u = .bool false,
                                       fun _ u _ => u = undef,
                                       fun _ u _ => u = undef,
                                       fun _ u _ => u = undef,
                                       fun _ u _ => u = undef,
                                       fun _ u _ => u = undef,
                                       fun _ u _ => u = undef,
                                       fun _ u _ => u = undef,
                                       fun _ u _ => u = undef,
                                       fun _ u _ => u = undef,
                                       fun _ u _ => u = .bool false,
                                       fun _ u _ => u = .bool false,
                                       fun _ u _ => u = undef,
                                       fun _ u _ => u = undef,
                                       fun _ u _ => u = undef,
                                       fun _ u _ => u = undef,
                                       fun _ u _ => u = undef,
                                       fun _ u _ => u = undef,
                                       fun _ u _ => u = undef,
                                       fun _ u _ => u = undef,
                                       fun _ u _ => u = undef,
                                       fun _ u _ => u = .bool false]
                                      (Below.refl _ wr).drew ?_ ?_
                                    · simp only [List.take_succ_cons, List.take_zero, HopL]
                                      refine ⟨?_, ?_, ?_, ?_, ?_, ?_, ?_, ?_, ?_, ?_, ?_, ?_, ?_, ?_, ?_, ?_, ?_, ?_, ?_, ?_, ?_, ?_, ?_, ?_, trivial⟩
                                      · refine ⟨fun _ _ _ _ _ h => h, fun _ _ _ _ h _ => h, fun v nR x hnR hR hk => ?_⟩
                                        simp only [List.take_succ_cons, List.take_zero, frameF, Act.put, List.setIfInBounds_toArray, List.set_cons_zero, List.set_cons_succ]
                                        exact stepF_val (by first | rfl | simp [Region.wanted, yielded, *]) (by go_simp <;> omega) ⟨rfl, Below.refl _ _, hR⟩
                                      · refine ⟨fun _ _ _ _ _ h => h, fun _ _ _ _ h _ => h, fun v nR x hnR hR hk => ?_⟩
                                        have h0 : v 0 = iv (n : Int) := hk 0 (by kernel_rfl)
                                        simp only [List.take_succ_cons, List.take_zero, frameF, Act.put, List.setIfInBounds_toArray, List.set_cons_zero, List.set_cons_succ]
                                        exact stepF_val (by first | rfl | simp [Region.wanted, yielded, *]) (by go_simp <;> omega) ⟨rfl, Below.refl _ _, hR⟩
                                      · refine ⟨fun _ _ _ _ _ h => h, fun _ _ _ _ h _ => h, fun v nR x hnR hR hk => ?_⟩
                                        have h1 : v 1 = .bool false := hk 1 (by kernel_rfl)
                                        simp only [List.take_succ_cons, List.take_zero, frameF, Act.put, List.setIfInBounds_toArray, List.set_cons_zero, List.set_cons_succ]
                                        exact stepF_val (by first | rfl | simp [Region.wanted, yielded, *]) (by go_simp <;> omega) ⟨rfl, Below.refl _ _, hR⟩
                                      · refine ⟨fun _ _ _ _ _ h => h, fun _ _ _ _ h _ => h, fun v nR x hnR hR hk => ?_⟩
                                        have h2 : v 2 = .bool false := hk 2 (by kernel_rfl)
                                        simp only [List.take_succ_cons, List.take_zero, frameF, Act.put, List.setIfInBounds_toArray, List.set_cons_zero, List.set_cons_succ]
                                        exact stepF_out (by first | rfl | (simp [Region.wanted, yielded, *]; done) | (simp [Region.wanted, yielded, undef, *]; done)) ⟨rfl, Below.refl _ _, hR⟩
                                      · refine ⟨fun _ _ _ _ _ h => h, fun _ _ _ _ h _ => h, fun v nR x hnR hR hk => ?_⟩
                                        have h2 : v 2 = .bool false := hk 2 (by kernel_rfl)
                                        simp only [List.take_succ_cons, List.take_zero, frameF, Act.put, List.setIfInBounds_toArray, List.set_cons_zero, List.set_cons_succ]
                                        exact stepF_out (by first | rfl | (simp [Region.wanted, yielded, *]; done) | (simp [Region.wanted, yielded, undef, *]; done)) ⟨rfl, Below.refl _ _, hR⟩
                                      · refine ⟨fun _ _ _ _ _ h => h, fun _ _ _ _ h _ => h, fun v nR x hnR hR hk => ?_⟩
                                        have h2 : v 2 = .bool false := hk 2 (by kernel_rfl)
                                        simp only [List.take_succ_cons, List.take_zero, frameF, Act.put, List.setIfInBounds_toArray, List.set_cons_zero, List.set_cons_succ]
                                        exact stepF_out (by first | rfl | (simp [Region.wanted, yielded, *]; done) | (simp [Region.wanted, yielded, undef, *]; done)) ⟨rfl, Below.refl _ _, hR⟩
                                      · refine ⟨fun _ _ _ _ _ h => h, fun _ _ _ _ h _ => h, fun v nR x hnR hR hk => ?_⟩
                                        have h2 : v 2 = .bool false := hk 2 (by kernel_rfl)
                                        simp only [List.take_succ_cons, List.take_zero, frameF, Act.put, List.setIfInBounds_toArray, List.set_cons_zero, List.set_cons_succ]
                                        exact stepF_out (by first | rfl | (simp [Region.wanted, yielded, *]; done) | (simp [Region.wanted, yielded, undef, *]; done)) ⟨rfl, Below.refl _ _, hR⟩
                                      · refine ⟨fun _ _ _ _ _ h => h, fun _ _ _ _ h _ => h, fun v nR x hnR hR hk => ?_⟩
                                        have h2 : v 2 = .bool false := hk 2 (by kernel_rfl)
                                        simp only [List.take_succ_cons, List.take_zero, frameF, Act.put, List.setIfInBounds_toArray, List.set_cons_zero, List.set_cons_succ]
                                        exact stepF_out (by first | rfl | (simp [Region.wanted, yielded, *]; done) | (simp [Region.wanted, yielded, undef, *]; done)) ⟨rfl, Below.refl _ _, hR⟩
                                      · refine ⟨fun _ _ _ _ _ h => h, fun _ _ _ _ h _ => h, fun v nR x hnR hR hk => ?_⟩
                                        have h2 : v 2 = .bool false := hk 2 (by kernel_rfl)
                                        simp only [List.take_succ_cons, List.take_zero, frameF, Act.put, List.setIfInBounds_toArray, List.set_cons_zero, List.set_cons_succ]
                                        exact stepF_out (by first | rfl | (simp [Region.wanted, yielded, *]; done) | (simp [Region.wanted, yielded, undef, *]; done)) ⟨rfl, Below.refl _ _, hR⟩
                                      · refine ⟨fun _ _ _ _ _ h => h, fun _ _ _ _ h _ => h, fun v nR x hnR hR hk => ?_⟩
                                        have h2 : v 2 = .bool false := hk 2 (by kernel_rfl)
                                        simp only [List.take_succ_cons, List.take_zero, frameF, Act.put, List.setIfInBounds_toArray, List.set_cons_zero, List.set_cons_succ]
                                        exact stepF_out (by first | rfl | (simp [Region.wanted, yielded, *]; done) | (simp [Region.wanted, yielded, undef, *]; done)) ⟨rfl, Below.refl _ _, hR⟩
                                      · refine ⟨fun _ _ _ _ _ h => h, fun _ _ _ _ h _ => h, fun v nR x hnR hR hk => ?_⟩
                                        have h2 : v 2 = .bool false := hk 2 (by kernel_rfl)
                                        simp only [List.take_succ_cons, List.take_zero, frameF, Act.put, List.setIfInBounds_toArray, List.set_cons_zero, List.set_cons_succ]
                                        exact stepF_out (by first | rfl | (simp [Region.wanted, yielded, *]; done) | (simp [Region.wanted, yielded, undef, *]; done)) ⟨rfl, Below.refl _ _, hR⟩
                                      · refine ⟨fun _ _ _ _ _ h => h, fun _ _ _ _ h _ => h, fun v nR x hnR hR hk => ?_⟩
                                        have h2 : v 2 = .bool false := hk 2 (by kernel_rfl)
                                        simp only [List.take_succ_cons, List.take_zero, frameF, Act.put, List.setIfInBounds_toArray, List.set_cons_zero, List.set_cons_succ]
                                        exact stepF_out (by first | rfl | (simp [Region.wanted, yielded, *]; done) | (simp [Region.wanted, yielded, undef, *]; done)) ⟨rfl, Below.refl _ _, hR⟩
                                      · refine ⟨fun _ _ _ _ _ h => h, fun _ _ _ _ h _ => h, fun v nR x hnR hR hk => ?_⟩
                                        have h2 : v 2 = .bool false := hk 2 (by kernel_rfl)
                                        have h11 : v 11 = undef := hk 11 (by kernel_rfl)
                                        simp only [List.take_succ_cons, List.take_zero, frameF, Act.put, List.setIfInBounds_toArray, List.set_cons_zero, List.set_cons_succ]
                                        exact stepF_val (by first | rfl | simp [Region.wanted, yielded, *]) (by go_simp <;> omega) ⟨rfl, Below.refl _ _, hR⟩
                                      · refine ⟨fun _ _ _ _ _ h => h, fun _ _ _ _ h _ => h, fun v nR x hnR hR hk => ?_⟩
                                        have h12 : v 12 = .bool false := hk 12 (by kernel_rfl)
                                        simp only [List.take_succ_cons, List.take_zero, frameF, Act.put, List.setIfInBounds_toArray, List.set_cons_zero, List.set_cons_succ]
                                        exact stepF_val (by first | rfl | simp [Region.wanted, yielded, *]) (by go_simp <;> omega) ⟨rfl, Below.refl _ _, hR⟩
                                      · refine ⟨fun _ _ _ _ _ h => h, fun _ _ _ _ h _ => h, fun v nR x hnR hR hk => ?_⟩
                                        have h13 : v 13 = .bool false := hk 13 (by kernel_rfl)
                                        simp only [List.take_succ_cons, List.take_zero, frameF, Act.put, List.setIfInBounds_toArray, List.set_cons_zero, List.set_cons_succ]
                                        exact stepF_out (by first | rfl | (simp [Region.wanted, yielded, *]; done) | (simp [Region.wanted, yielded, undef, *]; done)) ⟨rfl, Below.refl _ _, hR⟩
                                      · refine ⟨fun _ _ _ _ _ h => h, fun _ _ _ _ h _ => h, fun v nR x hnR hR hk => ?_⟩
                                        have h13 : v 13 = .bool false := hk 13 (by kernel_rfl)
                                        simp only [List.take_succ_cons, List.take_zero, frameF, Act.put, List.setIfInBounds_toArray, List.set_cons_zero, List.set_cons_succ]
                                        exact stepF_out (by first | rfl | (simp [Region.wanted, yielded, *]; done) | (simp [Region.wanted, yielded, undef, *]; done)) ⟨rfl, Below.refl _ _, hR⟩
                                      · refine ⟨fun _ _ _ _ _ h => h, fun _ _ _ _ h _ => h, fun v nR x hnR hR hk => ?_⟩
                                        have h13 : v 13 = .bool false := hk 13 (by kernel_rfl)
                                        simp only [List.take_succ_cons, List.take_zero, frameF, Act.put, List.setIfInBounds_toArray, List.set_cons_zero, List.set_cons_succ]
                                        exact stepF_out (by first | rfl | (simp [Region.wanted, yielded, *]; done) | (simp [Region.wanted, yielded, undef, *]; done)) ⟨rfl, Below.refl _ _, hR⟩
                                      · refine ⟨fun _ _ _ _ _ h => h, fun _ _ _ _ h _ => h, fun v nR x hnR hR hk => ?_⟩
                                        have h13 : v 13 = .bool false := hk 13 (by kernel_rfl)
                                        simp only [List.take_succ_cons, List.take_zero, frameF, Act.put, List.setIfInBounds_toArray, List.set_cons_zero, List.set_cons_succ]
                                        exact stepF_out (by first | rfl | (simp [Region.wanted, yielded, *]; done) | (simp [Region.wanted, yielded, undef, *]; done)) ⟨rfl, Below.refl _ _, hR⟩
                                      · refine ⟨fun _ _ _ _ _ h => h, fun _ _ _ _ h _ => h, fun v nR x hnR hR hk => ?_⟩
                                        have h13 : v 13 = .bool false := hk 13 (by kernel_rfl)
                                        simp only [List.take_succ_cons, List.take_zero, frameF, Act.put, List.setIfInBounds_toArray, List.set_cons_zero, List.set_cons_succ]
                                        exact stepF_out (by first | rfl | (simp [Region.wanted, yielded, *]; done) | (simp [Region.wanted, yielded, undef, *]; done)) ⟨rfl, Below.refl _ _, hR⟩
                                      · refine ⟨fun _ _ _ _ _ h => h, fun _ _ _ _ h _ => h, fun v nR x hnR hR hk => ?_⟩
                                        have h13 : v 13 = .bool false := hk 13 (by kernel_rfl)
                                        simp only [List.take_succ_cons, List.take_zero, frameF, Act.put, List.setIfInBounds_toArray, List.set_cons_zero, List.set_cons_succ]
                                        exact stepF_out (by first | rfl | (simp [Region.wanted, yielded, *]; done) | (simp [Region.wanted, yielded, undef, *]; done)) ⟨rfl, Below.refl _ _, hR⟩
                                      · refine ⟨fun _ _ _ _ _ h => h, fun _ _ _ _ h _ => h, fun v nR x hnR hR hk => ?_⟩
                                        have h13 : v 13 = .bool false := hk 13 (by kernel_rfl)
                                        simp only [List.take_succ_cons, List.take_zero, frameF, Act.put, List.setIfInBounds_toArray, List.set_cons_zero, List.set_cons_succ]
                                        exact stepF_out (by first | rfl | (simp [Region.wanted, yielded, *]; done) | (simp [Region.wanted, yielded, undef, *]; done)) ⟨rfl, Below.refl _ _, hR⟩
                                      · refine ⟨fun _ _ _ _ _ h => h, fun _ _ _ _ h _ => h, fun v nR x hnR hR hk => ?_⟩
                                        have h13 : v 13 = .bool false := hk 13 (by kernel_rfl)
                                        simp only [List.take_succ_cons, List.take_zero, frameF, Act.put, List.setIfInBounds_toArray, List.set_cons_zero, List.set_cons_succ]
                                        exact stepF_out (by first | rfl | (simp [Region.wanted, yielded, *]; done) | (simp [Region.wanted, yielded, undef, *]; done)) ⟨rfl, Below.refl _ _, hR⟩
                                      · refine ⟨fun _ _ _ _ _ h => h, fun _ _ _ _ h _ => h, fun v nR x hnR hR hk => ?_⟩
                                        have h13 : v 13 = .bool false := hk 13 (by kernel_rfl)
                                        simp only [List.take_succ_cons, List.take_zero, frameF, Act.put, List.setIfInBounds_toArray, List.set_cons_zero, List.set_cons_succ]
                                        exact stepF_out (by first | rfl | (simp [Region.wanted, yielded, *]; done) | (simp [Region.wanted, yielded, undef, *]; done)) ⟨rfl, Below.refl _ _, hR⟩
                                      · refine ⟨fun _ _ _ _ _ h => h, fun _ _ _ _ h _ => h, fun v nR x hnR hR hk => ?_⟩
                                        have h13 : v 13 = .bool false := hk 13 (by kernel_rfl)
                                        have h22 : v 22 = undef := hk 22 (by kernel_rfl)
                                        simp only [List.take_succ_cons, List.take_zero, frameF, Act.put, List.setIfInBounds_toArray, List.set_cons_zero, List.set_cons_succ]
                                        exact stepF_val (by first | rfl | simp [Region.wanted, yielded, *]) (by go_simp <;> omega) ⟨rfl, Below.refl _ _, hR⟩
                                    · intro v nR x2 hnR hR hall
                                      have h23 : v 23 = .bool false := hall 23 (by decide)
                                      clear hall hnR
                                      simp only [List.drop_succ_cons, List.drop_zero, List.take_succ_cons, List.take_zero, frameF, Act.put, List.setIfInBounds_toArray, List.set_cons_zero, List.set_cons_succ, Nat.zero_add, Nat.reduceAdd, h23]
                                      have hbl2 := hbl.next hR (Nat.le_refl _)
                                      go_wp2_with fail
                                      go_roundw
                                      case rel => exact ⟨l + 1, by omega, by omega, by go_num, HLN2, hbl2⟩
                                      case measure => simp [intOf]; omega
                                  · have hng : (0 : Int) < (n : Int) := by omega
                                    have hng' : 0 < n := by omega
                                    clear hn0
                                    obtain ⟨bR2, oR2, r2, hBR2, hbR2, hr2, hcR2⟩ := Sl.atRw (hsr.below hb0l) (show k < rs.length by omega)
                                    injection hBR2 with hBR2
                                    injection hBR2 with e1 e2 _
                                    subst e1; subst e2
                                    obtain ⟨_, _, sa2, hA2, _, hxa2, _⟩ := Sl.atS (hsa.below hb0l) hlt3
                                    injection hA2 with hA2
                                    injection hA2 with e1 e2 _
                                    subst e1; subst e2
                                    obtain ⟨_, _, sb2, hB2, _, hxb2, _⟩ := Sl.atS (hsb.below hb0l) hlt4
                                    injection hB2 with hB2
                                    injection hB2 with e1 e2 _
                                    subst e1; subst e2
                                    have HCA2 := Lib.hid (Sl.cellS (hsa.below hb0l) hxa2)
                                    have HCB2 := Lib.hid (Sl.cellS (hsb.below hb0l) hxb2)
                                    have HCR2 := Lib.hid (Sl.cellRw (hsr.below hb0l) hr2)
                                    have hrl2 := HLN.out r2 (mem_at hr2)
                                    have hlr2 : (l : Int) < (r2.xs.length : Int) := by omega
                                    obtain ⟨bI2, oI2, v2, hAI2, _, hv2, _⟩ := Sl.atI ((hrr r2 (mem_at hr2)).1.below hb0l) (show l < r2.xs.length by omega)
                                    have hXk := HX.out k r2 hr2
                                    have hLat : (XS.getD k []).getD l 0 = v2 := by simp [List.getD_eq_getElem?_getD, hXk, hv2]
                                    obtain ⟨R2A, R2C, r2x⟩ := r2
                                    simp only at hAI2 hv2 hrl2 hlr2 HCR2
                                    have hSlI := (hrr _ (mem_at hr2)).1.below hb0l
                                    simp only at hSlI
                                    subst hAI2
                                    have HCI2 := Lib.hid (Sl.cellI hSlI hv2)
                                    obtain ⟨q2, hqs2⟩ : ∃ q, (sa2.toList == sb2.toList) = q := ⟨_, rfl⟩
                                    have hqd2 : q2 = decide (sa2 = sb2) := by rw [← hqs2, str_eq]
                                    have HLT : Hid (Later a b XS i j (n : Int) k l ↔ (q2 = true → (n : Int) < v2)) := Lib.hid (by
                                      unfold Later
                                      rw [hxa2, hxb2, hLat, hqd2, decide_eq_true_iff]
                                      exact ⟨fun h e => h hng (by rw [e]), fun h _ e => h (Option.some.inj e)⟩)
                                    clear hqd2 hLat hXk hv2 hxa2 hxb2 hr2 hcR2 hSlI hrl2
                                    rcases Bool.eq_false_or_eq_true q2 with hqv2 | hqv2
                                    rotate_left
                                    · have HLN2 : Hid (∀ l', j < l' → l' < l + 1 → Later a b XS i j (n : Int) k l') := Lib.hid fun l' h1 h2 => by
                                        by_cases he : l' = l
                                        · subst he; exact HLT.out.2 (fun h => by rw [hqv2] at h; cases h)
                                        · exact HLL.out l' h1 (by omega)
                                      go_upto_region 32 with fail
                                      refine wp_free_lit (by kernel_rfl) 24 (by kernel_rfl) (by kernel_rfl) (by decide) (fun _ x => Below wr.heap.size wr x) (fun x x' => Below x.heap.size x x')
                                        [fun _ u _ => u = iv (n : Int),
                                         fun _ u _ => u = .bool true,
                                         fun _ u _ => u = .bool true,
                                         fun _ u _ => u = .slice (some ⟨ba, oa, none⟩) a.length c,
                                         fun _ u _ => u = iv (k : Int),
                                         fun _ u _ => u = .pointer (some ⟨ba, oa + k, none⟩),
                                         fun _ u _ => u = .string sa2,
                                         fun _ u _ => u = .slice (some ⟨bb, ob, none⟩) b.length c',
                                         fun _ u _ => u = iv (l : Int),
                                         fun _ u _ => u = .pointer (some ⟨bb, ob + l, none⟩),
                                         fun _ u _ => u = .string sb2,
                                         fun _ u _ => u = .bool q2,
                                         fun _ u _ => u = .bool false,
                                         fun _ u _ => u = .bool false,
                                         fun _ u _ => u = undef,
                                         fun _ u _ => u = undef,
                                         fun _ u _ => u = undef,
                                         fun _ u _ => u = undef,
                                         fun _ u _ => u = undef,
                                         fun _ u _ => u = undef,
                                         fun _ u _ => u = undef,
                                         fun _ u _ => u = undef,
                                         fun _ u _ => u = undef,
                                         fun _ u _ => u = .bool false]
                                        (Below.refl _ wr).drew ?_ ?_
                                      · simp only [List.take_succ_cons, List.take_zero, HopL]
                                        refine ⟨?_, ?_, ?_, ?_, ?_, ?_, ?_, ?_, ?_, ?_, ?_, ?_, ?_, ?_, ?_, ?_, ?_, ?_, ?_, ?_, ?_, ?_, ?_, ?_, trivial⟩
                                        · refine ⟨fun _ _ _ _ _ h => h, fun _ _ _ _ h _ => h, fun v nR x hnR hR hk => ?_⟩
                                          simp only [List.take_succ_cons, List.take_zero, frameF, Act.put, List.setIfInBounds_toArray, List.set_cons_zero, List.set_cons_succ]
                                          exact stepF_val (by first | rfl | simp [Region.wanted, yielded, *]) (by go_simp <;> omega) ⟨rfl, Below.refl _ _, hR⟩
                                        · refine ⟨fun _ _ _ _ _ h => h, fun _ _ _ _ h _ => h, fun v nR x hnR hR hk => ?_⟩
                                          have h0 : v 0 = iv (n : Int) := hk 0 (by kernel_rfl)
                                          simp only [List.take_succ_cons, List.take_zero, frameF, Act.put, List.setIfInBounds_toArray, List.set_cons_zero, List.set_cons_succ]
                                          exact stepF_val (by first | rfl | simp [Region.wanted, yielded, *]) (by go_simp <;> omega) ⟨rfl, Below.refl _ _, hR⟩
                                        · refine ⟨fun _ _ _ _ _ h => h, fun _ _ _ _ h _ => h, fun v nR x hnR hR hk => ?_⟩
                                          have h1 : v 1 = .bool true := hk 1 (by kernel_rfl)
                                          simp only [List.take_succ_cons, List.take_zero, frameF, Act.put, List.setIfInBounds_toArray, List.set_cons_zero, List.set_cons_succ]
                                          exact stepF_val (by first | rfl | simp [Region.wanted, yielded, *]) (by go_simp <;> omega) ⟨rfl, Below.refl _ _, hR⟩
                                        · refine ⟨fun _ _ _ _ _ h => h, fun _ _ _ _ h _ => h, fun v nR x hnR hR hk => ?_⟩
                                          have h2 : v 2 = .bool true := hk 2 (by kernel_rfl)
                                          simp only [List.take_succ_cons, List.take_zero, frameF, Act.put, List.setIfInBounds_toArray, List.set_cons_zero, List.set_cons_succ]
                                          exact stepF_val (by first | rfl | simp [Region.wanted, yielded, *]) (by go_simp <;> omega) ⟨rfl, Below.refl _ _, hR⟩
                                        · refine ⟨fun _ _ _ _ _ h => h, fun _ _ _ _ h _ => h, fun v nR x hnR hR hk => ?_⟩
                                          have h2 : v 2 = .bool true := hk 2 (by kernel_rfl)
                                          simp only [List.take_succ_cons, List.take_zero, frameF, Act.put, List.setIfInBounds_toArray, List.set_cons_zero, List.set_cons_succ]
                                          exact stepF_val (by first | rfl | simp [Region.wanted, yielded, *]) (by go_simp <;> omega) ⟨rfl, Below.refl _ _, hR⟩
                                        · refine ⟨fun _ _ _ _ _ h => h, fun _ _ _ _ h _ => h, fun v nR x hnR hR hk => ?_⟩
                                          have h3 : v 3 = .slice (some ⟨ba, oa, none⟩) a.length c := hk 3 (by kernel_rfl)
                                          have h4 : v 4 = iv (k : Int) := hk 4 (by kernel_rfl)
                                          have h2 : v 2 = .bool true := hk 2 (by kernel_rfl)
                                          simp only [List.take_succ_cons, List.take_zero, frameF, Act.put, List.setIfInBounds_toArray, List.set_cons_zero, List.set_cons_succ]
                                          exact stepF_val (by first | rfl | simp [Region.wanted, yielded, *]) (by go_simp <;> omega) ⟨rfl, Below.refl _ _, hR⟩
                                        · refine ⟨fun _ _ _ _ _ h => h, fun _ _ _ _ h _ => h, fun v nR x hnR hR hk => ?_⟩
                                          have h5 : v 5 = .pointer (some ⟨ba, oa + k, none⟩) := hk 5 (by kernel_rfl)
                                          have h2 : v 2 = .bool true := hk 2 (by kernel_rfl)
                                          have g1 := HCA2.out x hR
                                          simp only [List.take_succ_cons, List.take_zero, frameF, Act.put, List.setIfInBounds_toArray, List.set_cons_zero, List.set_cons_succ]
                                          exact stepF_val (by first | rfl | simp [Region.wanted, yielded, *]) (by go_simp <;> omega) ⟨rfl, Below.refl _ _, hR⟩
                                        · refine ⟨fun _ _ _ _ _ h => h, fun _ _ _ _ h _ => h, fun v nR x hnR hR hk => ?_⟩
                                          have h2 : v 2 = .bool true := hk 2 (by kernel_rfl)
                                          simp only [List.take_succ_cons, List.take_zero, frameF, Act.put, List.setIfInBounds_toArray, List.set_cons_zero, List.set_cons_succ]
                                          exact stepF_val (by first | rfl | simp [Region.wanted, yielded, *]) (by go_simp <;> omega) ⟨rfl, Below.refl _ _, hR⟩
                                        · refine ⟨fun _ _ _ _ _ h => h, fun _ _ _ _ h _ => h, fun v nR x hnR hR hk => ?_⟩
                                          have h2 : v 2 = .bool true := hk 2 (by kernel_rfl)
                                          simp only [List.take_succ_cons, List.take_zero, frameF, Act.put, List.setIfInBounds_toArray, List.set_cons_zero, List.set_cons_succ]
                                          exact stepF_val (by first | rfl | simp [Region.wanted, yielded, *]) (by go_simp <;> omega) ⟨rfl, Below.refl _ _, hR⟩
                                        · refine ⟨fun _ _ _ _ _ h => h, fun _ _ _ _ h _ => h, fun v nR x hnR hR hk => ?_⟩
                                          have h7 : v 7 = .slice (some ⟨bb, ob, none⟩) b.length c' := hk 7 (by kernel_rfl)
                                          have h8 : v 8 = iv (l : Int) := hk 8 (by kernel_rfl)
                                          have h2 : v 2 = .bool true := hk 2 (by kernel_rfl)
                                          simp only [List.take_succ_cons, List.take_zero, frameF, Act.put, List.setIfInBounds_toArray, List.set_cons_zero, List.set_cons_succ]
                                          exact stepF_val (by first | rfl | simp [Region.wanted, yielded, *]) (by go_simp <;> omega) ⟨rfl, Below.refl _ _, hR⟩
                                        · refine ⟨fun _ _ _ _ _ h => h, fun _ _ _ _ h _ => h, fun v nR x hnR hR hk => ?_⟩
                                          have h9 : v 9 = .pointer (some ⟨bb, ob + l, none⟩) := hk 9 (by kernel_rfl)
                                          have h2 : v 2 = .bool true := hk 2 (by kernel_rfl)
                                          have g1 := HCB2.out x hR
                                          simp only [List.take_succ_cons, List.take_zero, frameF, Act.put, List.setIfInBounds_toArray, List.set_cons_zero, List.set_cons_succ]
                                          exact stepF_val (by first | rfl | simp [Region.wanted, yielded, *]) (by go_simp <;> omega) ⟨rfl, Below.refl _ _, hR⟩
                                        · refine ⟨fun _ _ _ _ _ h => h, fun _ _ _ _ h _ => h, fun v nR x hnR hR hk => ?_⟩
                                          have h6 : v 6 = .string sa2 := hk 6 (by kernel_rfl)
                                          have h10 : v 10 = .string sb2 := hk 10 (by kernel_rfl)
                                          have h2 : v 2 = .bool true := hk 2 (by kernel_rfl)
                                          simp only [List.take_succ_cons, List.take_zero, frameF, Act.put, List.setIfInBounds_toArray, List.set_cons_zero, List.set_cons_succ]
                                          exact stepF_val (by first | rfl | simp [Region.wanted, yielded, *]) (by go_simp <;> omega) ⟨rfl, Below.refl _ _, hR⟩
                                        · refine ⟨fun _ _ _ _ _ h => h, fun _ _ _ _ h _ => h, fun v nR x hnR hR hk => ?_⟩
                                          have h2 : v 2 = .bool true := hk 2 (by kernel_rfl)
                                          have h11 : v 11 = .bool q2 := hk 11 (by kernel_rfl)
                                          simp only [List.take_succ_cons, List.take_zero, frameF, Act.put, List.setIfInBounds_toArray, List.set_cons_zero, List.set_cons_succ]
                                          exact stepF_val (by first | rfl | simp [Region.wanted, yielded, *]) (by go_simp <;> omega) ⟨rfl, Below.refl _ _, hR⟩
                                        · refine ⟨fun _ _ _ _ _ h => h, fun _ _ _ _ h _ => h, fun v nR x hnR hR hk => ?_⟩
                                          have h12 : v 12 = .bool false := hk 12 (by kernel_rfl)
                                          simp only [List.take_succ_cons, List.take_zero, frameF, Act.put, List.setIfInBounds_toArray, List.set_cons_zero, List.set_cons_succ]
                                          exact stepF_val (by first | rfl | simp [Region.wanted, yielded, *]) (by go_simp <;> omega) ⟨rfl, Below.refl _ _, hR⟩
                                        · refine ⟨fun _ _ _ _ _ h => h, fun _ _ _ _ h _ => h, fun v nR x hnR hR hk => ?_⟩
                                          have h13 : v 13 = .bool false := hk 13 (by kernel_rfl)
                                          simp only [List.take_succ_cons, List.take_zero, frameF, Act.put, List.setIfInBounds_toArray, List.set_cons_zero, List.set_cons_succ]
                                          exact stepF_out (by first | rfl | (simp [Region.wanted, yielded, *]; done) | (simp [Region.wanted, yielded, undef, *]; done)) ⟨rfl, Below.refl _ _, hR⟩
                                        · refine ⟨fun _ _ _ _ _ h => h, fun _ _ _ _ h _ => h, fun v nR x hnR hR hk => ?_⟩
                                          have h13 : v 13 = .bool false := hk 13 (by kernel_rfl)
                                          simp only [List.take_succ_cons, List.take_zero, frameF, Act.put, List.setIfInBounds_toArray, List.set_cons_zero, List.set_cons_succ]
                                          exact stepF_out (by first | rfl | (simp [Region.wanted, yielded, *]; done) | (simp [Region.wanted, yielded, undef, *]; done)) ⟨rfl, Below.refl _ _, hR⟩
                                        · refine ⟨fun _ _ _ _ _ h => h, fun _ _ _ _ h _ => h, fun v nR x hnR hR hk => ?_⟩
                                          have h13 : v 13 = .bool false := hk 13 (by kernel_rfl)
                                          simp only [List.take_succ_cons, List.take_zero, frameF, Act.put, List.setIfInBounds_toArray, List.set_cons_zero, List.set_cons_succ]
                                          exact stepF_out (by first | rfl | (simp [Region.wanted, yielded, *]; done) | (simp [Region.wanted, yielded, undef, *]; done)) ⟨rfl, Below.refl _ _, hR⟩
                                        · refine ⟨fun _ _ _ _ _ h => h, fun _ _ _ _ h _ => h, fun v nR x hnR hR hk => ?_⟩
                                          have h13 : v 13 = .bool false := hk 13 (by kernel_rfl)
                                          simp only [List.take_succ_cons, List.take_zero, frameF, Act.put, List.setIfInBounds_toArray, List.set_cons_zero, List.set_cons_succ]
                                          exact stepF_out (by first | rfl | (simp [Region.wanted, yielded, *]; done) | (simp [Region.wanted, yielded, undef, *]; done)) ⟨rfl, Below.refl _ _, hR⟩
                                        · refine ⟨fun _ _ _ _ _ h => h, fun _ _ _ _ h _ => h, fun v nR x hnR hR hk => ?_⟩
                                          have h13 : v 13 = .bool false := hk 13 (by kernel_rfl)
                                          simp only [List.take_succ_cons, List.take_zero, frameF, Act.put, List.setIfInBounds_toArray, List.set_cons_zero, List.set_cons_succ]
                                          exact stepF_out (by first | rfl | (simp [Region.wanted, yielded, *]; done) | (simp [Region.wanted, yielded, undef, *]; done)) ⟨rfl, Below.refl _ _, hR⟩
                                        · refine ⟨fun _ _ _ _ _ h => h, fun _ _ _ _ h _ => h, fun v nR x hnR hR hk => ?_⟩
                                          have h13 : v 13 = .bool false := hk 13 (by kernel_rfl)
                                          simp only [List.take_succ_cons, List.take_zero, frameF, Act.put, List.setIfInBounds_toArray, List.set_cons_zero, List.set_cons_succ]
                                          exact stepF_out (by first | rfl | (simp [Region.wanted, yielded, *]; done) | (simp [Region.wanted, yielded, undef, *]; done)) ⟨rfl, Below.refl _ _, hR⟩
                                        · refine ⟨fun _ _ _ _ _ h => h, fun _ _ _ _ h _ => h, fun v nR x hnR hR hk => ?_⟩
                                          have h13 : v 13 = .bool false := hk 13 (by kernel_rfl)
                                          simp only [List.take_succ_cons, List.take_zero, frameF, Act.put, List.setIfInBounds_toArray, List.set_cons_zero, List.set_cons_succ]
                                          exact stepF_out (by first | rfl | (simp [Region.wanted, yielded, *]; done) | (simp [Region.wanted, yielded, undef, *]; done)) ⟨rfl, Below.refl _ _, hR⟩
                                        · refine ⟨fun _ _ _ _ _ h => h, fun _ _ _ _ h _ => h, fun v nR x hnR hR hk => ?_⟩
                                          have h13 : v 13 = .bool false := hk 13 (by kernel_rfl)
                                          simp only [List.take_succ_cons, List.take_zero, frameF, Act.put, List.setIfInBounds_toArray, List.set_cons_zero, List.set_cons_succ]
                                          exact stepF_out (by first | rfl | (simp [Region.wanted, yielded, *]; done) | (simp [Region.wanted, yielded, undef, *]; done)) ⟨rfl, Below.refl _ _, hR⟩
                                        · refine ⟨fun _ _ _ _ _ h => h, fun _ _ _ _ h _ => h, fun v nR x hnR hR hk => ?_⟩
                                          have h13 : v 13 = .bool false := hk 13 (by kernel_rfl)
                                          simp only [List.take_succ_cons, List.take_zero, frameF, Act.put, List.setIfInBounds_toArray, List.set_cons_zero, List.set_cons_succ]
                                          exact stepF_out (by first | rfl | (simp [Region.wanted, yielded, *]; done) | (simp [Region.wanted, yielded, undef, *]; done)) ⟨rfl, Below.refl _ _, hR⟩
                                        · refine ⟨fun _ _ _ _ _ h => h, fun _ _ _ _ h _ => h, fun v nR x hnR hR hk => ?_⟩
                                          have h13 : v 13 = .bool false := hk 13 (by kernel_rfl)
                                          have h22 : v 22 = undef := hk 22 (by kernel_rfl)
                                          simp only [List.take_succ_cons, List.take_zero, frameF, Act.put, List.setIfInBounds_toArray, List.set_cons_zero, List.set_cons_succ]
                                          exact stepF_val (by first | rfl | simp [Region.wanted, yielded, *]) (by go_simp <;> omega) ⟨rfl, Below.refl _ _, hR⟩
                                      · intro v nR x2 hnR hR hall
                                        have h23 : v 23 = .bool false := hall 23 (by decide)
                                        clear hall hnR
                                        simp only [List.drop_succ_cons, List.drop_zero, List.take_succ_cons, List.take_zero, frameF, Act.put, List.setIfInBounds_toArray, List.set_cons_zero, List.set_cons_succ, Nat.zero_add, Nat.reduceAdd, h23]
                                        have hbl2 := hbl.next hR (Nat.le_refl _)
                                        go_wp2_with fail
                                        go_roundw
                                        case rel => exact ⟨l + 1, by omega, by omega, by go_num, HLN2, hbl2⟩
                                        case measure => simp [intOf]; omega
                                    · obtain ⟨t, ht⟩ : ∃ t, decide (v2 ≤ (n : Int)) = t := ⟨_, rfl⟩
                                      have HT := Lib.hid ht
                                      go_upto_region 32 with fail
                                      refine wp_free_lit (by kernel_rfl) 24 (by kernel_rfl) (by kernel_rfl) (by decide) (fun _ x => Below wr.heap.size wr x) (fun x x' => Below x.heap.size x x')
                                        [fun _ u _ => u = iv (n : Int),
                                         fun _ u _ => u = .bool true,
                                         fun _ u _ => u = .bool true,
                                         fun _ u _ => u = .slice (some ⟨ba, oa, none⟩) a.length c,
                                         fun _ u _ => u = iv (k : Int),
                                         fun _ u _ => u = .pointer (some ⟨ba, oa + k, none⟩),
                                         fun _ u _ => u = .string sa2,
                                         fun _ u _ => u = .slice (some ⟨bb, ob, none⟩) b.length c',
                                         fun _ u _ => u = iv (l : Int),
                                         fun _ u _ => u = .pointer (some ⟨bb, ob + l, none⟩),
                                         fun _ u _ => u = .string sb2,
                                         fun _ u _ => u = .bool q2,
                                         fun _ u _ => u = .bool true,
                                         fun _ u _ => u = .bool true,
                                         fun _ u _ => u = .slice (some ⟨bR, oR, none⟩) rs.length d,
                                         fun _ u _ => u = iv (k : Int),
                                         fun _ u _ => u = .pointer (some ⟨bR, oR + k, none⟩),
                                         fun _ u _ => u = .slice (some ⟨bI2, oI2, none⟩) r2x.length R2C,
                                         fun _ u _ => u = iv (l : Int),
                                         fun _ u _ => u = .pointer (some ⟨bI2, oI2 + l, none⟩),
                                         fun _ u _ => u = iv v2,
                                         fun _ u _ => u = iv (n : Int),
                                         fun _ u _ => u = .bool t,
                                         fun _ u _ => u = .bool t]
                                        (Below.refl _ wr).drew ?_ ?_
                                      · simp only [List.take_succ_cons, List.take_zero, HopL]
                                        refine ⟨?_, ?_, ?_, ?_, ?_, ?_, ?_, ?_, ?_, ?_, ?_, ?_, ?_, ?_, ?_, ?_, ?_, ?_, ?_, ?_, ?_, ?_, ?_, ?_, trivial⟩
                                        · refine ⟨fun _ _ _ _ _ h => h, fun _ _ _ _ h _ => h, fun v nR x hnR hR hk => ?_⟩
                                          simp only [List.take_succ_cons, List.take_zero, frameF, Act.put, List.setIfInBounds_toArray, List.set_cons_zero, List.set_cons_succ]
                                          exact stepF_val (by first | rfl | simp [Region.wanted, yielded, *]) (by go_simp <;> omega) ⟨rfl, Below.refl _ _, hR⟩
                                        · refine ⟨fun _ _ _ _ _ h => h, fun _ _ _ _ h _ => h, fun v nR x hnR hR hk => ?_⟩
                                          have h0 : v 0 = iv (n : Int) := hk 0 (by kernel_rfl)
                                          simp only [List.take_succ_cons, List.take_zero, frameF, Act.put, List.setIfInBounds_toArray, List.set_cons_zero, List.set_cons_succ]
                                          exact stepF_val (by first | rfl | simp [Region.wanted, yielded, *]) (by go_simp <;> omega) ⟨rfl, Below.refl _ _, hR⟩
                                        · refine ⟨fun _ _ _ _ _ h => h, fun _ _ _ _ h _ => h, fun v nR x hnR hR hk => ?_⟩
                                          have h1 : v 1 = .bool true := hk 1 (by kernel_rfl)
                                          simp only [List.take_succ_cons, List.take_zero, frameF, Act.put, List.setIfInBounds_toArray, List.set_cons_zero, List.set_cons_succ]
                                          exact stepF_val (by first | rfl | simp [Region.wanted, yielded, *]) (by go_simp <;> omega) ⟨rfl, Below.refl _ _, hR⟩
                                        · refine ⟨fun _ _ _ _ _ h => h, fun _ _ _ _ h _ => h, fun v nR x hnR hR hk => ?_⟩
                                          have h2 : v 2 = .bool true := hk 2 (by kernel_rfl)
                                          simp only [List.take_succ_cons, List.take_zero, frameF, Act.put, List.setIfInBounds_toArray, List.set_cons_zero, List.set_cons_succ]
                                          exact stepF_val (by first | rfl | simp [Region.wanted, yielded, *]) (by go_simp <;> omega) ⟨rfl, Below.refl _ _, hR⟩
                                        · refine ⟨fun _ _ _ _ _ h => h, fun _ _ _ _ h _ => h, fun v nR x hnR hR hk => ?_⟩
                                          have h2 : v 2 = .bool true := hk 2 (by kernel_rfl)
                                          simp only [List.take_succ_cons, List.take_zero, frameF, Act.put, List.setIfInBounds_toArray, List.set_cons_zero, List.set_cons_succ]
                                          exact stepF_val (by first | rfl | simp [Region.wanted, yielded, *]) (by go_simp <;> omega) ⟨rfl, Below.refl _ _, hR⟩
                                        · refine ⟨fun _ _ _ _ _ h => h, fun _ _ _ _ h _ => h, fun v nR x hnR hR hk => ?_⟩
                                          have h3 : v 3 = .slice (some ⟨ba, oa, none⟩) a.length c := hk 3 (by kernel_rfl)
                                          have h4 : v 4 = iv (k : Int) := hk 4 (by kernel_rfl)
                                          have h2 : v 2 = .bool true := hk 2 (by kernel_rfl)
                                          simp only [List.take_succ_cons, List.take_zero, frameF, Act.put, List.setIfInBounds_toArray, List.set_cons_zero, List.set_cons_succ]
                                          exact stepF_val (by first | rfl | simp [Region.wanted, yielded, *]) (by go_simp <;> omega) ⟨rfl, Below.refl _ _, hR⟩
                                        · refine ⟨fun _ _ _ _ _ h => h, fun _ _ _ _ h _ => h, fun v nR x hnR hR hk => ?_⟩
                                          have h5 : v 5 = .pointer (some ⟨ba, oa + k, none⟩) := hk 5 (by kernel_rfl)
                                          have h2 : v 2 = .bool true := hk 2 (by kernel_rfl)
                                          have g1 := HCA2.out x hR
                                          simp only [List.take_succ_cons, List.take_zero, frameF, Act.put, List.setIfInBounds_toArray, List.set_cons_zero, List.set_cons_succ]
                                          exact stepF_val (by first | rfl | simp [Region.wanted, yielded, *]) (by go_simp <;> omega) ⟨rfl, Below.refl _ _, hR⟩
                                        · refine ⟨fun _ _ _ _ _ h => h, fun _ _ _ _ h _ => h, fun v nR x hnR hR hk => ?_⟩
                                          have h2 : v 2 = .bool true := hk 2 (by kernel_rfl)
                                          simp only [List.take_succ_cons, List.take_zero, frameF, Act.put, List.setIfInBounds_toArray, List.set_cons_zero, List.set_cons_succ]
                                          exact stepF_val (by first | rfl | simp [Region.wanted, yielded, *]) (by go_simp <;> omega) ⟨rfl, Below.refl _ _, hR⟩
                                        · refine ⟨fun _ _ _ _ _ h => h, fun _ _ _ _ h _ => h, fun v nR x hnR hR hk => ?_⟩
                                          have h2 : v 2 = .bool true := hk 2 (by kernel_rfl)
                                          simp only [List.take_succ_cons, List.take_zero, frameF, Act.put, List.setIfInBounds_toArray, List.set_cons_zero, List.set_cons_succ]
                                          exact stepF_val (by first | rfl | simp [Region.wanted, yielded, *]) (by go_simp <;> omega) ⟨rfl, Below.refl _ _, hR⟩
                                        · refine ⟨fun _ _ _ _ _ h => h, fun _ _ _ _ h _ => h, fun v nR x hnR hR hk => ?_⟩
                                          have h7 : v 7 = .slice (some ⟨bb, ob, none⟩) b.length c' := hk 7 (by kernel_rfl)
                                          have h8 : v 8 = iv (l : Int) := hk 8 (by kernel_rfl)
                                          have h2 : v 2 = .bool true := hk 2 (by kernel_rfl)
                                          simp only [List.take_succ_cons, List.take_zero, frameF, Act.put, List.setIfInBounds_toArray, List.set_cons_zero, List.set_cons_succ]
                                          exact stepF_val (by first | rfl | simp [Region.wanted, yielded, *]) (by go_simp <;> omega) ⟨rfl, Below.refl _ _, hR⟩
                                        · refine ⟨fun _ _ _ _ _ h => h, fun _ _ _ _ h _ => h, fun v nR x hnR hR hk => ?_⟩
                                          have h9 : v 9 = .pointer (some ⟨bb, ob + l, none⟩) := hk 9 (by kernel_rfl)
                                          have h2 : v 2 = .bool true := hk 2 (by kernel_rfl)
                                          have g1 := HCB2.out x hR
                                          simp only [List.take_succ_cons, List.take_zero, frameF, Act.put, List.setIfInBounds_toArray, List.set_cons_zero, List.set_cons_succ]
                                          exact stepF_val (by first | rfl | simp [Region.wanted, yielded, *]) (by go_simp <;> omega) ⟨rfl, Below.refl _ _, hR⟩
                                        · refine ⟨fun _ _ _ _ _ h => h, fun _ _ _ _ h _ => h, fun v nR x hnR hR hk => ?_⟩
                                          have h6 : v 6 = .string sa2 := hk 6 (by kernel_rfl)
                                          have h10 : v 10 = .string sb2 := hk 10 (by kernel_rfl)
                                          have h2 : v 2 = .bool true := hk 2 (by kernel_rfl)
                                          simp only [List.take_succ_cons, List.take_zero, frameF, Act.put, List.setIfInBounds_toArray, List.set_cons_zero, List.set_cons_succ]
                                          exact stepF_val (by first | rfl | simp [Region.wanted, yielded, *]) (by go_simp <;> omega) ⟨rfl, Below.refl _ _, hR⟩
                                        · refine ⟨fun _ _ _ _ _ h => h, fun _ _ _ _ h _ => h, fun v nR x hnR hR hk => ?_⟩
                                          have h2 : v 2 = .bool true := hk 2 (by kernel_rfl)
                                          have h11 : v 11 = .bool q2 := hk 11 (by kernel_rfl)
                                          simp only [List.take_succ_cons, List.take_zero, frameF, Act.put, List.setIfInBounds_toArray, List.set_cons_zero, List.set_cons_succ]
                                          exact stepF_val (by first | rfl | simp [Region.wanted, yielded, *]) (by go_simp <;> omega) ⟨rfl, Below.refl _ _, hR⟩
                                        · refine ⟨fun _ _ _ _ _ h => h, fun _ _ _ _ h _ => h, fun v nR x hnR hR hk => ?_⟩
                                          have h12 : v 12 = .bool true := hk 12 (by kernel_rfl)
                                          simp only [List.take_succ_cons, List.take_zero, frameF, Act.put, List.setIfInBounds_toArray, List.set_cons_zero, List.set_cons_succ]
                                          exact stepF_val (by first | rfl | simp [Region.wanted, yielded, *]) (by go_simp <;> omega) ⟨rfl, Below.refl _ _, hR⟩
                                        · refine ⟨fun _ _ _ _ _ h => h, fun _ _ _ _ h _ => h, fun v nR x hnR hR hk => ?_⟩
                                          have h13 : v 13 = .bool true := hk 13 (by kernel_rfl)
                                          simp only [List.take_succ_cons, List.take_zero, frameF, Act.put, List.setIfInBounds_toArray, List.set_cons_zero, List.set_cons_succ]
                                          exact stepF_val (by first | rfl | simp [Region.wanted, yielded, *]) (by go_simp <;> omega) ⟨rfl, Below.refl _ _, hR⟩
                                        · refine ⟨fun _ _ _ _ _ h => h, fun _ _ _ _ h _ => h, fun v nR x hnR hR hk => ?_⟩
                                          have h13 : v 13 = .bool true := hk 13 (by kernel_rfl)
                                          simp only [List.take_succ_cons, List.take_zero, frameF, Act.put, List.setIfInBounds_toArray, List.set_cons_zero, List.set_cons_succ]
                                          exact stepF_val (by first | rfl | simp [Region.wanted, yielded, *]) (by go_simp <;> omega) ⟨rfl, Below.refl _ _, hR⟩
                                        · refine ⟨fun _ _ _ _ _ h => h, fun _ _ _ _ h _ => h, fun v nR x hnR hR hk => ?_⟩
                                          have h14 : v 14 = .slice (some ⟨bR, oR, none⟩) rs.length d := hk 14 (by kernel_rfl)
                                          have h15 : v 15 = iv (k : Int) := hk 15 (by kernel_rfl)
                                          have h13 : v 13 = .bool true := hk 13 (by kernel_rfl)
                                          simp only [List.take_succ_cons, List.take_zero, frameF, Act.put, List.setIfInBounds_toArray, List.set_cons_zero, List.set_cons_succ]
                                          exact stepF_val (by first | rfl | simp [Region.wanted, yielded, *]) (by go_simp <;> omega) ⟨rfl, Below.refl _ _, hR⟩
                                        · refine ⟨fun _ _ _ _ _ h => h, fun _ _ _ _ h _ => h, fun v nR x hnR hR hk => ?_⟩
                                          have h16 : v 16 = .pointer (some ⟨bR, oR + k, none⟩) := hk 16 (by kernel_rfl)
                                          have h13 : v 13 = .bool true := hk 13 (by kernel_rfl)
                                          have g1 := HCR2.out x hR
                                          simp only [List.take_succ_cons, List.take_zero, frameF, Act.put, List.setIfInBounds_toArray, List.set_cons_zero, List.set_cons_succ]
                                          exact stepF_val (by first | rfl | simp [Region.wanted, yielded, *]) (by go_simp <;> omega) ⟨rfl, Below.refl _ _, hR⟩
                                        · refine ⟨fun _ _ _ _ _ h => h, fun _ _ _ _ h _ => h, fun v nR x hnR hR hk => ?_⟩
                                          have h13 : v 13 = .bool true := hk 13 (by kernel_rfl)
                                          simp only [List.take_succ_cons, List.take_zero, frameF, Act.put, List.setIfInBounds_toArray, List.set_cons_zero, List.set_cons_succ]
                                          exact stepF_val (by first | rfl | simp [Region.wanted, yielded, *]) (by go_simp <;> omega) ⟨rfl, Below.refl _ _, hR⟩
                                        · refine ⟨fun _ _ _ _ _ h => h, fun _ _ _ _ h _ => h, fun v nR x hnR hR hk => ?_⟩
                                          have h17 : v 17 = .slice (some ⟨bI2, oI2, none⟩) r2x.length R2C := hk 17 (by kernel_rfl)
                                          have h18 : v 18 = iv (l : Int) := hk 18 (by kernel_rfl)
                                          have h13 : v 13 = .bool true := hk 13 (by kernel_rfl)
                                          simp only [List.take_succ_cons, List.take_zero, frameF, Act.put, List.setIfInBounds_toArray, List.set_cons_zero, List.set_cons_succ]
                                          exact stepF_val (by first | rfl | simp [Region.wanted, yielded, *]) (by go_simp <;> omega) ⟨rfl, Below.refl _ _, hR⟩
                                        · refine ⟨fun _ _ _ _ _ h => h, fun _ _ _ _ h _ => h, fun v nR x hnR hR hk => ?_⟩
                                          have h19 : v 19 = .pointer (some ⟨bI2, oI2 + l, none⟩) := hk 19 (by kernel_rfl)
                                          have h13 : v 13 = .bool true := hk 13 (by kernel_rfl)
                                          have g1 := HCI2.out x hR
                                          simp only [List.take_succ_cons, List.take_zero, frameF, Act.put, List.setIfInBounds_toArray, List.set_cons_zero, List.set_cons_succ]
                                          exact stepF_val (by first | rfl | simp [Region.wanted, yielded, *]) (by go_simp <;> omega) ⟨rfl, Below.refl _ _, hR⟩
                                        · refine ⟨fun _ _ _ _ _ h => h, fun _ _ _ _ h _ => h, fun v nR x hnR hR hk => ?_⟩
                                          have h13 : v 13 = .bool true := hk 13 (by kernel_rfl)
                                          simp only [List.take_succ_cons, List.take_zero, frameF, Act.put, List.setIfInBounds_toArray, List.set_cons_zero, List.set_cons_succ]
                                          exact stepF_val (by first | rfl | simp [Region.wanted, yielded, *]) (by go_simp <;> omega) ⟨rfl, Below.refl _ _, hR⟩
                                        · refine ⟨fun _ _ _ _ _ h => h, fun _ _ _ _ h _ => h, fun v nR x hnR hR hk => ?_⟩
                                          have h20 : v 20 = iv v2 := hk 20 (by kernel_rfl)
                                          have h21 : v 21 = iv (n : Int) := hk 21 (by kernel_rfl)
                                          have h13 : v 13 = .bool true := hk 13 (by kernel_rfl)
                                          simp only [List.take_succ_cons, List.take_zero, frameF, Act.put, List.setIfInBounds_toArray, List.set_cons_zero, List.set_cons_succ]
                                          exact stepF_val (by first | rfl | simp [Region.wanted, yielded, *]) (by go_simp <;> omega) ⟨rfl, Below.refl _ _, hR⟩
                                        · refine ⟨fun _ _ _ _ _ h => h, fun _ _ _ _ h _ => h, fun v nR x hnR hR hk => ?_⟩
                                          have h13 : v 13 = .bool true := hk 13 (by kernel_rfl)
                                          have h22 : v 22 = .bool t := hk 22 (by kernel_rfl)
                                          simp only [List.take_succ_cons, List.take_zero, frameF, Act.put, List.setIfInBounds_toArray, List.set_cons_zero, List.set_cons_succ]
                                          exact stepF_val (by first | rfl | simp [Region.wanted, yielded, *]) (by go_simp <;> omega) ⟨rfl, Below.refl _ _, hR⟩
                                      · intro v nR x2 hnR hR hall
                                        have h23 : v 23 = .bool t := hall 23 (by decide)
                                        clear hall hnR
                                        simp only [List.drop_succ_cons, List.drop_zero, List.take_succ_cons, List.take_zero, frameF, Act.put, List.setIfInBounds_toArray, List.set_cons_zero, List.set_cons_succ, Nat.zero_add, Nat.reduceAdd, h23]
                                        have hbl2 := hbl.next hR (Nat.le_refl _)
                                        have hb02 := hb0l.next hR (Nat.le_refl _)
                                        cases t
                                        · have HLN2 : Hid (∀ l', j < l' → l' < l + 1 → Later a b XS i j (n : Int) k l') := Lib.hid fun l' h1 h2 => by
                                            by_cases he : l' = l
                                            · subst he
                                              have := HT.out
                                              rw [decide_eq_false_iff_not] at this
                                              exact HLT.out.2 (fun _ => by omega)
                                            · exact HLL.out l' h1 (by omega)
                                          clear ht
                                          go_wp2_with fail
                                          go_roundw
                                          case rel => exact ⟨l + 1, by omega, by omega, by go_num, HLN2, hbl2⟩
                                          case measure => simp [intOf]; omega
                                        · have HN : Hid (R = (0, 8)) := Lib.hid (HBD.out k l hik hlt3 hjl hlt4 fun h => by
                                            have h1 := HLT.out.1 h hqv2
                                            have := HT.out
                                            rw [decide_eq_true_iff] at this
                                            omega)
                                          clear ht
                                          go_wp2_with fail
                                          go_ret2
                                          exact ⟨by rw [HN.out]; rfl, hb02⟩
                                · have hli : ¬ (l : Int) < (b.length : Int) := by omega
                                  have HKN : Hid (∀ k' l, i < k' → k' < k + 1 → j < l → l < b.length → Later a b XS i j (n : Int) k' l) := Lib.hid fun k' l' h1 h2 h3 h4 => by
                                    by_cases he : k' = k
                                    · subst he; exact HLL.out l' h3 (by omega)
                                    · exact HK.out k' l' h1 (by omega) h3 h4
                                  have ewk : IntKind.i64.wrap ((k : Int) + 1) = (k : Int) + 1 := IntWalk.i64_in _ (by omega)
                                  go_wp2_with fail
                                  go_roundw
                                  case rel => exact ⟨k + 1, by omega, by omega, by go_num, HKN, hbl⟩
                                  case measure => simp [intOf]; omega
                            · have hki : ¬ (k : Int) < (a.length : Int) := by omega
                              have HN := Lib.hid (HOK.out fun k' l h1 h2 h3 h4 => HK.out k' l h1 (by omega) h3 h4)
                              have hbk2 := hb21.next hbk (Nat.le_refl _)
                              have hmx : max (m : Int) (n : Int) = ((max m n : Nat) : Int) := by omega
                              obtain ⟨M, hM⟩ : ∃ M, M = max m n := ⟨_, rfl⟩
                              rw [← hM] at hmx
                              have HN2 : Hid ((match File.rowP (File.laterOk a b XS) i (j + 1) (M : Int) (rx.drop (j + 1)) with | some m => File.levelsP (File.laterOk a b XS) (i + 1) m (XS.drop (i + 1)) | none => (0, 8)) = R) := Lib.hid (by rw [← hmx]; exact HN.out)
                              have hM24 : M ≤ 24 := by omega
                              clear HN hM
                              go_wp2_with fail
                              go_roundw
                              case rel => exact ⟨j + 1, M, by omega, by first | rfl | rw [hmx], by go_num, hM24, HN2, hbk2⟩
                              case measure => simp [intOf]; omega
                      · have hzv : z = false := by rw [hzn]; exact decide_eq_false hn0
                        have hzw : z' = true := by rw [hzz, hzv]; rfl
                        clear hqq hzz hzn
                        have HN : Hid (R = (0, 8)) := Lib.hid (by
                          rw [← HL3.out, if_neg]
                          intro h
                          exact hn0 ((HLI.out.1 h).1.2 hqv))
                        clear hn0
                        go_upto_region 24 with fail
                        refine wp_free_lit (by kernel_rfl) 28 (by kernel_rfl) (by kernel_rfl) (by decide) (fun _ x => Below wr.heap.size wr x) (fun x x' => Below x.heap.size x x')
                          [fun _ u _ => u = .slice (some ⟨ba, oa, none⟩) a.length c,
                           fun _ u _ => u = iv (i : Int),
                           fun _ u _ => u = .pointer (some ⟨ba, oa + i, none⟩),
                           fun _ u _ => u = .string sa,
                           fun _ u _ => u = .slice (some ⟨bb, ob, none⟩) b.length c',
                           fun _ u _ => u = iv (j : Int),
                           fun _ u _ => u = .pointer (some ⟨bb, ob + j, none⟩),
                           fun _ u _ => u = .string sb,
                           fun _ u _ => u = .bool q',
                           fun _ u _ => u = .bool q',
                           fun _ u _ => u = iv (n : Int),
                           fun _ u _ => u = .bool z',
                           fun _ u _ => u = .bool true,
                           fun _ u _ => u = .bool true,
                           fun _ u _ => u = undef,
                           fun _ u _ => u = undef,
                           fun _ u _ => u = undef,
                           fun _ u _ => u = undef,
                           fun _ u _ => u = undef,
                           fun _ u _ => u = undef,
                           fun _ u _ => u = undef,
                           fun _ u _ => u = undef,
                           fun _ u _ => u = undef,
                           fun _ u _ => u = undef,
                           fun _ u _ => u = undef,
                           fun _ u _ => u = undef,
                           fun _ u _ => u = undef,
                           fun _ u _ => u = .bool true]
                          (Below.refl _ wr).drew ?_ ?_
                        · simp only [List.take_succ_cons, List.take_zero, HopL]
                          refine ⟨?_, ?_, ?_, ?_, ?_, ?_, ?_, ?_, ?_, ?_, ?_, ?_, ?_, ?_, ?_, ?_, ?_, ?_, ?_, ?_, ?_, ?_, ?_, ?_, ?_, ?_, ?_, ?_, trivial⟩
                          · refine ⟨fun _ _ _ _ _ h => h, fun _ _ _ _ h _ => h, fun v nR x hnR hR hk => ?_⟩
                            simp only [List.take_succ_cons, List.take_zero, frameF, Act.put, List.setIfInBounds_toArray, List.set_cons_zero, List.set_cons_succ]
                            exact stepF_val (by first | rfl | simp [Region.wanted, yielded, *]) (by go_simp <;> omega) ⟨rfl, Below.refl _ _, hR⟩
                          · refine ⟨fun _ _ _ _ _ h => h, fun _ _ _ _ h _ => h, fun v nR x hnR hR hk => ?_⟩
                            simp only [List.take_succ_cons, List.take_zero, frameF, Act.put, List.setIfInBounds_toArray, List.set_cons_zero, List.set_cons_succ]
                            exact stepF_val (by first | rfl | simp [Region.wanted, yielded, *]) (by go_simp <;> omega) ⟨rfl, Below.refl _ _, hR⟩
                          · refine ⟨fun _ _ _ _ _ h => h, fun _ _ _ _ h _ => h, fun v nR x hnR hR hk => ?_⟩
                            have h0 : v 0 = .slice (some ⟨ba, oa, none⟩) a.length c := hk 0 (by kernel_rfl)
                            have h1 : v 1 = iv (i : Int) := hk 1 (by kernel_rfl)
                            simp only [List.take_succ_cons, List.take_zero, frameF, Act.put, List.setIfInBounds_toArray, List.set_cons_zero, List.set_cons_succ]
                            exact stepF_val (by first | rfl | simp [Region.wanted, yielded, *]) (by go_simp <;> omega) ⟨rfl, Below.refl _ _, hR⟩
                          · refine ⟨fun _ _ _ _ _ h => h, fun _ _ _ _ h _ => h, fun v nR x hnR hR hk => ?_⟩
                            have h2 : v 2 = .pointer (some ⟨ba, oa + i, none⟩) := hk 2 (by kernel_rfl)
                            have g1 := HCA.out x (hbx.next hR (Nat.le_refl _))
                            simp only [List.take_succ_cons, List.take_zero, frameF, Act.put, List.setIfInBounds_toArray, List.set_cons_zero, List.set_cons_succ]
                            exact stepF_val (by first | rfl | simp [Region.wanted, yielded, *]) (by go_simp <;> omega) ⟨rfl, Below.refl _ _, hR⟩
                          · refine ⟨fun _ _ _ _ _ h => h, fun _ _ _ _ h _ => h, fun v nR x hnR hR hk => ?_⟩
                            simp only [List.take_succ_cons, List.take_zero, frameF, Act.put, List.setIfInBounds_toArray, List.set_cons_zero, List.set_cons_succ]
                            exact stepF_val (by first | rfl | simp [Region.wanted, yielded, *]) (by go_simp <;> omega) ⟨rfl, Below.refl _ _, hR⟩
                          · refine ⟨fun _ _ _ _ _ h => h, fun _ _ _ _ h _ => h, fun v nR x hnR hR hk => ?_⟩
                            simp only [List.take_succ_cons, List.take_zero, frameF, Act.put, List.setIfInBounds_toArray, List.set_cons_zero, List.set_cons_succ]
                            exact stepF_val (by first | rfl | simp [Region.wanted, yielded, *]) (by go_simp <;> omega) ⟨rfl, Below.refl _ _, hR⟩
                          · refine ⟨fun _ _ _ _ _ h => h, fun _ _ _ _ h _ => h, fun v nR x hnR hR hk => ?_⟩
                            have h4 : v 4 = .slice (some ⟨bb, ob, none⟩) b.length c' := hk 4 (by kernel_rfl)
                            have h5 : v 5 = iv (j : Int) := hk 5 (by kernel_rfl)
                            simp only [List.take_succ_cons, List.take_zero, frameF, Act.put, List.setIfInBounds_toArray, List.set_cons_zero, List.set_cons_succ]
                            exact stepF_val (by first | rfl | simp [Region.wanted, yielded, *]) (by go_simp <;> omega) ⟨rfl, Below.refl _ _, hR⟩
                          · refine ⟨fun _ _ _ _ _ h => h, fun _ _ _ _ h _ => h, fun v nR x hnR hR hk => ?_⟩
                            have h6 : v 6 = .pointer (some ⟨bb, ob + j, none⟩) := hk 6 (by kernel_rfl)
                            have g1 := HCB.out x hR
                            simp only [List.take_succ_cons, List.take_zero, frameF, Act.put, List.setIfInBounds_toArray, List.set_cons_zero, List.set_cons_succ]
                            exact stepF_val (by first | rfl | simp [Region.wanted, yielded, *]) (by go_simp <;> omega) ⟨rfl, Below.refl _ _, hR⟩
                          · refine ⟨fun _ _ _ _ _ h => h, fun _ _ _ _ h _ => h, fun v nR x hnR hR hk => ?_⟩
                            have h3 : v 3 = .string sa := hk 3 (by kernel_rfl)
                            have h7 : v 7 = .string sb := hk 7 (by kernel_rfl)
                            simp only [List.take_succ_cons, List.take_zero, frameF, Act.put, List.setIfInBounds_toArray, List.set_cons_zero, List.set_cons_succ]
                            exact stepF_val (by first | rfl | simp [Region.wanted, yielded, *]) (by go_simp <;> omega) ⟨rfl, Below.refl _ _, hR⟩
                          · refine ⟨fun _ _ _ _ _ h => h, fun _ _ _ _ h _ => h, fun v nR x hnR hR hk => ?_⟩
                            have h8 : v 8 = .bool q' := hk 8 (by kernel_rfl)
                            simp only [List.take_succ_cons, List.take_zero, frameF, Act.put, List.setIfInBounds_toArray, List.set_cons_zero, List.set_cons_succ]
                            exact stepF_val (by first | rfl | simp [Region.wanted, yielded, *]) (by go_simp <;> omega) ⟨rfl, Below.refl _ _, hR⟩
                          · refine ⟨fun _ _ _ _ _ h => h, fun _ _ _ _ h _ => h, fun v nR x hnR hR hk => ?_⟩
                            have h9 : v 9 = .bool q' := hk 9 (by kernel_rfl)
                            simp only [List.take_succ_cons, List.take_zero, frameF, Act.put, List.setIfInBounds_toArray, List.set_cons_zero, List.set_cons_succ]
                            exact stepF_val (by first | rfl | simp [Region.wanted, yielded, *]) (by go_simp <;> omega) ⟨rfl, Below.refl _ _, hR⟩
                          · refine ⟨fun _ _ _ _ _ h => h, fun _ _ _ _ h _ => h, fun v nR x hnR hR hk => ?_⟩
                            have h10 : v 10 = iv (n : Int) := hk 10 (by kernel_rfl)
                            have h9 : v 9 = .bool q' := hk 9 (by kernel_rfl)
                            simp only [List.take_succ_cons, List.take_zero, frameF, Act.put, List.setIfInBounds_toArray, List.set_cons_zero, List.set_cons_succ]
                            exact stepF_val (by first | rfl | simp [Region.wanted, yielded, *]) (by go_simp <;> omega) ⟨rfl, Below.refl _ _, hR⟩
                          · refine ⟨fun _ _ _ _ _ h => h, fun _ _ _ _ h _ => h, fun v nR x hnR hR hk => ?_⟩
                            have h9 : v 9 = .bool q' := hk 9 (by kernel_rfl)
                            have h11 : v 11 = .bool z' := hk 11 (by kernel_rfl)
                            simp only [List.take_succ_cons, List.take_zero, frameF, Act.put, List.setIfInBounds_toArray, List.set_cons_zero, List.set_cons_succ]
                            exact stepF_val (by first | rfl | simp [Region.wanted, yielded, *]) (by go_simp <;> omega) ⟨rfl, Below.refl _ _, hR⟩
                          · refine ⟨fun _ _ _ _ _ h => h, fun _ _ _ _ h _ => h, fun v nR x hnR hR hk => ?_⟩
                            have h12 : v 12 = .bool true := hk 12 (by kernel_rfl)
                            simp only [List.take_succ_cons, List.take_zero, frameF, Act.put, List.setIfInBounds_toArray, List.set_cons_zero, List.set_cons_succ]
                            exact stepF_val (by first | rfl | simp [Region.wanted, yielded, *]) (by go_simp <;> omega) ⟨rfl, Below.refl _ _, hR⟩
                          · refine ⟨fun _ _ _ _ _ h => h, fun _ _ _ _ h _ => h, fun v nR x hnR hR hk => ?_⟩
                            have h13 : v 13 = .bool true := hk 13 (by kernel_rfl)
                            simp only [List.take_succ_cons, List.take_zero, frameF, Act.put, List.setIfInBounds_toArray, List.set_cons_zero, List.set_cons_succ]
                            exact stepF_out (by first | rfl | (simp [Region.wanted, yielded, *]; done) | (simp [Region.wanted, yielded, undef, *]; done)) ⟨rfl, Below.refl _ _, hR⟩
                          · refine ⟨fun _ _ _ _ _ h => h, fun _ _ _ _ h _ => h, fun v nR x hnR hR hk => ?_⟩
                            have h13 : v 13 = .bool true := hk 13 (by kernel_rfl)
                            simp only [List.take_succ_cons, List.take_zero, frameF, Act.put, List.setIfInBounds_toArray, List.set_cons_zero, List.set_cons_succ]
                            exact stepF_out (by first | rfl | (simp [Region.wanted, yielded, *]; done) | (simp [Region.wanted, yielded, undef, *]; done)) ⟨rfl, Below.refl _ _, hR⟩
                          · refine ⟨fun _ _ _ _ _ h => h, fun _ _ _ _ h _ => h, fun v nR x hnR hR hk => ?_⟩
                            have h13 : v 13 = .bool true := hk 13 (by kernel_rfl)
                            simp only [List.take_succ_cons, List.take_zero, frameF, Act.put, List.setIfInBounds_toArray, List.set_cons_zero, List.set_cons_succ]
                            exact stepF_out (by first | rfl | (simp [Region.wanted, yielded, *]; done) | (simp [Region.wanted, yielded, undef, *]; done)) ⟨rfl, Below.refl _ _, hR⟩
                          · refine ⟨fun _ _ _ _ _ h => h, fun _ _ _ _ h _ => h, fun v nR x hnR hR hk => ?_⟩
                            have h13 : v 13 = .bool true := hk 13 (by kernel_rfl)
                            simp only [List.take_succ_cons, List.take_zero, frameF, Act.put, List.setIfInBounds_toArray, List.set_cons_zero, List.set_cons_succ]
                            exact stepF_out (by first | rfl | (simp [Region.wanted, yielded, *]; done) | (simp [Region.wanted, yielded, undef, *]; done)) ⟨rfl, Below.refl _ _, hR⟩
                          · refine ⟨fun _ _ _ _ _ h => h, fun _ _ _ _ h _ => h, fun v nR x hnR hR hk => ?_⟩
                            have h13 : v 13 = .bool true := hk 13 (by kernel_rfl)
                            simp only [List.take_succ_cons, List.take_zero, frameF, Act.put, List.setIfInBounds_toArray, List.set_cons_zero, List.set_cons_succ]
                            exact stepF_out (by first | rfl | (simp [Region.wanted, yielded, *]; done) | (simp [Region.wanted, yielded, undef, *]; done)) ⟨rfl, Below.refl _ _, hR⟩
                          · refine ⟨fun _ _ _ _ _ h => h, fun _ _ _ _ h _ => h, fun v nR x hnR hR hk => ?_⟩
                            have h13 : v 13 = .bool true := hk 13 (by kernel_rfl)
                            simp only [List.take_succ_cons, List.take_zero, frameF, Act.put, List.setIfInBounds_toArray, List.set_cons_zero, List.set_cons_succ]
                            exact stepF_out (by first | rfl | (simp [Region.wanted, yielded, *]; done) | (simp [Region.wanted, yielded, undef, *]; done)) ⟨rfl, Below.refl _ _, hR⟩
                          · refine ⟨fun _ _ _ _ _ h => h, fun _ _ _ _ h _ => h, fun v nR x hnR hR hk => ?_⟩
                            have h13 : v 13 = .bool true := hk 13 (by kernel_rfl)
                            simp only [List.take_succ_cons, List.take_zero, frameF, Act.put, List.setIfInBounds_toArray, List.set_cons_zero, List.set_cons_succ]
                            exact stepF_out (by first | rfl | (simp [Region.wanted, yielded, *]; done) | (simp [Region.wanted, yielded, undef, *]; done)) ⟨rfl, Below.refl _ _, hR⟩
                          · refine ⟨fun _ _ _ _ _ h => h, fun _ _ _ _ h _ => h, fun v nR x hnR hR hk => ?_⟩
                            have h13 : v 13 = .bool true := hk 13 (by kernel_rfl)
                            simp only [List.take_succ_cons, List.take_zero, frameF, Act.put, List.setIfInBounds_toArray, List.set_cons_zero, List.set_cons_succ]
                            exact stepF_out (by first | rfl | (simp [Region.wanted, yielded, *]; done) | (simp [Region.wanted, yielded, undef, *]; done)) ⟨rfl, Below.refl _ _, hR⟩
                          · refine ⟨fun _ _ _ _ _ h => h, fun _ _ _ _ h _ => h, fun v nR x hnR hR hk => ?_⟩
                            have h13 : v 13 = .bool true := hk 13 (by kernel_rfl)
                            simp only [List.take_succ_cons, List.take_zero, frameF, Act.put, List.setIfInBounds_toArray, List.set_cons_zero, List.set_cons_succ]
                            exact stepF_out (by first | rfl | (simp [Region.wanted, yielded, *]; done) | (simp [Region.wanted, yielded, undef, *]; done)) ⟨rfl, Below.refl _ _, hR⟩
                          · refine ⟨fun _ _ _ _ _ h => h, fun _ _ _ _ h _ => h, fun v nR x hnR hR hk => ?_⟩
                            have h13 : v 13 = .bool true := hk 13 (by kernel_rfl)
                            simp only [List.take_succ_cons, List.take_zero, frameF, Act.put, List.setIfInBounds_toArray, List.set_cons_zero, List.set_cons_succ]
                            exact stepF_out (by first | rfl | (simp [Region.wanted, yielded, *]; done) | (simp [Region.wanted, yielded, undef, *]; done)) ⟨rfl, Below.refl _ _, hR⟩
                          · refine ⟨fun _ _ _ _ _ h => h, fun _ _ _ _ h _ => h, fun v nR x hnR hR hk => ?_⟩
                            have h23 : v 23 = undef := hk 23 (by kernel_rfl)
                            simp only [List.take_succ_cons, List.take_zero, frameF, Act.put, List.setIfInBounds_toArray, List.set_cons_zero, List.set_cons_succ]
                            exact stepF_out (by first | rfl | (simp [Region.wanted, yielded, *]; done) | (simp [Region.wanted, yielded, undef, *]; done)) ⟨rfl, Below.refl _ _, hR⟩
                          · refine ⟨fun _ _ _ _ _ h => h, fun _ _ _ _ h _ => h, fun v nR x hnR hR hk => ?_⟩
                            have h23 : v 23 = undef := hk 23 (by kernel_rfl)
                            simp only [List.take_succ_cons, List.take_zero, frameF, Act.put, List.setIfInBounds_toArray, List.set_cons_zero, List.set_cons_succ]
                            exact stepF_out (by first | rfl | (simp [Region.wanted, yielded, *]; done) | (simp [Region.wanted, yielded, undef, *]; done)) ⟨rfl, Below.refl _ _, hR⟩
                          · refine ⟨fun _ _ _ _ _ h => h, fun _ _ _ _ h _ => h, fun v nR x hnR hR hk => ?_⟩
                            have h13 : v 13 = .bool true := hk 13 (by kernel_rfl)
                            simp only [List.take_succ_cons, List.take_zero, frameF, Act.put, List.setIfInBounds_toArray, List.set_cons_zero, List.set_cons_succ]
                            exact stepF_out (by first | rfl | (simp [Region.wanted, yielded, *]; done) | (simp [Region.wanted, yielded, undef, *]; done)) ⟨rfl, Below.refl _ _, hR⟩
                          · refine ⟨fun _ _ _ _ _ h => h, fun _ _ _ _ h _ => h, fun v nR x hnR hR hk => ?_⟩
                            have h13 : v 13 = .bool true := hk 13 (by kernel_rfl)
                            have h26 : v 26 = undef := hk 26 (by kernel_rfl)
                            simp only [List.take_succ_cons, List.take_zero, frameF, Act.put, List.setIfInBounds_toArray, List.set_cons_zero, List.set_cons_succ]
                            exact stepF_val (by first | rfl | simp [Region.wanted, yielded, *]) (by go_simp <;> omega) ⟨rfl, Below.refl _ _, hR⟩
                        · intro v nR x1 hnR hR hall
                          have h27 : v 27 = .bool true := hall 27 (by decide)
                          clear hall hnR
                          simp only [List.drop_succ_cons, List.drop_zero, List.take_succ_cons, List.take_zero, frameF, Act.put, List.setIfInBounds_toArray, List.set_cons_zero, List.set_cons_succ, Nat.zero_add, Nat.reduceAdd, h27]
                          have hb02 := hb0.next hR (Nat.le_refl _)
                          go_wp2_with fail
                          go_ret2
                          exact ⟨by rw [HN.out]; rfl, hb02⟩
                    · have hqw : q' = false := by rw [hqq, hqv]; rfl
                      by_cases hn0 : n = 0
                      · have hzv : z = true := by rw [hzn]; exact decide_eq_true hn0
                        clear hqq hzz hzn
                        have HN : Hid (R = (0, 8)) := Lib.hid (by
                          rw [← HL3.out, if_neg]
                          intro h
                          exact absurd ((HLI.out.1 h).1.1 hn0) (by rw [hqv]; decide))
                        clear hn0
                        go_upto_region 24 with fail
                        refine wp_free_lit (by kernel_rfl) 28 (by kernel_rfl) (by kernel_rfl) (by decide) (fun _ x => Below wr.heap.size wr x) (fun x x' => Below x.heap.size x x')
                          [fun _ u _ => u = .slice (some ⟨ba, oa, none⟩) a.length c,
                           fun _ u _ => u = iv (i : Int),
                           fun _ u _ => u = .pointer (some ⟨ba, oa + i, none⟩),
                           fun _ u _ => u = .string sa,
                           fun _ u _ => u = .slice (some ⟨bb, ob, none⟩) b.length c',
                           fun _ u _ => u = iv (j : Int),
                           fun _ u _ => u = .pointer (some ⟨bb, ob + j, none⟩),
                           fun _ u _ => u = .string sb,
                           fun _ u _ => u = .bool q',
                           fun _ u _ => u = .bool q',
                           fun _ u _ => u = undef,
                           fun _ u _ => u = undef,
                           fun _ u _ => u = .bool false,
                           fun _ u _ => u = .bool false,
                           fun _ u _ => u = .slice (some ⟨ba, oa, none⟩) a.length c,
                           fun _ u _ => u = iv (i : Int),
                           fun _ u _ => u = .pointer (some ⟨ba, oa + i, none⟩),
                           fun _ u _ => u = .string sa,
                           fun _ u _ => u = .slice (some ⟨bb, ob, none⟩) b.length c',
                           fun _ u _ => u = iv (j : Int),
                           fun _ u _ => u = .pointer (some ⟨bb, ob + j, none⟩),
                           fun _ u _ => u = .string sb,
                           fun _ u _ => u = .bool q,
                           fun _ u _ => u = .bool q,
                           fun _ u _ => u = iv (n : Int),
                           fun _ u _ => u = .bool z,
                           fun _ u _ => u = .bool true,
                           fun _ u _ => u = .bool true]
                          (Below.refl _ wr).drew ?_ ?_
                        · simp only [List.take_succ_cons, List.take_zero, HopL]
                          refine ⟨?_, ?_, ?_, ?_, ?_, ?_, ?_, ?_, ?_, ?_, ?_, ?_, ?_, ?_, ?_, ?_, ?_, ?_, ?_, ?_, ?_, ?_, ?_, ?_, ?_, ?_, ?_, ?_, trivial⟩
                          · refine ⟨fun _ _ _ _ _ h => h, fun _ _ _ _ h _ => h, fun v nR x hnR hR hk => ?_⟩
                            simp only [List.take_succ_cons, List.take_zero, frameF, Act.put, List.setIfInBounds_toArray, List.set_cons_zero, List.set_cons_succ]
                            exact stepF_val (by first | rfl | simp [Region.wanted, yielded, *]) (by go_simp <;> omega) ⟨rfl, Below.refl _ _, hR⟩
                          · refine ⟨fun _ _ _ _ _ h => h, fun _ _ _ _ h _ => h, fun v nR x hnR hR hk => ?_⟩
                            simp only [List.take_succ_cons, List.take_zero, frameF, Act.put, List.setIfInBounds_toArray, List.set_cons_zero, List.set_cons_succ]
                            exact stepF_val (by first | rfl | simp [Region.wanted, yielded, *]) (by go_simp <;> omega) ⟨rfl, Below.refl _ _, hR⟩
                          · refine ⟨fun _ _ _ _ _ h => h, fun _ _ _ _ h _ => h, fun v nR x hnR hR hk => ?_⟩
                            have h0 : v 0 = .slice (some ⟨ba, oa, none⟩) a.length c := hk 0 (by kernel_rfl)
                            have h1 : v 1 = iv (i : Int) := hk 1 (by kernel_rfl)
                            simp only [List.take_succ_cons, List.take_zero, frameF, Act.put, List.setIfInBounds_toArray, List.set_cons_zero, List.set_cons_succ]
                            exact stepF_val (by first | rfl | simp [Region.wanted, yielded, *]) (by go_simp <;> omega) ⟨rfl, Below.refl _ _, hR⟩
                          · refine ⟨fun _ _ _ _ _ h => h, fun _ _ _ _ h _ => h, fun v nR x hnR hR hk => ?_⟩
                            have h2 : v 2 = .pointer (some ⟨ba, oa + i, none⟩) := hk 2 (by kernel_rfl)
                            have g1 := HCA.out x (hbx.next hR (Nat.le_refl _))
                            simp only [List.take_succ_cons, List.take_zero, frameF, Act.put, List.setIfInBounds_toArray, List.set_cons_zero, List.set_cons_succ]
                            exact stepF_val (by first | rfl | simp [Region.wanted, yielded, *]) (by go_simp <;> omega) ⟨rfl, Below.refl _ _, hR⟩
                          · refine ⟨fun _ _ _ _ _ h => h, fun _ _ _ _ h _ => h, fun v nR x hnR hR hk => ?_⟩
                            simp only [List.take_succ_cons, List.take_zero, frameF, Act.put, List.setIfInBounds_toArray, List.set_cons_zero, List.set_cons_succ]
                            exact stepF_val (by first | rfl | simp [Region.wanted, yielded, *]) (by go_simp <;> omega) ⟨rfl, Below.refl _ _, hR⟩
                          · refine ⟨fun _ _ _ _ _ h => h, fun _ _ _ _ h _ => h, fun v nR x hnR hR hk => ?_⟩
                            simp only [List.take_succ_cons, List.take_zero, frameF, Act.put, List.setIfInBounds_toArray, List.set_cons_zero, List.set_cons_succ]
                            exact stepF_val (by first | rfl | simp [Region.wanted, yielded, *]) (by go_simp <;> omega) ⟨rfl, Below.refl _ _, hR⟩
                          · refine ⟨fun _ _ _ _ _ h => h, fun _ _ _ _ h _ => h, fun v nR x hnR hR hk => ?_⟩
                            have h4 : v 4 = .slice (some ⟨bb, ob, none⟩) b.length c' := hk 4 (by kernel_rfl)
                            have h5 : v 5 = iv (j : Int) := hk 5 (by kernel_rfl)
                            simp only [List.take_succ_cons, List.take_zero, frameF, Act.put, List.setIfInBounds_toArray, List.set_cons_zero, List.set_cons_succ]
                            exact stepF_val (by first | rfl | simp [Region.wanted, yielded, *]) (by go_simp <;> omega) ⟨rfl, Below.refl _ _, hR⟩
                          · refine ⟨fun _ _ _ _ _ h => h, fun _ _ _ _ h _ => h, fun v nR x hnR hR hk => ?_⟩
                            have h6 : v 6 = .pointer (some ⟨bb, ob + j, none⟩) := hk 6 (by kernel_rfl)
                            have g1 := HCB.out x hR
                            simp only [List.take_succ_cons, List.take_zero, frameF, Act.put, List.setIfInBounds_toArray, List.set_cons_zero, List.set_cons_succ]
                            exact stepF_val (by first | rfl | simp [Region.wanted, yielded, *]) (by go_simp <;> omega) ⟨rfl, Below.refl _ _, hR⟩
                          · refine ⟨fun _ _ _ _ _ h => h, fun _ _ _ _ h _ => h, fun v nR x hnR hR hk => ?_⟩
                            have h3 : v 3 = .string sa := hk 3 (by kernel_rfl)
                            have h7 : v 7 = .string sb := hk 7 (by kernel_rfl)
                            simp only [List.take_succ_cons, List.take_zero, frameF, Act.put, List.setIfInBounds_toArray, List.set_cons_zero, List.set_cons_succ]
                            exact stepF_val (by first | rfl | simp [Region.wanted, yielded, *]) (by go_simp <;> omega) ⟨rfl, Below.refl _ _, hR⟩
                          · refine ⟨fun _ _ _ _ _ h => h, fun _ _ _ _ h _ => h, fun v nR x hnR hR hk => ?_⟩
                            have h8 : v 8 = .bool q' := hk 8 (by kernel_rfl)
                            simp only [List.take_succ_cons, List.take_zero, frameF, Act.put, List.setIfInBounds_toArray, List.set_cons_zero, List.set_cons_succ]
                            exact stepF_val (by first | rfl | simp [Region.wanted, yielded, *]) (by go_simp <;> omega) ⟨rfl, Below.refl _ _, hR⟩
                          · refine ⟨fun _ _ _ _ _ h => h, fun _ _ _ _ h _ => h, fun v nR x hnR hR hk => ?_⟩
                            have h9 : v 9 = .bool q' := hk 9 (by kernel_rfl)
                            simp only [List.take_succ_cons, List.take_zero, frameF, Act.put, List.setIfInBounds_toArray, List.set_cons_zero, List.set_cons_succ]
                            exact stepF_out (by first | rfl | (simp [Region.wanted, yielded, *]; done) | (simp [Region.wanted, yielded, undef, *]; done)) ⟨rfl, Below.refl _ _, hR⟩
                          · refine ⟨fun _ _ _ _ _ h => h, fun _ _ _ _ h _ => h, fun v nR x hnR hR hk => ?_⟩
                            have h9 : v 9 = .bool q' := hk 9 (by kernel_rfl)
                            simp only [List.take_succ_cons, List.take_zero, frameF, Act.put, List.setIfInBounds_toArray, List.set_cons_zero, List.set_cons_succ]
                            exact stepF_out (by first | rfl | (simp [Region.wanted, yielded, *]; done) | (simp [Region.wanted, yielded, undef, *]; done)) ⟨rfl, Below.refl _ _, hR⟩
                          · refine ⟨fun _ _ _ _ _ h => h, fun _ _ _ _ h _ => h, fun v nR x hnR hR hk => ?_⟩
                            have h9 : v 9 = .bool q' := hk 9 (by kernel_rfl)
                            have h11 : v 11 = undef := hk 11 (by kernel_rfl)
                            simp only [List.take_succ_cons, List.take_zero, frameF, Act.put, List.setIfInBounds_toArray, List.set_cons_zero, List.set_cons_succ]
                            exact stepF_val (by first | rfl | simp [Region.wanted, yielded, *]) (by go_simp <;> omega) ⟨rfl, Below.refl _ _, hR⟩
                          · refine ⟨fun _ _ _ _ _ h => h, fun _ _ _ _ h _ => h, fun v nR x hnR hR hk => ?_⟩
                            have h12 : v 12 = .bool false := hk 12 (by kernel_rfl)
                            simp only [List.take_succ_cons, List.take_zero, frameF, Act.put, List.setIfInBounds_toArray, List.set_cons_zero, List.set_cons_succ]
                            exact stepF_val (by first | rfl | simp [Region.wanted, yielded, *]) (by go_simp <;> omega) ⟨rfl, Below.refl _ _, hR⟩
                          · refine ⟨fun _ _ _ _ _ h => h, fun _ _ _ _ h _ => h, fun v nR x hnR hR hk => ?_⟩
                            have h13 : v 13 = .bool false := hk 13 (by kernel_rfl)
                            simp only [List.take_succ_cons, List.take_zero, frameF, Act.put, List.setIfInBounds_toArray, List.set_cons_zero, List.set_cons_succ]
                            exact stepF_val (by first | rfl | simp [Region.wanted, yielded, *]) (by go_simp <;> omega) ⟨rfl, Below.refl _ _, hR⟩
                          · refine ⟨fun _ _ _ _ _ h => h, fun _ _ _ _ h _ => h, fun v nR x hnR hR hk => ?_⟩
                            have h13 : v 13 = .bool false := hk 13 (by kernel_rfl)
                            simp only [List.take_succ_cons, List.take_zero, frameF, Act.put, List.setIfInBounds_toArray, List.set_cons_zero, List.set_cons_succ]
                            exact stepF_val (by first | rfl | simp [Region.wanted, yielded, *]) (by go_simp <;> omega) ⟨rfl, Below.refl _ _, hR⟩
                          · refine ⟨fun _ _ _ _ _ h => h, fun _ _ _ _ h _ => h, fun v nR x hnR hR hk => ?_⟩
                            have h14 : v 14 = .slice (some ⟨ba, oa, none⟩) a.length c := hk 14 (by kernel_rfl)
                            have h15 : v 15 = iv (i : Int) := hk 15 (by kernel_rfl)
                            have h13 : v 13 = .bool false := hk 13 (by kernel_rfl)
                            simp only [List.take_succ_cons, List.take_zero, frameF, Act.put, List.setIfInBounds_toArray, List.set_cons_zero, List.set_cons_succ]
                            exact stepF_val (by first | rfl | simp [Region.wanted, yielded, *]) (by go_simp <;> omega) ⟨rfl, Below.refl _ _, hR⟩
                          · refine ⟨fun _ _ _ _ _ h => h, fun _ _ _ _ h _ => h, fun v nR x hnR hR hk => ?_⟩
                            have h16 : v 16 = .pointer (some ⟨ba, oa + i, none⟩) := hk 16 (by kernel_rfl)
                            have h13 : v 13 = .bool false := hk 13 (by kernel_rfl)
                            have g1 := HCA.out x (hbx.next hR (Nat.le_refl _))
                            simp only [List.take_succ_cons, List.take_zero, frameF, Act.put, List.setIfInBounds_toArray, List.set_cons_zero, List.set_cons_succ]
                            exact stepF_val (by first | rfl | simp [Region.wanted, yielded, *]) (by go_simp <;> omega) ⟨rfl, Below.refl _ _, hR⟩
                          · refine ⟨fun _ _ _ _ _ h => h, fun _ _ _ _ h _ => h, fun v nR x hnR hR hk => ?_⟩
                            have h13 : v 13 = .bool false := hk 13 (by kernel_rfl)
                            simp only [List.take_succ_cons, List.take_zero, frameF, Act.put, List.setIfInBounds_toArray, List.set_cons_zero, List.set_cons_succ]
                            exact stepF_val (by first | rfl | simp [Region.wanted, yielded, *]) (by go_simp <;> omega) ⟨rfl, Below.refl _ _, hR⟩
                          · refine ⟨fun _ _ _ _ _ h => h, fun _ _ _ _ h _ => h, fun v nR x hnR hR hk => ?_⟩
                            have h13 : v 13 = .bool false := hk 13 (by kernel_rfl)
                            simp only [List.take_succ_cons, List.take_zero, frameF, Act.put, List.setIfInBounds_toArray, List.set_cons_zero, List.set_cons_succ]
                            exact stepF_val (by first | rfl | simp [Region.wanted, yielded, *]) (by go_simp <;> omega) ⟨rfl, Below.refl _ _, hR⟩
                          · refine ⟨fun _ _ _ _ _ h => h, fun _ _ _ _ h _ => h, fun v nR x hnR hR hk => ?_⟩
                            have h18 : v 18 = .slice (some ⟨bb, ob, none⟩) b.length c' := hk 18 (by kernel_rfl)
                            have h19 : v 19 = iv (j : Int) := hk 19 (by kernel_rfl)
                            have h13 : v 13 = .bool false := hk 13 (by kernel_rfl)
                            simp only [List.take_succ_cons, List.take_zero, frameF, Act.put, List.setIfInBounds_toArray, List.set_cons_zero, List.set_cons_succ]
                            exact stepF_val (by first | rfl | simp [Region.wanted, yielded, *]) (by go_simp <;> omega) ⟨rfl, Below.refl _ _, hR⟩
                          · refine ⟨fun _ _ _ _ _ h => h, fun _ _ _ _ h _ => h, fun v nR x hnR hR hk => ?_⟩
                            have h20 : v 20 = .pointer (some ⟨bb, ob + j, none⟩) := hk 20 (by kernel_rfl)
                            have h13 : v 13 = .bool false := hk 13 (by kernel_rfl)
                            have g1 := HCB.out x hR
                            simp only [List.take_succ_cons, List.take_zero, frameF, Act.put, List.setIfInBounds_toArray, List.set_cons_zero, List.set_cons_succ]
                            exact stepF_val (by first | rfl | simp [Region.wanted, yielded, *]) (by go_simp <;> omega) ⟨rfl, Below.refl _ _, hR⟩
                          · refine ⟨fun _ _ _ _ _ h => h, fun _ _ _ _ h _ => h, fun v nR x hnR hR hk => ?_⟩
                            have h17 : v 17 = .string sa := hk 17 (by kernel_rfl)
                            have h21 : v 21 = .string sb := hk 21 (by kernel_rfl)
                            have h13 : v 13 = .bool false := hk 13 (by kernel_rfl)
                            simp only [List.take_succ_cons, List.take_zero, frameF, Act.put, List.setIfInBounds_toArray, List.set_cons_zero, List.set_cons_succ]
                            exact stepF_val (by first | rfl | simp [Region.wanted, yielded, *]) (by go_simp <;> omega) ⟨rfl, Below.refl _ _, hR⟩
                          · refine ⟨fun _ _ _ _ _ h => h, fun _ _ _ _ h _ => h, fun v nR x hnR hR hk => ?_⟩
                            have h22 : v 22 = .bool q := hk 22 (by kernel_rfl)
                            have h13 : v 13 = .bool false := hk 13 (by kernel_rfl)
                            simp only [List.take_succ_cons, List.take_zero, frameF, Act.put, List.setIfInBounds_toArray, List.set_cons_zero, List.set_cons_succ]
                            exact stepF_val (by first | rfl | simp [Region.wanted, yielded, *]) (by go_simp <;> omega) ⟨rfl, Below.refl _ _, hR⟩
                          · refine ⟨fun _ _ _ _ _ h => h, fun _ _ _ _ h _ => h, fun v nR x hnR hR hk => ?_⟩
                            have h23 : v 23 = .bool q := hk 23 (by kernel_rfl)
                            simp only [List.take_succ_cons, List.take_zero, frameF, Act.put, List.setIfInBounds_toArray, List.set_cons_zero, List.set_cons_succ]
                            exact stepF_val (by first | rfl | simp [Region.wanted, yielded, *]) (by go_simp <;> omega) ⟨rfl, Below.refl _ _, hR⟩
                          · refine ⟨fun _ _ _ _ _ h => h, fun _ _ _ _ h _ => h, fun v nR x hnR hR hk => ?_⟩
                            have h24 : v 24 = iv (n : Int) := hk 24 (by kernel_rfl)
                            have h23 : v 23 = .bool q := hk 23 (by kernel_rfl)
                            simp only [List.take_succ_cons, List.take_zero, frameF, Act.put, List.setIfInBounds_toArray, List.set_cons_zero, List.set_cons_succ]
                            exact stepF_val (by first | rfl | simp [Region.wanted, yielded, *]) (by go_simp <;> omega) ⟨rfl, Below.refl _ _, hR⟩
                          · refine ⟨fun _ _ _ _ _ h => h, fun _ _ _ _ h _ => h, fun v nR x hnR hR hk => ?_⟩
                            have h23 : v 23 = .bool q := hk 23 (by kernel_rfl)
                            have h25 : v 25 = .bool z := hk 25 (by kernel_rfl)
                            have h13 : v 13 = .bool false := hk 13 (by kernel_rfl)
                            simp only [List.take_succ_cons, List.take_zero, frameF, Act.put, List.setIfInBounds_toArray, List.set_cons_zero, List.set_cons_succ]
                            exact stepF_val (by first | rfl | simp [Region.wanted, yielded, *]) (by go_simp <;> omega) ⟨rfl, Below.refl _ _, hR⟩
                          · refine ⟨fun _ _ _ _ _ h => h, fun _ _ _ _ h _ => h, fun v nR x hnR hR hk => ?_⟩
                            have h13 : v 13 = .bool false := hk 13 (by kernel_rfl)
                            have h26 : v 26 = .bool true := hk 26 (by kernel_rfl)
                            simp only [List.take_succ_cons, List.take_zero, frameF, Act.put, List.setIfInBounds_toArray, List.set_cons_zero, List.set_cons_succ]
                            exact stepF_val (by first | rfl | simp [Region.wanted, yielded, *]) (by go_simp <;> omega) ⟨rfl, Below.refl _ _, hR⟩
                        · intro v nR x1 hnR hR hall
                          have h27 : v 27 = .bool true := hall 27 (by decide)
                          clear hall hnR
                          simp only [List.drop_succ_cons, List.drop_zero, List.take_succ_cons, List.take_zero, frameF, Act.put, List.setIfInBounds_toArray, List.set_cons_zero, List.set_cons_succ, Nat.zero_add, Nat.reduceAdd, h27]
                          have hb02 := hb0.next hR (Nat.le_refl _)
                          go_wp2_with fail
                          go_ret2
                          exact ⟨by rw [HN.out]; rfl, hb02⟩
                      · have hzv : z = false := by rw [hzn]; exact decide_eq_false hn0
                        clear hqq hzz hzn
                        have HOK : Hid ((∀ k l, i < k → k < a.length → j < l → l < b.length → Later a b XS i j (n : Int) k l) → (match File.rowP (File.laterOk a b XS) i (j + 1) (max (m : Int) (n : Int)) (rx.drop (j + 1)) with | some m => File.levelsP (File.laterOk a b XS) (i + 1) m (XS.drop (i + 1)) | none => (0, 8)) = R) := Lib.hid fun h => by
                          rw [← HL3.out, if_pos (HLI.out.2 ⟨⟨fun e => absurd e hn0, fun e => by rw [hqv] at e; cases e⟩, h⟩)]
                        clear hn0
                        go_upto_region 24 with fail
                        refine wp_free_lit (by kernel_rfl) 28 (by kernel_rfl) (by kernel_rfl) (by decide) (fun _ x => Below wr.heap.size wr x) (fun x x' => Below x.heap.size x x')
                          [fun _ u _ => u = .slice (some ⟨ba, oa, none⟩) a.length c,
                           fun _ u _ => u = iv (i : Int),
                           fun _ u _ => u = .pointer (some ⟨ba, oa + i, none⟩),
                           fun _ u _ => u = .string sa,
                           fun _ u _ => u = .slice (some ⟨bb, ob, none⟩) b.length c',
                           fun _ u _ => u = iv (j : Int),
                           fun _ u _ => u = .pointer (some ⟨bb, ob + j, none⟩),
                           fun _ u _ => u = .string sb,
                           fun _ u _ => u = .bool q',
                           fun _ u _ => u = .bool q',
                           fun _ u _ => u = undef,
                           fun _ u _ => u = undef,
                           fun _ u _ => u = .bool false,
                           fun _ u _ => u = .bool false,
                           fun _ u _ => u = .slice (some ⟨ba, oa, none⟩) a.length c,
                           fun _ u _ => u = iv (i : Int),
                           fun _ u _ => u = .pointer (some ⟨ba, oa + i, none⟩),
                           fun _ u _ => u = .string sa,
                           fun _ u _ => u = .slice (some ⟨bb, ob, none⟩) b.length c',
                           fun _ u _ => u = iv (j : Int),
                           fun _ u _ => u = .pointer (some ⟨bb, ob + j, none⟩),
                           fun _ u _ => u = .string sb,
                           fun _ u _ => u = .bool q,
                           fun _ u _ => u = .bool q,
                           fun _ u _ => u = iv (n : Int),
                           fun _ u _ => u = .bool z,
                           fun _ u _ => u = .bool false,
                           fun _ u _ => u = .bool false]
                          (Below.refl _ wr).drew ?_ ?_
                        · simp only [List.take_succ_cons, List.take_zero, HopL]
                          refine ⟨?_, ?_, ?_, ?_, ?_, ?_, ?_, ?_, ?_, ?_, ?_, ?_, ?_, ?_, ?_, ?_, ?_, ?_, ?_, ?_, ?_, ?_, ?_, ?_, ?_, ?_, ?_, ?_, trivial⟩
                          · refine ⟨fun _ _ _ _ _ h => h, fun _ _ _ _ h _ => h, fun v nR x hnR hR hk => ?_⟩
                            simp only [List.take_succ_cons, List.take_zero, frameF, Act.put, List.setIfInBounds_toArray, List.set_cons_zero, List.set_cons_succ]
                            exact stepF_val (by first | rfl | simp [Region.wanted, yielded, *]) (by go_simp <;> omega) ⟨rfl, Below.refl _ _, hR⟩
                          · refine ⟨fun _ _ _ _ _ h => h, fun _ _ _ _ h _ => h, fun v nR x hnR hR hk => ?_⟩
                            simp only [List.take_succ_cons, List.take_zero, frameF, Act.put, List.setIfInBounds_toArray, List.set_cons_zero, List.set_cons_succ]
                            exact stepF_val (by first | rfl | simp [Region.wanted, yielded, *]) (by go_simp <;> omega) ⟨rfl, Below.refl _ _, hR⟩
                          · refine ⟨fun _ _ _ _ _ h => h, fun _ _ _ _ h _ => h, fun v nR x hnR hR hk => ?_⟩
                            have h0 : v 0 = .slice (some ⟨ba, oa, none⟩) a.length c := hk 0 (by kernel_rfl)
                            have h1 : v 1 = iv (i : Int) := hk 1 (by kernel_rfl)
                            simp only [List.take_succ_cons, List.take_zero, frameF, Act.put, List.setIfInBounds_toArray, List.set_cons_zero, List.set_cons_succ]
                            exact stepF_val (by first | rfl | simp [Region.wanted, yielded, *]) (by go_simp <;> omega) ⟨rfl, Below.refl _ _, hR⟩
                          · refine ⟨fun _ _ _ _ _ h => h, fun _ _ _ _ h _ => h, fun v nR x hnR hR hk => ?_⟩
                            have h2 : v 2 = .pointer (some ⟨ba, oa + i, none⟩) := hk 2 (by kernel_rfl)
                            have g1 := HCA.out x (hbx.next hR (Nat.le_refl _))
                            simp only [List.take_succ_cons, List.take_zero, frameF, Act.put, List.setIfInBounds_toArray, List.set_cons_zero, List.set_cons_succ]
                            exact stepF_val (by first | rfl | simp [Region.wanted, yielded, *]) (by go_simp <;> omega) ⟨rfl, Below.refl _ _, hR⟩
                          · refine ⟨fun _ _ _ _ _ h => h, fun _ _ _ _ h _ => h, fun v nR x hnR hR hk => ?_⟩
                            simp only [List.take_succ_cons, List.take_zero, frameF, Act.put, List.setIfInBounds_toArray, List.set_cons_zero, List.set_cons_succ]
                            exact stepF_val (by first | rfl | simp [Region.wanted, yielded, *]) (by go_simp <;> omega) ⟨rfl, Below.refl _ _, hR⟩
                          · refine ⟨fun _ _ _ _ _ h => h, fun _ _ _ _ h _ => h, fun v nR x hnR hR hk => ?_⟩
                            simp only [List.take_succ_cons, List.take_zero, frameF, Act.put, List.setIfInBounds_toArray, List.set_cons_zero, List.set_cons_succ]
                            exact stepF_val (by first | rfl | simp [Region.wanted, yielded, *]) (by go_simp <;> omega) ⟨rfl, Below.refl _ _, hR⟩
                          · refine ⟨fun _ _ _ _ _ h => h, fun _ _ _ _ h _ => h, fun v nR x hnR hR hk => ?_⟩
                            have h4 : v 4 = .slice (some ⟨bb, ob, none⟩) b.length c' := hk 4 (by kernel_rfl)
                            have h5 : v 5 = iv (j : Int) := hk 5 (by kernel_rfl)
                            simp only [List.take_succ_cons, List.take_zero, frameF, Act.put, List.setIfInBounds_toArray, List.set_cons_zero, List.set_cons_succ]
                            exact stepF_val (by first | rfl | simp [Region.wanted, yielded, *]) (by go_simp <;> omega) ⟨rfl, Below.refl _ _, hR⟩
                          · refine ⟨fun _ _ _ _ _ h => h, fun _ _ _ _ h _ => h, fun v nR x hnR hR hk => ?_⟩
                            have h6 : v 6 = .pointer (some ⟨bb, ob + j, none⟩) := hk 6 (by kernel_rfl)
                            have g1 := HCB.out x hR
                            simp only [List.take_succ_cons, List.take_zero, frameF, Act.put, List.setIfInBounds_toArray, List.set_cons_zero, List.set_cons_succ]
                            exact stepF_val (by first | rfl | simp [Region.wanted, yielded, *]) (by go_simp <;> omega) ⟨rfl, Below.refl _ _, hR⟩
                          · refine ⟨fun _ _ _ _ _ h => h, fun _ _ _ _ h _ => h, fun v nR x hnR hR hk => ?_⟩
                            have h3 : v 3 = .string sa := hk 3 (by kernel_rfl)
                            have h7 : v 7 = .string sb := hk 7 (by kernel_rfl)
                            simp only [List.take_succ_cons, List.take_zero, frameF, Act.put, List.setIfInBounds_toArray, List.set_cons_zero, List.set_cons_succ]
                            exact stepF_val (by first | rfl | simp [Region.wanted, yielded, *]) (by go_simp <;> omega) ⟨rfl, Below.refl _ _, hR⟩
                          · refine ⟨fun _ _ _ _ _ h => h, fun _ _ _ _ h _ => h, fun v nR x hnR hR hk => ?_⟩
                            have h8 : v 8 = .bool q' := hk 8 (by kernel_rfl)
                            simp only [List.take_succ_cons, List.take_zero, frameF, Act.put, List.setIfInBounds_toArray, List.set_cons_zero, List.set_cons_succ]
                            exact stepF_val (by first | rfl | simp [Region.wanted, yielded, *]) (by go_simp <;> omega) ⟨rfl, Below.refl _ _, hR⟩
                          · refine ⟨fun _ _ _ _ _ h => h, fun _ _ _ _ h _ => h, fun v nR x hnR hR hk => ?_⟩
                            have h9 : v 9 = .bool q' := hk 9 (by kernel_rfl)
                            simp only [List.take_succ_cons, List.take_zero, frameF, Act.put, List.setIfInBounds_toArray, List.set_cons_zero, List.set_cons_succ]
                            exact stepF_out (by first | rfl | (simp [Region.wanted, yielded, *]; done) | (simp [Region.wanted, yielded, undef, *]; done)) ⟨rfl, Below.refl _ _, hR⟩
                          · refine ⟨fun _ _ _ _ _ h => h, fun _ _ _ _ h _ => h, fun v nR x hnR hR hk => ?_⟩
                            have h9 : v 9 = .bool q' := hk 9 (by kernel_rfl)
                            simp only [List.take_succ_cons, List.take_zero, frameF, Act.put, List.setIfInBounds_toArray, List.set_cons_zero, List.set_cons_succ]
                            exact stepF_out (by first | rfl | (simp [Region.wanted, yielded, *]; done) | (simp [Region.wanted, yielded, undef, *]; done)) ⟨rfl, Below.refl _ _, hR⟩
                          · refine ⟨fun _ _ _ _ _ h => h, fun _ _ _ _ h _ => h, fun v nR x hnR hR hk => ?_⟩
                            have h9 : v 9 = .bool q' := hk 9 (by kernel_rfl)
                            have h11 : v 11 = undef := hk 11 (by kernel_rfl)
                            simp only [List.take_succ_cons, List.take_zero, frameF, Act.put, List.setIfInBounds_toArray, List.set_cons_zero, List.set_cons_succ]
                            exact stepF_val (by first | rfl | simp [Region.wanted, yielded, *]) (by go_simp <;> omega) ⟨rfl, Below.refl _ _, hR⟩
                          · refine ⟨fun _ _ _ _ _ h => h, fun _ _ _ _ h _ => h, fun v nR x hnR hR hk => ?_⟩
                            have h12 : v 12 = .bool false := hk 12 (by kernel_rfl)
                            simp only [List.take_succ_cons, List.take_zero, frameF, Act.put, List.setIfInBounds_toArray, List.set_cons_zero, List.set_cons_succ]
                            exact stepF_val (by first | rfl | simp [Region.wanted, yielded, *]) (by go_simp <;> omega) ⟨rfl, Below.refl _ _, hR⟩
                          · refine ⟨fun _ _ _ _ _ h => h, fun _ _ _ _ h _ => h, fun v nR x hnR hR hk => ?_⟩
                            have h13 : v 13 = .bool false := hk 13 (by kernel_rfl)
                            simp only [List.take_succ_cons, List.take_zero, frameF, Act.put, List.setIfInBounds_toArray, List.set_cons_zero, List.set_cons_succ]
                            exact stepF_val (by first | rfl | simp [Region.wanted, yielded, *]) (by go_simp <;> omega) ⟨rfl, Below.refl _ _, hR⟩
                          · refine ⟨fun _ _ _ _ _ h => h, fun _ _ _ _ h _ => h, fun v nR x hnR hR hk => ?_⟩
                            have h13 : v 13 = .bool false := hk 13 (by kernel_rfl)
                            simp only [List.take_succ_cons, List.take_zero, frameF, Act.put, List.setIfInBounds_toArray, List.set_cons_zero, List.set_cons_succ]
                            exact stepF_val (by first | rfl | simp [Region.wanted, yielded, *]) (by go_simp <;> omega) ⟨rfl, Below.refl _ _, hR⟩
                          · refine ⟨fun _ _ _ _ _ h => h, fun _ _ _ _ h _ => h, fun v nR x hnR hR hk => ?_⟩
                            have h14 : v 14 = .slice (some ⟨ba, oa, none⟩) a.length c := hk 14 (by kernel_rfl)
                            have h15 : v 15 = iv (i : Int) := hk 15 (by kernel_rfl)
                            have h13 : v 13 = .bool false := hk 13 (by kernel_rfl)
                            simp only [List.take_succ_cons, List.take_zero, frameF, Act.put, List.setIfInBounds_toArray, List.set_cons_zero, List.set_cons_succ]
                            exact stepF_val (by first | rfl | simp [Region.wanted, yielded, *]) (by go_simp <;> omega) ⟨rfl, Below.refl _ _, hR⟩
                          · refine ⟨fun _ _ _ _ _ h => h, fun _ _ _ _ h _ => h, fun v nR x hnR hR hk => ?_⟩
                            have h16 : v 16 = .pointer (some ⟨ba, oa + i, none⟩) := hk 16 (by kernel_rfl)
                            have h13 : v 13 = .bool false := hk 13 (by kernel_rfl)
                            have g1 := HCA.out x (hbx.next hR (Nat.le_refl _))
                            simp only [List.take_succ_cons, List.take_zero, frameF, Act.put, List.setIfInBounds_toArray, List.set_cons_zero, List.set_cons_succ]
                            exact stepF_val (by first | rfl | simp [Region.wanted, yielded, *]) (by go_simp <;> omega) ⟨rfl, Below.refl _ _, hR⟩
                          · refine ⟨fun _ _ _ _ _ h => h, fun _ _ _ _ h _ => h, fun v nR x hnR hR hk => ?_⟩
                            have h13 : v 13 = .bool false := hk 13 (by kernel_rfl)
                            simp only [List.take_succ_cons, List.take_zero, frameF, Act.put, List.setIfInBounds_toArray, List.set_cons_zero, List.set_cons_succ]
                            exact stepF_val (by first | rfl | simp [Region.wanted, yielded, *]) (by go_simp <;> omega) ⟨rfl, Below.refl _ _, hR⟩
                          · refine ⟨fun _ _ _ _ _ h => h, fun _ _ _ _ h _ => h, fun v nR x hnR hR hk => ?_⟩
                            have h13 : v 13 = .bool false := hk 13 (by kernel_rfl)
                            simp only [List.take_succ_cons, List.take_zero, frameF, Act.put, List.setIfInBounds_toArray, List.set_cons_zero, List.set_cons_succ]
                            exact stepF_val (by first | rfl | simp [Region.wanted, yielded, *]) (by go_simp <;> omega) ⟨rfl, Below.refl _ _, hR⟩
                          · refine ⟨fun _ _ _ _ _ h => h, fun _ _ _ _ h _ => h, fun v nR x hnR hR hk => ?_⟩
                            have h18 : v 18 = .slice (some ⟨bb, ob, none⟩) b.length c' := hk 18 (by kernel_rfl)
                            have h19 : v 19 = iv (j : Int) := hk 19 (by kernel_rfl)
                            have h13 : v 13 = .bool false := hk 13 (by kernel_rfl)
                            simp only [List.take_succ_cons, List.take_zero, frameF, Act.put, List.setIfInBounds_toArray, List.set_cons_zero, List.set_cons_succ]
                            exact stepF_val (by first | rfl | simp [Region.wanted, yielded, *]) (by go_simp <;> omega) ⟨rfl, Below.refl _ _, hR⟩
                          · refine ⟨fun _ _ _ _ _ h => h, fun _ _ _ _ h _ => h, fun v nR x hnR hR hk => ?_⟩
                            have h20 : v 20 = .pointer (some ⟨bb, ob + j, none⟩) := hk 20 (by kernel_rfl)
                            have h13 : v 13 = .bool false := hk 13 (by kernel_rfl)
                            have g1 := HCB.out x hR
                            simp only [List.take_succ_cons, List.take_zero, frameF, Act.put, List.setIfInBounds_toArray, List.set_cons_zero, List.set_cons_succ]
                            exact stepF_val (by first | rfl | simp [Region.wanted, yielded, *]) (by go_simp <;> omega) ⟨rfl, Below.refl _ _, hR⟩
                          · refine ⟨fun _ _ _ _ _ h => h, fun _ _ _ _ h _ => h, fun v nR x hnR hR hk => ?_⟩
                            have h17 : v 17 = .string sa := hk 17 (by kernel_rfl)
                            have h21 : v 21 = .string sb := hk 21 (by kernel_rfl)
                            have h13 : v 13 = .bool false := hk 13 (by kernel_rfl)
                            simp only [List.take_succ_cons, List.take_zero, frameF, Act.put, List.setIfInBounds_toArray, List.set_cons_zero, List.set_cons_succ]
                            exact stepF_val (by first | rfl | simp [Region.wanted, yielded, *]) (by go_simp <;> omega) ⟨rfl, Below.refl _ _, hR⟩
                          · refine ⟨fun _ _ _ _ _ h => h, fun _ _ _ _ h _ => h, fun v nR x hnR hR hk => ?_⟩
                            have h22 : v 22 = .bool q := hk 22 (by kernel_rfl)
                            have h13 : v 13 = .bool false := hk 13 (by kernel_rfl)
                            simp only [List.take_succ_cons, List.take_zero, frameF, Act.put, List.setIfInBounds_toArray, List.set_cons_zero, List.set_cons_succ]
                            exact stepF_val (by first | rfl | simp [Region.wanted, yielded, *]) (by go_simp <;> omega) ⟨rfl, Below.refl _ _, hR⟩
                          · refine ⟨fun _ _ _ _ _ h => h, fun _ _ _ _ h _ => h, fun v nR x hnR hR hk => ?_⟩
                            have h23 : v 23 = .bool q := hk 23 (by kernel_rfl)
                            simp only [List.take_succ_cons, List.take_zero, frameF, Act.put, List.setIfInBounds_toArray, List.set_cons_zero, List.set_cons_succ]
                            exact stepF_val (by first | rfl | simp [Region.wanted, yielded, *]) (by go_simp <;> omega) ⟨rfl, Below.refl _ _, hR⟩
                          · refine ⟨fun _ _ _ _ _ h => h, fun _ _ _ _ h _ => h, fun v nR x hnR hR hk => ?_⟩
                            have h24 : v 24 = iv (n : Int) := hk 24 (by kernel_rfl)
                            have h23 : v 23 = .bool q := hk 23 (by kernel_rfl)
                            simp only [List.take_succ_cons, List.take_zero, frameF, Act.put, List.setIfInBounds_toArray, List.set_cons_zero, List.set_cons_succ]
                            exact stepF_val (by first | rfl | simp [Region.wanted, yielded, *]) (by go_simp <;> omega) ⟨rfl, Below.refl _ _, hR⟩
                          · refine ⟨fun _ _ _ _ _ h => h, fun _ _ _ _ h _ => h, fun v nR x hnR hR hk => ?_⟩
                            have h23 : v 23 = .bool q := hk 23 (by kernel_rfl)
                            have h25 : v 25 = .bool z := hk 25 (by kernel_rfl)
                            have h13 : v 13 = .bool false := hk 13 (by kernel_rfl)
                            simp only [List.take_succ_cons, List.take_zero, frameF, Act.put, List.setIfInBounds_toArray, List.set_cons_zero, List.set_cons_succ]
                            exact stepF_val (by first | rfl | simp [Region.wanted, yielded, *]) (by go_simp <;> omega) ⟨rfl, Below.refl _ _, hR⟩
                          · refine ⟨fun _ _ _ _ _ h => h, fun _ _ _ _ h _ => h, fun v nR x hnR hR hk => ?_⟩
                            have h13 : v 13 = .bool false := hk 13 (by kernel_rfl)
                            have h26 : v 26 = .bool false := hk 26 (by kernel_rfl)
                            simp only [List.take_succ_cons, List.take_zero, frameF, Act.put, List.setIfInBounds_toArray, List.set_cons_zero, List.set_cons_succ]
                            exact stepF_val (by first | rfl | simp [Region.wanted, yielded, *]) (by go_simp <;> omega) ⟨rfl, Below.refl _ _, hR⟩
                        · intro v nR x1 hnR hR hall
                          have h27 : v 27 = .bool false := hall 27 (by decide)
                          clear hall hnR
                          simp only [List.drop_succ_cons, List.drop_zero, List.take_succ_cons, List.take_zero, frameF, Act.put, List.setIfInBounds_toArray, List.set_cons_zero, List.set_cons_succ, Nat.zero_add, Nat.reduceAdd, h27]
                          have hb01 := hb0.next hR (Nat.le_refl _)
                          have hb21 := hbx.next hR (Nat.le_refl _)
                          clear hR
                          go_wp2_with fail
                          go_loopw [15, 16] (fun v _ wk => ∃ k : Nat, i < k ∧ k ≤ a.length ∧ v = iv (k : Int) ∧ Hid (∀ k' l, i < k' → k' < k → j < l → l < b.length → Later a b XS i j (n : Int) k' l) ∧ Below x1.heap.size x1 wk) (fun v _ _ => a.length - (intOf v).toNat)
                          case atStart => exact ⟨i + 1, by omega, by omega, by go_num, Lib.hid fun k' l h1 h2 => absurd h2 (by omega), Below.refl _ _⟩
                          case round =>
                            obtain ⟨k, hik, hk, rfl, HK, hbk⟩ := hrel
                            by_cases hlt3 : k < a.length
                            · have hki : (k : Int) < (a.length : Int) := by omega
                              have hkrs : (k : Int) < (rs.length : Int) := by omega
                              go_wp2_with fail
                              go_loopw [16] (fun v wl => ∃ l : Nat, j < l ∧ l ≤ b.length ∧ v = iv (l : Int) ∧ Hid (∀ l', j < l' → l' < l → Later a b XS i j (n : Int) k l') ∧ Below x1.heap.size x1 wl) (fun v _ => b.length - (intOf v).toNat)
                              case atStart => exact ⟨j + 1, by omega, by omega, by go_num, Lib.hid fun l' h1 h2 => absurd h2 (by omega), hbk⟩
                              case round =>
                                clear hbk
                                obtain ⟨l, hjl, hl2, rfl, HLL, hbl⟩ := hrel
                                have hb0l := hb01.next hbl (Nat.le_refl _)
                                by_cases hlt4 : l < b.length
                                · have hli : (l : Int) < (b.length : Int) := by omega
                                  have ewl : IntKind.i64.wrap ((l : Int) + 1) = (l : Int) + 1 := IntWalk.i64_in _ (by omega)
                                  by_cases hn0 : n = 0
                                  · have hng : ¬ (0 : Int) < (n : Int) := by omega
                                    have hng' : ¬ 0 < n := by omega
                                    clear hn0
                                    have HLN2 : Hid (∀ l', j < l' → l' < l + 1 → Later a b XS i j (n : Int) k l') := Lib.hid fun l' h1 h2 h3 => absurd h3 hng
                                    go_upto_region 32 with fail
                                    refine wp_free_lit (by kernel_rfl) 24 (by kernel_rfl) (by kernel_rfl) (by decide) (fun _ x => Below wr.heap.size wr x) (fun x x' => Below x.heap.size x x')
                                      [fun _ u _ => u = iv (n : Int),
                                       fun _ u _ => u = .bool false,
                                       fun _ u _ => u = .bool false,
                                       fun _ u _ => u = undef,
                                       fun _ u _ => u = undef,
                                       fun _ u _ => u = undef,
                                       fun _ u _ => u = undef,
                                       fun _ u _ => u = undef,
                                       fun _ u _ => u = undef,
                                       fun _ u _ => u = undef,
                                       fun _ u _ => u = undef,
                                       fun _ u _ => u = undef,
                                       fun _ u _ => u = .bool false,
                                       fun _ u _ => u = .bool false,
                                       fun _ u _ => u = undef,
                                       fun _ u _ => u = undef,
                                       fun _ u _ => u = undef,
                                       fun _ u _ => u = undef,
                                       fun _ u _ => u = undef,
                                       fun _ u _ => u = undef,
                                       fun _ u _ => u = undef,
                                       fun _ u _ => u = undef,
                                       fun _ u _ => u = undef,
                                       fun _ u _ => u = .bool false]
                                      (Below.refl _ wr).drew ?_ ?_
                                    · simp only [List.take_succ_cons, List.take_zero, HopL]
                                      refine ⟨?_, ?_, ?_, ?_, ?_, ?_, ?_, ?_, ?_, ?_, ?_, ?_, ?_, ?_, ?_, ?_, ?_, ?_, ?_, ?_, ?_, ?_, ?_, ?_, trivial⟩
                                      · refine ⟨fun _ _ _ _ _ h => h, fun _ _ _ _ h _ => h, fun v nR x hnR hR hk => ?_⟩
                                        simp only [List.take_succ_cons, List.take_zero, frameF, Act.put, List.setIfInBounds_toArray, List.set_cons_zero, List.set_cons_succ]
                                        exact stepF_val (by first | rfl | simp [Region.wanted, yielded, *]) (by go_simp <;> omega) ⟨rfl, Below.refl _ _, hR⟩
                                      · refine ⟨fun _ _ _ _ _ h => h, fun _ _ _ _ h _ => h, fun v nR x hnR hR hk => ?_⟩
                                        have h0 : v 0 = iv (n : Int) := hk 0 (by kernel_rfl)
                                        simp only [List.take_succ_cons, List.take_zero, frameF, Act.put, List.setIfInBounds_toArray, List.set_cons_zero, List.set_cons_succ]
                                        exact stepF_val (by first | rfl | simp [Region.wanted, yielded, *]) (by go_simp <;> omega) ⟨rfl, Below.refl _ _, hR⟩
                                      · refine ⟨fun _ _ _ _ _ h => h, fun _ _ _ _ h _ => h, fun v nR x hnR hR hk => ?_⟩
                                        have h1 : v 1 = .bool false := hk 1 (by kernel_rfl)
                                        simp only [List.take_succ_cons, List.take_zero, frameF, Act.put, List.setIfInBounds_toArray, List.set_cons_zero, List.set_cons_succ]
                                        exact stepF_val (by first | rfl | simp [Region.wanted, yielded, *]) (by go_simp <;> omega) ⟨rfl, Below.refl _ _, hR⟩
                                      · refine ⟨fun _ _ _ _ _ h => h, fun _ _ _ _ h _ => h, fun v nR x hnR hR hk => ?_⟩
                                        have h2 : v 2 = .bool false := hk 2 (by kernel_rfl)
                                        simp only [List.take_succ_cons, List.take_zero, frameF, Act.put, List.setIfInBounds_toArray, List.set_cons_zero, List.set_cons_succ]
                                        exact stepF_out (by first | rfl | (simp [Region.wanted, yielded, *]; done) | (simp [Region.wanted, yielded, undef, *]; done)) ⟨rfl, Below.refl _ _, hR⟩
                                      · refine ⟨fun _ _ _ _ _ h => h, fun _ _ _ _ h _ => h, fun v nR x hnR hR hk => ?_⟩
                                        have h2 : v 2 = .bool false := hk 2 (by kernel_rfl)
                                        simp only [List.take_succ_cons, List.take_zero, frameF, Act.put, List.setIfInBounds_toArray, List.set_cons_zero, List.set_cons_succ]
                                        exact stepF_out (by first | rfl | (simp [Region.wanted, yielded, *]; done) | (simp [Region.wanted, yielded, undef, *]; done)) ⟨rfl, Below.refl _ _, hR⟩
                                      · refine ⟨fun _ _ _ _ _ h => h, fun _ _ _ _ h _ => h, fun v nR x hnR hR hk => ?_⟩
                                        have h2 : v 2 = .bool false := hk 2 (by kernel_rfl)
                                        simp only [List.take_succ_cons, List.take_zero, frameF, Act.put, List.setIfInBounds_toArray, List.set_cons_zero, List.set_cons_succ]
                                        exact stepF_out (by first | rfl | (simp [Region.wanted, yielded, *]; done) | (simp [Region.wanted, yielded, undef, *]; done)) ⟨rfl, Below.refl _ _, hR⟩
                                      · refine ⟨fun _ _ _ _ _ h => h, fun _ _ _ _ h _ => h, fun v nR x hnR hR hk => ?_⟩
                                        have h2 : v 2 = .bool false := hk 2 (by kernel_rfl)
                                        simp only [List.take_succ_cons, List.take_zero, frameF, Act.put, List.setIfInBounds_toArray, List.set_cons_zero, List.set_cons_succ]
                                        exact stepF_out (by first | rfl | (simp [Region.wanted, yielded, *]; done) | (simp [Region.wanted, yielded, undef, *]; done)) ⟨rfl, Below.refl _ _, hR⟩
                                      · refine ⟨fun _ _ _ _ _ h => h, fun _ _ _ _ h _ => h, fun v nR x hnR hR hk => ?_⟩
                                        have h2 : v 2 = .bool false := hk 2 (by kernel_rfl)
                                        simp only [List.take_succ_cons, List.take_zero, frameF, Act.put, List.setIfInBounds_toArray, List.set_cons_zero, List.set_cons_succ]
                                        exact stepF_out (by first | rfl | (simp [Region.wanted, yielded, *]; done) | (simp [Region.wanted, yielded, undef, *]; done)) ⟨rfl, Below.refl _ _, hR⟩
                                      · refine ⟨fun _ _ _ _ _ h => h, fun _ _ _ _ h _ => h, fun v nR x hnR hR hk => ?_⟩
                                        have h2 : v 2 = .bool false := hk 2 (by kernel_rfl)
                                        simp only [List.take_succ_cons, List.take_zero, frameF, Act.put, List.setIfInBounds_toArray, List.set_cons_zero, List.set_cons_succ]
                                        exact stepF_out (by first | rfl | (simp [Region.wanted, yielded, *]; done) | (simp [Region.wanted, yielded, undef, *]; done)) ⟨rfl, Below.refl _ _, hR⟩
                                      · refine ⟨fun _ _ _ _ _ h => h, fun _ _ _ _ h _ => h, fun v nR x hnR hR hk => ?_⟩
                                        have h2 : v 2 = .bool false := hk 2 (by kernel_rfl)
                                        simp only [List.take_succ_cons, List.take_zero, frameF, Act.put, List.setIfInBounds_toArray, List.set_cons_zero, List.set_cons_succ]
                                        exact stepF_out (by first | rfl | (simp [Region.wanted, yielded, *]; done) | (simp [Region.wanted, yielded, undef, *]; done)) ⟨rfl, Below.refl _ _, hR⟩
                                      · refine ⟨fun _ _ _ _ _ h => h, fun _ _ _ _ h _ => h, fun v nR x hnR hR hk => ?_⟩
                                        have h2 : v 2 = .bool false := hk 2 (by kernel_rfl)
                                        simp only [List.take_succ_cons, List.take_zero, frameF, Act.put, List.setIfInBounds_toArray, List.set_cons_zero, List.set_cons_succ]
                                        exact stepF_out (by first | rfl | (simp [Region.wanted, yielded, *]; done) | (simp [Region.wanted, yielded, undef, *]; done)) ⟨rfl, Below.refl _ _, hR⟩
                                      · refine ⟨fun _ _ _ _ _ h => h, fun _ _ _ _ h _ => h, fun v nR x hnR hR hk => ?_⟩
                                        have h2 : v 2 = .bool false := hk 2 (by kernel_rfl)
                                        simp only [List.take_succ_cons, List.take_zero, frameF, Act.put, List.setIfInBounds_toArray, List.set_cons_zero, List.set_cons_succ]
                                        exact stepF_out (by first | rfl | (simp [Region.wanted, yielded, *]; done) | (simp [Region.wanted, yielded, undef, *]; done)) ⟨rfl, Below.refl _ _, hR⟩
                                      · refine ⟨fun _ _ _ _ _ h => h, fun _ _ _ _ h _ => h, fun v nR x hnR hR hk => ?_⟩
                                        have h2 : v 2 = .bool false := hk 2 (by kernel_rfl)
                                        have h11 : v 11 = undef := hk 11 (by kernel_rfl)
                                        simp only [List.take_succ_cons, List.take_zero, frameF, Act.put, List.setIfInBounds_toArray, List.set_cons_zero, List.set_cons_succ]
                                        exact stepF_val (by first | rfl | simp [Region.wanted, yielded, *]) (by go_simp <;> omega) ⟨rfl, Below.refl _ _, hR⟩
                                      · refine ⟨fun _ _ _ _ _ h => h, fun _ _ _ _ h _ => h, fun v nR x hnR hR hk => ?_⟩
                                        have h12 : v 12 = .bool false := hk 12 (by kernel_rfl)
                                        simp only [List.take_succ_cons, List.take_zero, frameF, Act.put, List.setIfInBounds_toArray, List.set_cons_zero, List.set_cons_succ]
                                        exact stepF_val (by first | rfl | simp [Region.wanted, yielded, *]) (by go_simp <;> omega) ⟨rfl, Below.refl _ _, hR⟩
                                      · refine ⟨fun _ _ _ _ _ h => h, fun _ _ _ _ h _ => h, fun v nR x hnR hR hk => ?_⟩
                                        have h13 : v 13 = .bool false := hk 13 (by kernel_rfl)
                                        simp only [List.take_succ_cons, List.take_zero, frameF, Act.put, List.setIfInBounds_toArray, List.set_cons_zero, List.set_cons_succ]
                                        exact stepF_out (by first | rfl | (simp [Region.wanted, yielded, *]; done) | (simp [Region.wanted, yielded, undef, *]; done)) ⟨rfl, Below.refl _ _, hR⟩
                                      · refine ⟨fun _ _ _ _ _ h => h, fun _ _ _ _ h _ => h, fun v nR x hnR hR hk => ?_⟩
                                        have h13 : v 13 = .bool false := hk 13 (by kernel_rfl)
                                        simp only [List.take_succ_cons, List.take_zero, frameF, Act.put, List.setIfInBounds_toArray, List.set_cons_zero, List.set_cons_succ]
                                        exact stepF_out (by first | rfl | (simp [Region.wanted, yielded, *]; done) | (simp [Region.wanted, yielded, undef, *]; done)) ⟨rfl, Below.refl _ _, hR⟩
                                      · refine ⟨fun _ _ _ _ _ h => h, fun _ _ _ _ h _ => h, fun v nR x hnR hR hk => ?_⟩
                                        have h13 : v 13 = .bool false := hk 13 (by kernel_rfl)
                                        simp only [List.take_succ_cons, List.take_zero, frameF, Act.put, List.setIfInBounds_toArray, List.set_cons_zero, List.set_cons_succ]
                                        exact stepF_out (by first | rfl | (simp [Region.wanted, yielded, *]; done) | (simp [Region.wanted, yielded, undef, *]; done)) ⟨rfl, Below.refl _ _, hR⟩
                                      · refine ⟨fun _ _ _ _ _ h => h, fun _ _ _ _ h _ => h, fun v nR x hnR hR hk => ?_⟩
                                        have h13 : v 13 = .bool false := hk 13 (by kernel_rfl)
                                        simp only [List.take_succ_cons, List.take_zero, frameF, Act.put, List.setIfInBounds_toArray, List.set_cons_zero, List.set_cons_succ]
                                        exact stepF_out (by first | rfl | (simp [Region.wanted, yielded, *]; done) | (simp [Region.wanted, yielded, undef, *]; done)) ⟨rfl, Below.refl _ _, hR⟩
                                      · refine ⟨fun _ _ _ _ _ h => h, fun _ _ _ _ h _ => h, fun v nR x hnR hR hk => ?_⟩
                                        have h13 : v 13 = .bool false := hk 13 (by kernel_rfl)
                                        simp only [List.take_succ_cons, List.take_zero, frameF, Act.put, List.setIfInBounds_toArray, List.set_cons_zero, List.set_cons_succ]
                                        exact stepF_out (by first | rfl | (simp [Region.wanted, yielded, *]; done) | (simp [Region.wanted, yielded, undef, *]; done)) ⟨rfl, Below.refl _ _, hR⟩
                                      · refine ⟨fun _ _ _ _ _ h => h, fun _ _ _ _ h _ => h, fun v nR x hnR hR hk => ?_⟩
                                        have h13 : v 13 = .bool false := hk 13 (by kernel_rfl)
                                        simp only [List.take_succ_cons, List.take_zero, frameF, Act.put, List.setIfInBounds_toArray, List.set_cons_zero, List.set_cons_succ]
                                        exact stepF_out (by first | rfl | (simp [Region.wanted, yielded, *]; done) | (simp [Region.wanted, yielded, undef, *]; done)) ⟨rfl, Below.refl _ _, hR⟩
                                      · refine ⟨fun _ _ _ _ _ h => h, fun _ _ _ _ h _ => h, fun v nR x hnR hR hk => ?_⟩
                                        have h13 : v 13 = .bool false := hk 13 (by kernel_rfl)
                                        simp only [List.take_succ_cons, List.take_zero, frameF, Act.put, List.setIfInBounds_toArray, List.set_cons_zero, List.set_cons_succ]
                                        exact stepF_out (by first | rfl | (simp [Region.wanted, yielded, *]; done) | (simp [Region.wanted, yielded, undef, *]; done)) ⟨rfl, Below.refl _ _, hR⟩
                                      · refine ⟨fun _ _ _ _ _ h => h, fun _ _ _ _ h _ => h, fun v nR x hnR hR hk => ?_⟩
                                        have h13 : v 13 = .bool false := hk 13 (by kernel_rfl)
                                        simp only [List.take_succ_cons, List.take_zero, frameF, Act.put, List.setIfInBounds_toArray, List.set_cons_zero, List.set_cons_succ]
                                        exact stepF_out (by first | rfl | (simp [Region.wanted, yielded, *]; done) | (simp [Region.wanted, yielded, undef, *]; done)) ⟨rfl, Below.refl _ _, hR⟩
                                      · refine ⟨fun _ _ _ _ _ h => h, fun _ _ _ _ h _ => h, fun v nR x hnR hR hk => ?_⟩
                                        have h13 : v 13 = .bool false := hk 13 (by kernel_rfl)
                                        simp only [List.take_succ_cons, List.take_zero, frameF, Act.put, List.setIfInBounds_toArray, List.set_cons_zero, List.set_cons_succ]
                                        exact stepF_out (by first | rfl | (simp [Region.wanted, yielded, *]; done) | (simp [Region.wanted, yielded, undef, *]; done)) ⟨rfl, Below.refl _ _, hR⟩
                                      · refine ⟨fun _ _ _ _ _ h => h, fun _ _ _ _ h _ => h, fun v nR x hnR hR hk => ?_⟩
                                        have h13 : v 13 = .bool false := hk 13 (by kernel_rfl)
                                        have h22 : v 22 = undef := hk 22 (by kernel_rfl)
                                        simp only [List.take_succ_cons, List.take_zero, frameF, Act.put, List.setIfInBounds_toArray, List.set_cons_zero, List.set_cons_succ]
                                        exact stepF_val (by first | rfl | simp [Region.wanted, yielded, *]) (by go_simp <;> omega) ⟨rfl, Below.refl _ _, hR⟩
                                    · intro v nR x2 hnR hR hall
                                      have h23 : v 23 = .bool false := hall 23 (by decide)
                                      clear hall hnR
                                      simp only [List.drop_succ_cons, List.drop_zero, List.take_succ_cons, List.take_zero, frameF, Act.put, List.setIfInBounds_toArray, List.set_cons_zero, List.set_cons_succ, Nat.zero_add, Nat.reduceAdd, h23]
                                      have hbl2 := hbl.next hR (Nat.le_refl _)
                                      go_wp2_with fail
                                      go_roundw
                                      case rel => exact ⟨l + 1, by omega, by omega, by go_num, HLN2, hbl2⟩
                                      case measure => simp [intOf]; omega
                                  · have hng : (0 : Int) < (n : Int) := by omega
                                    have hng' : 0 < n := by omega
                                    clear hn0
                                    obtain ⟨bR2, oR2, r2, hBR2, hbR2, hr2, hcR2⟩ := Sl.atRw (hsr.below hb0l) (show k < rs.length by omega)
                                    injection hBR2 with hBR2
                                    injection hBR2 with e1 e2 _
                                    subst e1; subst e2
                                    obtain ⟨_, _, sa2, hA2, _, hxa2, _⟩ := Sl.atS (hsa.below hb0l) hlt3
                                    injection hA2 with hA2
                                    injection hA2 with e1 e2 _
                                    subst e1; subst e2
                                    obtain ⟨_, _, sb2, hB2, _, hxb2, _⟩ := Sl.atS (hsb.below hb0l) hlt4
                                    injection hB2 with hB2
                                    injection hB2 with e1 e2 _
                                    subst e1; subst e2
                                    have HCA2 := Lib.hid (Sl.cellS (hsa.below hb0l) hxa2)
                                    have HCB2 := Lib.hid (Sl.cellS (hsb.below hb0l) hxb2)
                                    have HCR2 := Lib.hid (Sl.cellRw (hsr.below hb0l) hr2)
                                    have hrl2 := HLN.out r2 (mem_at hr2)
                                    have hlr2 : (l : Int) < (r2.xs.length : Int) := by omega
                                    obtain ⟨bI2, oI2, v2, hAI2, _, hv2, _⟩ := Sl.atI ((hrr r2 (mem_at hr2)).1.below hb0l) (show l < r2.xs.length by omega)
                                    have hXk := HX.out k r2 hr2
                                    have hLat : (XS.getD k []).getD l 0 = v2 := by simp [List.getD_eq_getElem?_getD, hXk, hv2]
                                    obtain ⟨R2A, R2C, r2x⟩ := r2
                                    simp only at hAI2 hv2 hrl2 hlr2 HCR2
                                    have hSlI := (hrr _ (mem_at hr2)).1.below hb0l
                                    simp only at hSlI
                                    subst hAI2
                                    have HCI2 := Lib.hid (Sl.cellI hSlI hv2)
                                    obtain ⟨q2, hqs2⟩ : ∃ q, (sa2.toList == sb2.toList) = q := ⟨_, rfl⟩
                                    have hqd2 : q2 = decide (sa2 = sb2) := by rw [← hqs2, str_eq]
                                    have HLT : Hid (Later a b XS i j (n : Int) k l ↔ (q2 = true → (n : Int) < v2)) := Lib.hid (by
                                      unfold Later
                                      rw [hxa2, hxb2, hLat, hqd2, decide_eq_true_iff]
                                      exact ⟨fun h e => h hng (by rw [e]), fun h _ e => h (Option.some.inj e)⟩)
                                    clear hqd2 hLat hXk hv2 hxa2 hxb2 hr2 hcR2 hSlI hrl2
                                    rcases Bool.eq_false_or_eq_true q2 with hqv2 | hqv2
                                    rotate_left
                                    · have HLN2 : Hid (∀ l', j < l' → l' < l + 1 → Later a b XS i j (n : Int) k l') := Lib.hid fun l' h1 h2 => by
                                        by_cases he : l' = l
                                        · subst he; exact HLT.out.2 (fun h => by rw [hqv2] at h; cases h)
                                        · exact HLL.out l' h1 (by omega)
                                      go_upto_region 32 with fail
                                      refine wp_free_lit (by kernel_rfl) 24 (by kernel_rfl) (by kernel_rfl) (by decide) (fun _ x => Below wr.heap.size wr x) (fun x x' => Below x.heap.size x x')
                                        [fun _ u _ => u = iv (n : Int),
                                         fun _ u _ => u = .bool true,
                                         fun _ u _ => u = .bool true,
                                         fun _ u _ => u = .slice (some ⟨ba, oa, none⟩) a.length c,
                                         fun _ u _ => u = iv (k : Int),
                                         fun _ u _ => u = .pointer (some ⟨ba, oa + k, none⟩),
                                         fun _ u _ => u = .string sa2,
                                         fun _ u _ => u = .slice (some ⟨bb, ob, none⟩) b.length c',
                                         fun _ u _ => u = iv (l : Int),
                                         fun _ u _ => u = .pointer (some ⟨bb, ob + l, none⟩),
                                         fun _ u _ => u = .string sb2,
                                         fun _ u _ => u = .bool q2,
                                         fun _ u _ => u = .bool false,
                                         fun _ u _ => u = .bool false,
                                         fun _ u _ => u = undef,
                                         fun _ u _ => u = undef,
                                         fun _ u _ => u = undef,
                                         fun _ u _ => u = undef,
                                         fun _ u _ => u = undef,
                                         fun _ u _ => u = undef,
                                         fun _ u _ => u = undef,
                                         fun _ u _ => u = undef,
                                         fun _ u _ => u = undef,
                                         fun _ u _ => u = .bool false]
                                        (Below.refl _ wr).drew ?_ ?_
                                      · simp only [List.take_succ_cons, List.take_zero, HopL]
                                        refine ⟨?_, ?_, ?_, ?_, ?_, ?_, ?_, ?_, ?_, ?_, ?_, ?_, ?_, ?_, ?_, ?_, ?_, ?_, ?_, ?_, ?_, ?_, ?_, ?_, trivial⟩
                                        · refine ⟨fun _ _ _ _ _ h => h, fun _ _ _ _ h _ => h, fun v nR x hnR hR hk => ?_⟩
                                          simp only [List.take_succ_cons, List.take_zero, frameF, Act.put, List.setIfInBounds_toArray, List.set_cons_zero, List.set_cons_succ]
                                          exact stepF_val (by first | rfl | simp [Region.wanted, yielded, *]) (by go_simp <;> omega) ⟨rfl, Below.refl _ _, hR⟩
                                        · refine ⟨fun _ _ _ _ _ h => h, fun _ _ _ _ h _ => h, fun v nR x hnR hR hk => ?_⟩
                                          have h0 : v 0 = iv (n : Int) := hk 0 (by kernel_rfl)
                                          simp only [List.take_succ_cons, List.take_zero, frameF, Act.put, List.setIfInBounds_toArray, List.set_cons_zero, List.set_cons_succ]
                                          exact stepF_val (by first | rfl | simp [Region.wanted, yielded, *]) (by go_simp <;> omega) ⟨rfl, Below.refl _ _, hR⟩
                                        · refine ⟨fun _ _ _ _ _ h => h, fun _ _ _ _ h _ => h, fun v nR x hnR hR hk => ?_⟩
                                          have h1 : v 1 = .bool true := hk 1 (by kernel_rfl)
                                          simp only [List.take_succ_cons, List.take_zero, frameF, Act.put, List.setIfInBounds_toArray, List.set_cons_zero, List.set_cons_succ]
                                          exact stepF_val (by first | rfl | simp [Region.wanted, yielded, *]) (by go_simp <;> omega) ⟨rfl, Below.refl _ _, hR⟩
                                        · refine ⟨fun _ _ _ _ _ h => h, fun _ _ _ _ h _ => h, fun v nR x hnR hR hk => ?_⟩
                                          have h2 : v 2 = .bool true := hk 2 (by kernel_rfl)
                                          simp only [List.take_succ_cons, List.take_zero, frameF, Act.put, List.setIfInBounds_toArray, List.set_cons_zero, List.set_cons_succ]
                                          exact stepF_val (by first | rfl | simp [Region.wanted, yielded, *]) (by go_simp <;> omega) ⟨rfl, Below.refl _ _, hR⟩
                                        · refine ⟨fun _ _ _ _ _ h => h, fun _ _ _ _ h _ => h, fun v nR x hnR hR hk => ?_⟩
                                          have h2 : v 2 = .bool true := hk 2 (by kernel_rfl)
                                          simp only [List.take_succ_cons, List.take_zero, frameF, Act.put, List.setIfInBounds_toArray, List.set_cons_zero, List.set_cons_succ]
                                          exact stepF_val (by first | rfl | simp [Region.wanted, yielded, *]) (by go_simp <;> omega) ⟨rfl, Below.refl _ _, hR⟩
                                        · refine ⟨fun _ _ _ _ _ h => h, fun _ _ _ _ h _ => h, fun v nR x hnR hR hk => ?_⟩
                                          have h3 : v 3 = .slice (some ⟨ba, oa, none⟩) a.length c := hk 3 (by kernel_rfl)
                                          have h4 : v 4 = iv (k : Int) := hk 4 (by kernel_rfl)
                                          have h2 : v 2 = .bool true := hk 2 (by kernel_rfl)
                                          simp only [List.take_succ_cons, List.take_zero, frameF, Act.put, List.setIfInBounds_toArray, List.set_cons_zero, List.set_cons_succ]
                                          exact stepF_val (by first | rfl | simp [Region.wanted, yielded, *]) (by go_simp <;> omega) ⟨rfl, Below.refl _ _, hR⟩
                                        · refine ⟨fun _ _ _ _ _ h => h, fun _ _ _ _ h _ => h, fun v nR x hnR hR hk => ?_⟩
                                          have h5 : v 5 = .pointer (some ⟨ba, oa + k, none⟩) := hk 5 (by kernel_rfl)
                                          have h2 : v 2 = .bool true := hk 2 (by kernel_rfl)
                                          have g1 := HCA2.out x hR
                                          simp only [List.take_succ_cons, List.take_zero, frameF, Act.put, List.setIfInBounds_toArray, List.set_cons_zero, List.set_cons_succ]
                                          exact stepF_val (by first | rfl | simp [Region.wanted, yielded, *]) (by go_simp <;> omega) ⟨rfl, Below.refl _ _, hR⟩
                                        · refine ⟨fun _ _ _ _ _ h => h, fun _ _ _ _ h _ => h, fun v nR x hnR hR hk => ?_⟩
                                          have h2 : v 2 = .bool true := hk 2 (by kernel_rfl)
                                          simp only [List.take_succ_cons, List.take_zero, frameF, Act.put, List.setIfInBounds_toArray, List.set_cons_zero, List.set_cons_succ]
                                          exact stepF_val (by first | rfl | simp [Region.wanted, yielded, *]) (by go_simp <;> omega) ⟨rfl, Below.refl _ _, hR⟩
                                        · refine ⟨fun _ _ _ _ _ h => h, fun _ _ _ _ h _ => h, fun v nR x hnR hR hk => ?_⟩
                                          have h2 : v 2 = .bool true := hk 2 (by kernel_rfl)
                                          simp only [List.take_succ_cons, List.take_zero, frameF, Act.put, List.setIfInBounds_toArray, List.set_cons_zero, List.set_cons_succ]
                                          exact stepF_val (by first | rfl | simp [Region.wanted, yielded, *]) (by go_simp <;> omega) ⟨rfl, Below.refl _ _, hR⟩
                                        · refine ⟨fun _ _ _ _ _ h => h, fun _ _ _ _ h _ => h, fun v nR x hnR hR hk => ?_⟩
                                          have h7 : v 7 = .slice (some ⟨bb, ob, none⟩) b.length c' := hk 7 (by kernel_rfl)
                                          have h8 : v 8 = iv (l : Int) := hk 8 (by kernel_rfl)
                                          have h2 : v 2 = .bool true := hk 2 (by kernel_rfl)
                                          simp only [List.take_succ_cons, List.take_zero, frameF, Act.put, List.setIfInBounds_toArray, List.set_cons_zero, List.set_cons_succ]
                                          exact stepF_val (by first | rfl | simp [Region.wanted, yielded, *]) (by go_simp <;> omega) ⟨rfl, Below.refl _ _, hR⟩
                                        · refine ⟨fun _ _ _ _ _ h => h, fun _ _ _ _ h _ => h, fun v nR x hnR hR hk => ?_⟩
                                          have h9 : v 9 = .pointer (some ⟨bb, ob + l, none⟩) := hk 9 (by kernel_rfl)
                                          have h2 : v 2 = .bool true := hk 2 (by kernel_rfl)
                                          have g1 := HCB2.out x hR
                                          simp only [List.take_succ_cons, List.take_zero, frameF, Act.put, List.setIfInBounds_toArray, List.set_cons_zero, List.set_cons_succ]
                                          exact stepF_val (by first | rfl | simp [Region.wanted, yielded, *]) (by go_simp <;> omega) ⟨rfl, Below.refl _ _, hR⟩
                                        · refine ⟨fun _ _ _ _ _ h => h, fun _ _ _ _ h _ => h, fun v nR x hnR hR hk => ?_⟩
                                          have h6 : v 6 = .string sa2 := hk 6 (by kernel_rfl)
                                          have h10 : v 10 = .string sb2 := hk 10 (by kernel_rfl)
                                          have h2 : v 2 = .bool true := hk 2 (by kernel_rfl)
                                          simp only [List.take_succ_cons, List.take_zero, frameF, Act.put, List.setIfInBounds_toArray, List.set_cons_zero, List.set_cons_succ]
                                          exact stepF_val (by first | rfl | simp [Region.wanted, yielded, *]) (by go_simp <;> omega) ⟨rfl, Below.refl _ _, hR⟩
                                        · refine ⟨fun _ _ _ _ _ h => h, fun _ _ _ _ h _ => h, fun v nR x hnR hR hk => ?_⟩
                                          have h2 : v 2 = .bool true := hk 2 (by kernel_rfl)
                                          have h11 : v 11 = .bool q2 := hk 11 (by kernel_rfl)
                                          simp only [List.take_succ_cons, List.take_zero, frameF, Act.put, List.setIfInBounds_toArray, List.set_cons_zero, List.set_cons_succ]
                                          exact stepF_val (by first | rfl | simp [Region.wanted, yielded, *]) (by go_simp <;> omega) ⟨rfl, Below.refl _ _, hR⟩
                                        · refine ⟨fun _ _ _ _ _ h => h, fun _ _ _ _ h _ => h, fun v nR x hnR hR hk => ?_⟩
                                          have h12 : v 12 = .bool false := hk 12 (by kernel_rfl)
                                          simp only [List.take_succ_cons, List.take_zero, frameF, Act.put, List.setIfInBounds_toArray, List.set_cons_zero, List.set_cons_succ]
                                          exact stepF_val (by first | rfl | simp [Region.wanted, yielded, *]) (by go_simp <;> omega) ⟨rfl, Below.refl _ _, hR⟩
                                        · refine ⟨fun _ _ _ _ _ h => h, fun _ _ _ _ h _ => h, fun v nR x hnR hR hk => ?_⟩
                                          have h13 : v 13 = .bool false := hk 13 (by kernel_rfl)
                                          simp only [List.take_succ_cons, List.take_zero, frameF, Act.put, List.setIfInBounds_toArray, List.set_cons_zero, List.set_cons_succ]
                                          exact stepF_out (by first | rfl | (simp [Region.wanted, yielded, *]; done) | (simp [Region.wanted, yielded, undef, *]; done)) ⟨rfl, Below.refl _ _, hR⟩
                                        · refine ⟨fun _ _ _ _ _ h => h, fun _ _ _ _ h _ => h, fun v nR x hnR hR hk => ?_⟩
                                          have h13 : v 13 = .bool false := hk 13 (by kernel_rfl)
                                          simp only [List.take_succ_cons, List.take_zero, frameF, Act.put, List.setIfInBounds_toArray, List.set_cons_zero, List.set_cons_succ]
                                          exact stepF_out (by first | rfl | (simp [Region.wanted, yielded, *]; done) | (simp [Region.wanted, yielded, undef, *]; done)) ⟨rfl, Below.refl _ _, hR⟩
                                        · refine ⟨fun _ _ _ _ _ h => h, fun _ _ _ _ h _ => h, fun v nR x hnR hR hk => ?_⟩
                                          have h13 : v 13 = .bool false := hk 13 (by kernel_rfl)
                                          simp only [List.take_succ_cons, List.take_zero, frameF, Act.put, List.setIfInBounds_toArray, List.set_cons_zero, List.set_cons_succ]
                                          exact stepF_out (by first | rfl | (simp [Region.wanted, yielded, *]; done) | (simp [Region.wanted, yielded, undef, *]; done)) ⟨rfl, Below.refl _ _, hR⟩
                                        · refine ⟨fun _ _ _ _ _ h => h, fun _ _ _ _ h _ => h, fun v nR x hnR hR hk => ?_⟩
                                          have h13 : v 13 = .bool false := hk 13 (by kernel_rfl)
                                          simp only [List.take_succ_cons, List.take_zero, frameF, Act.put, List.setIfInBounds_toArray, List.set_cons_zero, List.set_cons_succ]
                                          exact stepF_out (by first | rfl | (simp [Region.wanted, yielded, *]; done) | (simp [Region.wanted, yielded, undef, *]; done)) ⟨rfl, Below.refl _ _, hR⟩
                                        · refine ⟨fun _ _ _ _ _ h => h, fun _ _ _ _ h _ => h, fun v nR x hnR hR hk => ?_⟩
                                          have h13 : v 13 = .bool false := hk 13 (by kernel_rfl)
                                          simp only [List.take_succ_cons, List.take_zero, frameF, Act.put, List.setIfInBounds_toArray, List.set_cons_zero, List.set_cons_succ]
                                          exact stepF_out (by first | rfl | (simp [Region.wanted, yielded, *]; done) | (simp [Region.wanted, yielded, undef, *]; done)) ⟨rfl, Below.refl _ _, hR⟩
                                        · refine ⟨fun _ _ _ _ _ h => h, fun _ _ _ _ h _ => h, fun v nR x hnR hR hk => ?_⟩
                                          have h13 : v 13 = .bool false := hk 13 (by kernel_rfl)
                                          simp only [List.take_succ_cons, List.take_zero, frameF, Act.put, List.setIfInBounds_toArray, List.set_cons_zero, List.set_cons_succ]
                                          exact stepF_out (by first | rfl | (simp [Region.wanted, yielded, *]; done) | (simp [Region.wanted, yielded, undef, *]; done)) ⟨rfl, Below.refl _ _, hR⟩
                                        · refine ⟨fun _ _ _ _ _ h => h, fun _ _ _ _ h _ => h, fun v nR x hnR hR hk => ?_⟩
                                          have h13 : v 13 = .bool false := hk 13 (by kernel_rfl)
                                          simp only [List.take_succ_cons, List.take_zero, frameF, Act.put, List.setIfInBounds_toArray, List.set_cons_zero, List.set_cons_succ]
                                          exact stepF_out (by first | rfl | (simp [Region.wanted, yielded, *]; done) | (simp [Region.wanted, yielded, undef, *]; done)) ⟨rfl, Below.refl _ _, hR⟩
                                        · refine ⟨fun _ _ _ _ _ h => h, fun _ _ _ _ h _ => h, fun v nR x hnR hR hk => ?_⟩
                                          have h13 : v 13 = .bool false := hk 13 (by kernel_rfl)
                                          simp only [List.take_succ_cons, List.take_zero, frameF, Act.put, List.setIfInBounds_toArray, List.set_cons_zero, List.set_cons_succ]
                                          exact stepF_out (by first | rfl | (simp [Region.wanted, yielded, *]; done) | (simp [Region.wanted, yielded, undef, *]; done)) ⟨rfl, Below.refl _ _, hR⟩
                                        · refine ⟨fun _ _ _ _ _ h => h, fun _ _ _ _ h _ => h, fun v nR x hnR hR hk => ?_⟩
                                          have h13 : v 13 = .bool false := hk 13 (by kernel_rfl)
                                          simp only [List.take_succ_cons, List.take_zero, frameF, Act.put, List.setIfInBounds_toArray, List.set_cons_zero, List.set_cons_succ]
                                          exact stepF_out (by first | rfl | (simp [Region.wanted, yielded, *]; done) | (simp [Region.wanted, yielded, undef, *]; done)) ⟨rfl, Below.refl _ _, hR⟩
                                        · refine ⟨fun _ _ _ _ _ h => h, fun _ _ _ _ h _ => h, fun v nR x hnR hR hk => ?_⟩
                                          have h13 : v 13 = .bool false := hk 13 (by kernel_rfl)
                                          have h22 : v 22 = undef := hk 22 (by kernel_rfl)
                                          simp only [List.take_succ_cons, List.take_zero, frameF, Act.put, List.setIfInBounds_toArray, List.set_cons_zero, List.set_cons_succ]
                                          exact stepF_val (by first | rfl | simp [Region.wanted, yielded, *]) (by go_simp <;> omega) ⟨rfl, Below.refl _ _, hR⟩
                                      · intro v nR x2 hnR hR hall
                                        have h23 : v 23 = .bool false := hall 23 (by decide)
                                        clear hall hnR
                                        simp only [List.drop_succ_cons, List.drop_zero, List.take_succ_cons, List.take_zero, frameF, Act.put, List.setIfInBounds_toArray, List.set_cons_zero, List.set_cons_succ, Nat.zero_add, Nat.reduceAdd, h23]
                                        have hbl2 := hbl.next hR (Nat.le_refl _)
                                        go_wp2_with fail
                                        go_roundw
                                        case rel => exact ⟨l + 1, by omega, by omega, by go_num, HLN2, hbl2⟩
                                        case measure => simp [intOf]; omega
                                    · obtain ⟨t, ht⟩ : ∃ t, decide (v2 ≤ (n : Int)) = t := ⟨_, rfl⟩
                                      have HT := Lib.hid ht
                                      go_upto_region 32 with fail
                                      refine wp_free_lit (by kernel_rfl) 24 (by kernel_rfl) (by kernel_rfl) (by decide) (fun _ x => Below wr.heap.size wr x) (fun x x' => Below x.heap.size x x')
                                        [fun _ u _ => u = iv (n : Int),
                                         fun _ u _ => u = .bool true,
                                         fun _ u _ => u = .bool true,
                                         fun _ u _ => u = .slice (some ⟨ba, oa, none⟩) a.length c,
                                         fun _ u _ => u = iv (k : Int),
                                         fun _ u _ => u = .pointer (some ⟨ba, oa + k, none⟩),
                                         fun _ u _ => u = .string sa2,
                                         fun _ u _ => u = .slice (some ⟨bb, ob, none⟩) b.length c',
                                         fun _ u _ => u = iv (l : Int),
                                         fun _ u _ => u = .pointer (some ⟨bb, ob + l, none⟩),
                                         fun _ u _ => u = .string sb2,
                                         fun _ u _ => u = .bool q2,
                                         fun _ u _ => u = .bool true,
                                         fun _ u _ => u = .bool true,
                                         fun _ u _ => u = .slice (some ⟨bR, oR, none⟩) rs.length d,
                                         fun _ u _ => u = iv (k : Int),
                                         fun _ u _ => u = .pointer (some ⟨bR, oR + k, none⟩),
                                         fun _ u _ => u = .slice (some ⟨bI2, oI2, none⟩) r2x.length R2C,
                                         fun _ u _ => u = iv (l : Int),
                                         fun _ u _ => u = .pointer (some ⟨bI2, oI2 + l, none⟩),
                                         fun _ u _ => u = iv v2,
                                         fun _ u _ => u = iv (n : Int),
                                         fun _ u _ => u = .bool t,
                                         fun _ u _ => u = .bool t]
                                        (Below.refl _ wr).drew ?_ ?_
                                      · simp only [List.take_succ_cons, List.take_zero, HopL]
                                        refine ⟨?_, ?_, ?_, ?_, ?_, ?_, ?_, ?_, ?_, ?_, ?_, ?_, ?_, ?_, ?_, ?_, ?_, ?_, ?_, ?_, ?_, ?_, ?_, ?_, trivial⟩
                                        · refine ⟨fun _ _ _ _ _ h => h, fun _ _ _ _ h _ => h, fun v nR x hnR hR hk => ?_⟩
                                          simp only [List.take_succ_cons, List.take_zero, frameF, Act.put, List.setIfInBounds_toArray, List.set_cons_zero, List.set_cons_succ]
                                          exact stepF_val (by first | rfl | simp [Region.wanted, yielded, *]) (by go_simp <;> omega) ⟨rfl, Below.refl _ _, hR⟩
                                        · refine ⟨fun _ _ _ _ _ h => h, fun _ _ _ _ h _ => h, fun v nR x hnR hR hk => ?_⟩
                                          have h0 : v 0 = iv (n : Int) := hk 0 (by kernel_rfl)
                                          simp only [List.take_succ_cons, List.take_zero, frameF, Act.put, List.setIfInBounds_toArray, List.set_cons_zero, List.set_cons_succ]
                                          exact stepF_val (by first | rfl | simp [Region.wanted, yielded, *]) (by go_simp <;> omega) ⟨rfl, Below.refl _ _, hR⟩
                                        · refine ⟨fun _ _ _ _ _ h => h, fun _ _ _ _ h _ => h, fun v nR x hnR hR hk => ?_⟩
                                          have h1 : v 1 = .bool true := hk 1 (by kernel_rfl)
                                          simp only [List.take_succ_cons, List.take_zero, frameF, Act.put, List.setIfInBounds_toArray, List.set_cons_zero, List.set_cons_succ]
                                          exact stepF_val (by first | rfl | simp [Region.wanted, yielded, *]) (by go_simp <;> omega) ⟨rfl, Below.refl _ _, hR⟩
                                        · refine ⟨fun _ _ _ _ _ h => h, fun _ _ _ _ h _ => h, fun v nR x hnR hR hk => ?_⟩
                                          have h2 : v 2 = .bool true := hk 2 (by kernel_rfl)
                                          simp only [List.take_succ_cons, List.take_zero, frameF, Act.put, List.setIfInBounds_toArray, List.set_cons_zero, List.set_cons_succ]
                                          exact stepF_val (by first | rfl | simp [Region.wanted, yielded, *]) (by go_simp <;> omega) ⟨rfl, Below.refl _ _, hR⟩
                                        · refine ⟨fun _ _ _ _ _ h => h, fun _ _ _ _ h _ => h, fun v nR x hnR hR hk => ?_⟩
                                          have h2 : v 2 = .bool true := hk 2 (by kernel_rfl)
                                          simp only [List.take_succ_cons, List.take_zero, frameF, Act.put, List.setIfInBounds_toArray, List.set_cons_zero, List.set_cons_succ]
                                          exact stepF_val (by first | rfl | simp [Region.wanted, yielded, *]) (by go_simp <;> omega) ⟨rfl, Below.refl _ _, hR⟩
                                        · refine ⟨fun _ _ _ _ _ h => h, fun _ _ _ _ h _ => h, fun v nR x hnR hR hk => ?_⟩
                                          have h3 : v 3 = .slice (some ⟨ba, oa, none⟩) a.length c := hk 3 (by kernel_rfl)
                                          have h4 : v 4 = iv (k : Int) := hk 4 (by kernel_rfl)
                                          have h2 : v 2 = .bool true := hk 2 (by kernel_rfl)
                                          simp only [List.take_succ_cons, List.take_zero, frameF, Act.put, List.setIfInBounds_toArray, List.set_cons_zero, List.set_cons_succ]
                                          exact stepF_val (by first | rfl | simp [Region.wanted, yielded, *]) (by go_simp <;> omega) ⟨rfl, Below.refl _ _, hR⟩
                                        · refine ⟨fun _ _ _ _ _ h => h, fun _ _ _ _ h _ => h, fun v nR x hnR hR hk => ?_⟩
                                          have h5 : v 5 = .pointer (some ⟨ba, oa + k, none⟩) := hk 5 (by kernel_rfl)
                                          have h2 : v 2 = .bool true := hk 2 (by kernel_rfl)
                                          have g1 := HCA2.out x hR
                                          simp only [List.take_succ_cons, List.take_zero, frameF, Act.put, List.setIfInBounds_toArray, List.set_cons_zero, List.set_cons_succ]
                                          exact stepF_val (by first | rfl | simp [Region.wanted, yielded, *]) (by go_simp <;> omega) ⟨rfl, Below.refl _ _, hR⟩
                                        · refine ⟨fun _ _ _ _ _ h => h, fun _ _ _ _ h _ => h, fun v nR x hnR hR hk => ?_⟩
                                          have h2 : v 2 = .bool true := hk 2 (by kernel_rfl)
                                          simp only [List.take_succ_cons, List.take_zero, frameF, Act.put, List.setIfInBounds_toArray, List.set_cons_zero, List.set_cons_succ]
                                          exact stepF_val (by first | rfl | simp [Region.wanted, yielded, *]) (by go_simp <;> omega) ⟨rfl, Below.refl _ _, hR⟩
                                        · refine ⟨fun _ _ _ _ _ h => h, fun _ _ _ _ h _ => h, fun v nR x hnR hR hk => ?_⟩
                                          have h2 : v 2 = .bool true := hk 2 (by kernel_rfl)
                                          simp only [List.take_succ_cons, List.take_zero, frameF, Act.put, List.setIfInBounds_toArray, List.set_cons_zero, List.set_cons_succ]
                                          exact stepF_val (by first | rfl | simp [Region.wanted, yielded, *]) (by go_simp <;> omega) ⟨rfl, Below.refl _ _, hR⟩
                                        · refine ⟨fun _ _ _ _ _ h => h, fun _ _ _ _ h _ => h, fun v nR x hnR hR hk => ?_⟩
                                          have h7 : v 7 = .slice (some ⟨bb, ob, none⟩) b.length c' := hk 7 (by kernel_rfl)
                                          have h8 : v 8 = iv (l : Int) := hk 8 (by kernel_rfl)
                                          have h2 : v 2 = .bool true := hk 2 (by kernel_rfl)
                                          simp only [List.take_succ_cons, List.take_zero, frameF, Act.put, List.setIfInBounds_toArray, List.set_cons_zero, List.set_cons_succ]
                                          exact stepF_val (by first | rfl | simp [Region.wanted, yielded, *]) (by go_simp <;> omega) ⟨rfl, Below.refl _ _, hR⟩
                                        · refine ⟨fun _ _ _ _ _ h => h, fun _ _ _ _ h _ => h, fun v nR x hnR hR hk => ?_⟩
                                          have h9 : v 9 = .pointer (some ⟨bb, ob + l, none⟩) := hk 9 (by kernel_rfl)
                                          have h2 : v 2 = .bool true := hk 2 (by kernel_rfl)
                                          have g1 := HCB2.out x hR
                                          simp only [List.take_succ_cons, List.take_zero, frameF, Act.put, List.setIfInBounds_toArray, List.set_cons_zero, List.set_cons_succ]
                                          exact stepF_val (by first | rfl | simp [Region.wanted, yielded, *]) (by go_simp <;> omega) ⟨rfl, Below.refl _ _, hR⟩
                                        · refine ⟨fun _ _ _ _ _ h => h, fun _ _ _ _ h _ => h, fun v nR x hnR hR hk => ?_⟩
                                          have h6 : v 6 = .string sa2 := hk 6 (by kernel_rfl)
                                          have h10 : v 10 = .string sb2 := hk 10 (by kernel_rfl)
                                          have h2 : v 2 = .bool true := hk 2 (by kernel_rfl)
                                          simp only [List.take_succ_cons, List.take_zero, frameF, Act.put, List.setIfInBounds_toArray, List.set_cons_zero, List.set_cons_succ]
                                          exact stepF_val (by first | rfl | simp [Region.wanted, yielded, *]) (by go_simp <;> omega) ⟨rfl, Below.refl _ _, hR⟩
                                        · refine ⟨fun _ _ _ _ _ h => h, fun _ _ _ _ h _ => h, fun v nR x hnR hR hk => ?_⟩
                                          have h2 : v 2 = .bool true := hk 2 (by kernel_rfl)
                                          have h11 : v 11 = .bool q2 := hk 11 (by kernel_rfl)
                                          simp only [List.take_succ_cons, List.take_zero, frameF, Act.put, List.setIfInBounds_toArray, List.set_cons_zero, List.set_cons_succ]
                                          exact stepF_val (by first | rfl | simp [Region.wanted, yielded, *]) (by go_simp <;> omega) ⟨rfl, Below.refl _ _, hR⟩
                                        · refine ⟨fun _ _ _ _ _ h => h, fun _ _ _ _ h _ => h, fun v nR x hnR hR hk => ?_⟩
                                          have h12 : v 12 = .bool true := hk 12 (by kernel_rfl)
                                          simp only [List.take_succ_cons, List.take_zero, frameF, Act.put, List.setIfInBounds_toArray, List.set_cons_zero, List.set_cons_succ]
                                          exact stepF_val (by first | rfl | simp [Region.wanted, yielded, *]) (by go_simp <;> omega) ⟨rfl, Below.refl _ _, hR⟩
                                        · refine ⟨fun _ _ _ _ _ h => h, fun _ _ _ _ h _ => h, fun v nR x hnR hR hk => ?_⟩
                                          have h13 : v 13 = .bool true := hk 13 (by kernel_rfl)
                                          simp only [List.take_succ_cons, List.take_zero, frameF, Act.put, List.setIfInBounds_toArray, List.set_cons_zero, List.set_cons_succ]
                                          exact stepF_val (by first | rfl | simp [Region.wanted, yielded, *]) (by go_simp <;> omega) ⟨rfl, Below.refl _ _, hR⟩
                                        · refine ⟨fun _ _ _ _ _ h => h, fun _ _ _ _ h _ => h, fun v nR x hnR hR hk => ?_⟩
                                          have h13 : v 13 = .bool true := hk 13 (by kernel_rfl)
                                          simp only [List.take_succ_cons, List.take_zero, frameF, Act.put, List.setIfInBounds_toArray, List.set_cons_zero, List.set_cons_succ]
                                          exact stepF_val (by first | rfl | simp [Region.wanted, yielded, *]) (by go_simp <;> omega) ⟨rfl, Below.refl _ _, hR⟩
                                        · refine ⟨fun _ _ _ _ _ h => h, fun _ _ _ _ h _ => h, fun v nR x hnR hR hk => ?_⟩
                                          have h14 : v 14 = .slice (some ⟨bR, oR, none⟩) rs.length d := hk 14 (by kernel_rfl)
                                          have h15 : v 15 = iv (k : Int) := hk 15 (by kernel_rfl)
                                          have h13 : v 13 = .bool true := hk 13 (by kernel_rfl)
                                          simp only [List.take_succ_cons, List.take_zero, frameF, Act.put, List.setIfInBounds_toArray, List.set_cons_zero, List.set_cons_succ]
                                          exact stepF_val (by first | rfl | simp [Region.wanted, yielded, *]) (by go_simp <;> omega) ⟨rfl, Below.refl _ _, hR⟩
                                        · refine ⟨fun _ _ _ _ _ h => h, fun _ _ _ _ h _ => h, fun v nR x hnR hR hk => ?_⟩
                                          have h16 : v 16 = .pointer (some ⟨bR, oR + k, none⟩) := hk 16 (by kernel_rfl)
                                          have h13 : v 13 = .bool true := hk 13 (by kernel_rfl)
                                          have g1 := HCR2.out x hR
                                          simp only [List.take_succ_cons, List.take_zero, frameF, Act.put, List.setIfInBounds_toArray, List.set_cons_zero, List.set_cons_succ]
                                          exact stepF_val (by first | rfl | simp [Region.wanted, yielded, *]) (by go_simp <;> omega) ⟨rfl, Below.refl _ _, hR⟩
                                        · refine ⟨fun _ _ _ _ _ h => h, fun _ _ _ _ h _ => h, fun v nR x hnR hR hk => ?_⟩
                                          have h13 : v 13 = .bool true := hk 13 (by kernel_rfl)
                                          simp only [List.take_succ_cons, List.take_zero, frameF, Act.put, List.setIfInBounds_toArray, List.set_cons_zero, List.set_cons_succ]
                                          exact stepF_val (by first | rfl | simp [Region.wanted, yielded, *]) (by go_simp <;> omega) ⟨rfl, Below.refl _ _, hR⟩
                                        · refine ⟨fun _ _ _ _ _ h => h, fun _ _ _ _ h _ => h, fun v nR x hnR hR hk => ?_⟩
                                          have h17 : v 17 = .slice (some ⟨bI2, oI2, none⟩) r2x.length R2C := hk 17 (by kernel_rfl)
                                          have h18 : v 18 = iv (l : Int) := hk 18 (by kernel_rfl)
                                          have h13 : v 13 = .bool true := hk 13 (by kernel_rfl)
                                          simp only [List.take_succ_cons, List.take_zero, frameF, Act.put, List.setIfInBounds_toArray, List.set_cons_zero, List.set_cons_succ]
                                          exact stepF_val (by first | rfl | simp [Region.wanted, yielded, *]) (by go_simp <;> omega) ⟨rfl, Below.refl _ _, hR⟩
                                        · refine ⟨fun _ _ _ _ _ h => h, fun _ _ _ _ h _ => h, fun v nR x hnR hR hk => ?_⟩
                                          have h19 : v 19 = .pointer (some ⟨bI2, oI2 + l, none⟩) := hk 19 (by kernel_rfl)
                                          have h13 : v 13 = .bool true := hk 13 (by kernel_rfl)
                                          have g1 := HCI2.out x hR
                                          simp only [List.take_succ_cons, List.take_zero, frameF, Act.put, List.setIfInBounds_toArray, List.set_cons_zero, List.set_cons_succ]
                                          exact stepF_val (by first | rfl | simp [Region.wanted, yielded, *]) (by go_simp <;> omega) ⟨rfl, Below.refl _ _, hR⟩
                                        · refine ⟨fun _ _ _ _ _ h => h, fun _ _ _ _ h _ => h, fun v nR x hnR hR hk => ?_⟩
                                          have h13 : v 13 = .bool true := hk 13 (by kernel_rfl)
                                          simp only [List.take_succ_cons, List.take_zero, frameF, Act.put, List.setIfInBounds_toArray, List.set_cons_zero, List.set_cons_succ]
                                          exact stepF_val (by first | rfl | simp [Region.wanted, yielded, *]) (by go_simp <;> omega) ⟨rfl, Below.refl _ _, hR⟩
                                        · refine ⟨fun _ _ _ _ _ h => h, fun _ _ _ _ h _ => h, fun v nR x hnR hR hk => ?_⟩
                                          have h20 : v 20 = iv v2 := hk 20 (by kernel_rfl)
                                          have h21 : v 21 = iv (n : Int) := hk 21 (by kernel_rfl)
                                          have h13 : v 13 = .bool true := hk 13 (by kernel_rfl)
                                          simp only [List.take_succ_cons, List.take_zero, frameF, Act.put, List.setIfInBounds_toArray, List.set_cons_zero, List.set_cons_succ]
                                          exact stepF_val (by first | rfl | simp [Region.wanted, yielded, *]) (by go_simp <;> omega) ⟨rfl, Below.refl _ _, hR⟩
                                        · refine ⟨fun _ _ _ _ _ h => h, fun _ _ _ _ h _ => h, fun v nR x hnR hR hk => ?_⟩
                                          have h13 : v 13 = .bool true := hk 13 (by kernel_rfl)
                                          have h22 : v 22 = .bool t := hk 22 (by kernel_rfl)
                                          simp only [List.take_succ_cons, List.take_zero, frameF, Act.put, List.setIfInBounds_toArray, List.set_cons_zero, List.set_cons_succ]
                                          exact stepF_val (by first | rfl | simp [Region.wanted, yielded, *]) (by go_simp <;> omega) ⟨rfl, Below.refl _ _, hR⟩
                                      · intro v nR x2 hnR hR hall
                                        have h23 : v 23 = .bool t := hall 23 (by decide)
                                        clear hall hnR
                                        simp only [List.drop_succ_cons, List.drop_zero, List.take_succ_cons, List.take_zero, frameF, Act.put, List.setIfInBounds_toArray, List.set_cons_zero, List.set_cons_succ, Nat.zero_add, Nat.reduceAdd, h23]
                                        have hbl2 := hbl.next hR (Nat.le_refl _)
                                        have hb02 := hb0l.next hR (Nat.le_refl _)
                                        cases t
                                        · have HLN2 : Hid (∀ l', j < l' → l' < l + 1 → Later a b XS i j (n : Int) k l') := Lib.hid fun l' h1 h2 => by
                                            by_cases he : l' = l
                                            · subst he
                                              have := HT.out
                                              rw [decide_eq_false_iff_not] at this
                                              exact HLT.out.2 (fun _ => by omega)
                                            · exact HLL.out l' h1 (by omega)
                                          clear ht
                                          go_wp2_with fail
                                          go_roundw
                                          case rel => exact ⟨l + 1, by omega, by omega, by go_num, HLN2, hbl2⟩
                                          case measure => simp [intOf]; omega
                                        · have HN : Hid (R = (0, 8)) := Lib.hid (HBD.out k l hik hlt3 hjl hlt4 fun h => by
                                            have h1 := HLT.out.1 h hqv2
                                            have := HT.out
                                            rw [decide_eq_true_iff] at this
                                            omega)
                                          clear ht
                                          go_wp2_with fail
                                          go_ret2
                                          exact ⟨by rw [HN.out]; rfl, hb02⟩
                                · have hli : ¬ (l : Int) < (b.length : Int) := by omega
                                  have HKN : Hid (∀ k' l, i < k' → k' < k + 1 → j < l → l < b.length → Later a b XS i j (n : Int) k' l) := Lib.hid fun k' l' h1 h2 h3 h4 => by
                                    by_cases he : k' = k
                                    · subst he; exact HLL.out l' h3 (by omega)
                                    · exact HK.out k' l' h1 (by omega) h3 h4
                                  have ewk : IntKind.i64.wrap ((k : Int) + 1) = (k : Int) + 1 := IntWalk.i64_in _ (by omega)
                                  go_wp2_with fail
                                  go_roundw
                                  case rel => exact ⟨k + 1, by omega, by omega, by go_num, HKN, hbl⟩
                                  case measure => simp [intOf]; omega
                            · have hki : ¬ (k : Int) < (a.length : Int) := by omega
                              have HN := Lib.hid (HOK.out fun k' l h1 h2 h3 h4 => HK.out k' l h1 (by omega) h3 h4)
                              have hbk2 := hb21.next hbk (Nat.le_refl _)
                              have hmx : max (m : Int) (n : Int) = ((max m n : Nat) : Int) := by omega
                              obtain ⟨M, hM⟩ : ∃ M, M = max m n := ⟨_, rfl⟩
                              rw [← hM] at hmx
                              have HN2 : Hid ((match File.rowP (File.laterOk a b XS) i (j + 1) (M : Int) (rx.drop (j + 1)) with | some m => File.levelsP (File.laterOk a b XS) (i + 1) m (XS.drop (i + 1)) | none => (0, 8)) = R) := Lib.hid (by rw [← hmx]; exact HN.out)
                              have hM24 : M ≤ 24 := by omega
                              clear HN hM
                              go_wp2_with fail
                              go_roundw
                              case rel => exact ⟨j + 1, M, by omega, by first | rfl | rw [hmx], by go_num, hM24, HN2, hbk2⟩
                              case measure => simp [intOf]; omega
                  · have hji : ¬ (j : Int) < (b.length : Int) := by omega
                    have hL := HL.out
                    rw [List.drop_eq_nil_of_le (by rw [HRL.out]; omega), File.rowP] at hL
                    have HN := Lib.hid hL
                    clear hL HL
                    go_wp2_with fail
                    go_roundw
                    case rel => exact ⟨i + 1, m, by omega, rfl, by go_num, hm24, HN, hb0⟩
                    case measure => simp [intOf]; omega
              · have hii : ¬ (i : Int) < (a.length : Int) := by omega
                have hL := HL.out
                rw [List.drop_eq_nil_of_le (by have := HXL.out; omega), File.levelsP] at hL
                have HN := Lib.hid hL
                clear hL HL
                go_wp2_with fail
                go_ret2
                exact ⟨by rw [← HN.out]; rfl, hbr⟩
  · have hq : ((rs.length : Int) != (a.length : Int)) = true := by simp; omega
    have hR2 : R = (0, 2) := by rw [hR, if_neg (fun h => hl (by simpa using h.1))]
    clear hR
    subst hR2
    go_enter Tryd.func13, Tryd.ntmps13
    go_wp2_with fail
    go_ret2
    exact ⟨rfl, Below.refl _ _⟩
end Fl
end Go.Proofs.YtekkhnjepcebkaaDoor
