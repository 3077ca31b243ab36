/- PriceTold returns true: the walk. Condition: the arguments read as bytes. -/
import Derived.Test.YtblmlpkjocbhpaaShortedW
import Derived.Test.YtblmlpkjocbhpaaPiecesW
set_option linter.unusedVariables false
set_option linter.unusedSimpArgs false
namespace Go.Proofs.Ytblmlpkjocbhpaa
open Go.RowKit Go.Shelf
set_option maxRecDepth 100000
/-- What cmp.Compare and slices.Compare answer. -/
def cmpZ (x y : Int) : Int := if x < y then -1 else if y < x then 1 else 0
def cmpL : List Int → List Int → Int
  | x :: l, y :: k => if cmpZ x y = 0 then cmpL l k else cmpZ x y
  | [], _ :: _ => -1
  | [], [] => 0
  | _ :: _, [] => 1
theorem cmpZ_bounds (x y : Int) : -1 ≤ cmpZ x y ∧ cmpZ x y ≤ 1 := by unfold cmpZ; split <;> (try split) <;> omega
theorem cmpL_lex : ∀ (l k : List Int), l.length = k.length → (Price.lexB l k = true ↔ cmpL l k < 0) := by
  intro l
  induction l with
  | nil =>
    intro k h
    cases k with
    | nil =>
      refine ⟨fun h => ?_, fun h => ?_⟩
      · cases h
      · exact absurd (show (0 : Int) < 0 from h) (by decide)
    | cons => cases h
  | cons x l ih =>
    intro k h
    cases k with
    | nil => cases h
    | cons y k =>
      by_cases hxy : x = y
      · subst hxy
        have h1 : Price.lexB (x :: l) (x :: k) = Price.lexB l k := by simp [Price.lexB]
        have h2 : cmpL (x :: l) (x :: k) = cmpL l k := by simp [cmpL, cmpZ]
        rw [h1, h2]
        exact ih k (by simpa using h)
      · have hz : cmpZ x y ≠ 0 := by unfold cmpZ; split <;> (try split) <;> omega
        have h1 : Price.lexB (x :: l) (y :: k) = decide (x < y) := by simp [Price.lexB, hxy]
        have h2 : cmpL (x :: l) (y :: k) = cmpZ x y := by simp [cmpL, hz]
        rw [h1, h2, decide_eq_true_eq]
        unfold cmpZ
        split <;> (try split) <;> omega
theorem cmpI_spec (x y : Int) (w : World) : Calls Try.prog 118 #[iv x, iv y] w fun e w' => e = .returned (iv (cmpZ x y)) ∧ w = w' := by
  by_cases h : x < y
  · rw [show cmpZ x y = -1 by unfold cmpZ; rw [if_pos h]]
    go_enter Try.func118, Try.ntmps118
    go_wp2_with (go_at_call 140; refine (isNaN_int _ _).mono ?_; rintro e w' ⟨rfl, rfl⟩)
    go_ret
    exact ⟨rfl, rfl⟩
  · by_cases h2 : y < x
    · rw [show cmpZ x y = 1 by unfold cmpZ; rw [if_neg h, if_pos h2]]
      go_enter Try.func118, Try.ntmps118
      go_wp2_with (go_at_call 140; refine (isNaN_int _ _).mono ?_; rintro e w' ⟨rfl, rfl⟩)
      go_ret
      exact ⟨rfl, rfl⟩
    · rw [show cmpZ x y = 0 by unfold cmpZ; rw [if_neg h, if_neg h2]]
      go_enter Try.func118, Try.ntmps118
      go_wp2_with (go_at_call 140; refine (isNaN_int _ _).mono ?_; rintro e w' ⟨rfl, rfl⟩)
      go_ret
      exact ⟨rfl, rfl⟩
set_option maxHeartbeats 2000000 in
theorem compareI_spec (A : Option Addr) (xs : List Int) (c : Nat) (A' : Option Addr) (ys : List Int) (c' : Nat) (w : World) (hm : xs.length ≤ big) (hs : Sl intE w A xs) (hm' : ys.length ≤ big) (hs' : Sl intE w A' ys) :
    Calls Try.prog 76 #[.slice A xs.length c, .slice A' ys.length c'] w fun e w' => e = .returned (iv (cmpL xs ys)) ∧ Below w.heap.size w w' := by
  unfold big at hm hm'
  go_enter Try.func76, Try.ntmps76
  go_wp2_with fail
  go_loopw [5, 6, 7, 8, 11] (fun _ _ _ _ i wr => ∃ k : Nat, k ≤ xs.length ∧ k ≤ ys.length ∧ i = iv k ∧ Hid (cmpL xs ys = cmpL (xs.drop k) (ys.drop k)) ∧ Below w.heap.size w wr) (fun _ _ _ _ i _ => xs.length - (intOf i).toNat)
  case atStart => exact ⟨0, by omega, by omega, rfl, rfl, Below.refl _ _⟩
  case round =>
    obtain ⟨k, hk, hk2, rfl, hf, hbw⟩ := hrel
    by_cases hlt : k < xs.length
    · have hki : (k : Int) < (xs.length : Int) := by omega
      obtain ⟨ba, oa, x, rfl, hba, hx, hcx⟩ := (hs.below hbw).atI hlt
      by_cases hlt2 : k < ys.length
      · have hkj : ¬ (ys.length : Int) ≤ (k : Int) := by omega
        have hkl : (k : Int) < (ys.length : Int) := by omega
        obtain ⟨bb, ob, y, rfl, hbb, hy, hcy⟩ := (hs'.below hbw).atI hlt2
        have hf2 := hf.out
        rw [drop_at hx, drop_at hy] at hf2
        simp only [cmpL] at hf2
        have hcz := cmpI_spec x y wr
        have hzb := cmpZ_bounds x y
        obtain ⟨z, hz⟩ : ∃ z, z = cmpZ x y := ⟨_, rfl⟩
        rw [← hz] at hcz hf2 hzb
        have HC := Lib.hid hcz
        by_cases hz0 : z = 0
        · subst hz0
          rw [if_pos rfl] at hf2
          have HF := Lib.hid hf2
          clear hf hf2 hx hy hcz hz
          go_wp2_with fail
          refine HC.out.mono ?_
          rintro e w1 ⟨rfl, rfl⟩
          go_wp2_with fail
          go_roundw
          case rel => exact ⟨k + 1, by omega, by omega, by go_num, HF, hbw⟩
          case measure => simp [intOf]; omega
        · rw [if_neg hz0] at hf2
          have hz0' : (z != 0) = true := by simpa using hz0
          have HF := Lib.hid hf2
          clear hf hf2 hx hy hcz hz hz0
          go_wp2_with fail
          refine HC.out.mono ?_
          rintro e w1 ⟨rfl, rfl⟩
          go_wp2_with fail
          go_ret
          exact ⟨by rw [HF.out]; rfl, hbw⟩
      · have hkj : (ys.length : Int) ≤ (k : Int) := by omega
        have hf2 := hf.out
        rw [drop_at hx, List.drop_of_length_le (show ys.length ≤ k by omega)] at hf2
        simp only [cmpL] at hf2
        have HF := Lib.hid hf2
        clear hf hf2 hx
        go_wp2_with fail
        go_ret
        exact ⟨by rw [HF.out]; rfl, hbw⟩
    · have hki : ¬ (k : Int) < (xs.length : Int) := by omega
      have hf2 := hf.out
      rw [List.drop_of_length_le (show xs.length ≤ k by omega)] at hf2
      by_cases hlt2 : xs.length < ys.length
      · have hll : (xs.length : Int) < (ys.length : Int) := by omega
        obtain ⟨y, hy⟩ : ∃ y, ys[k]? = some y := ⟨_, List.getElem?_eq_getElem (by omega)⟩
        rw [drop_at hy] at hf2
        simp only [cmpL] at hf2
        have HF := Lib.hid hf2
        clear hf hf2 hy
        go_wp2_with fail
        go_ret
        exact ⟨by rw [HF.out]; rfl, hbw⟩
      · have hll : ¬ (xs.length : Int) < (ys.length : Int) := by omega
        rw [List.drop_of_length_le (show ys.length ≤ k by omega)] at hf2
        simp only [cmpL] at hf2
        have HF := Lib.hid hf2
        clear hf hf2
        go_wp2_with fail
        go_ret
        exact ⟨by rw [HF.out]; rfl, hbw⟩
theorem Price.rises_snoc {i : Nat} : ∀ {ns : List Int} {fr : Nat}, Price.Rises i fr ns → fr ≤ i → Price.Rises (i + 1) fr (ns ++ [(i : Int)]) := by
  intro ns
  induction ns with
  | nil => intro fr _ h; exact ⟨by omega, by omega, trivial⟩
  | cons x ns ih => intro fr h hf; exact ⟨h.1, by have := h.2.1; omega, ih h.2.2 (by have := h.1; have := h.2.1; omega)⟩
theorem Price.rises_more {i : Nat} : ∀ {ns : List Int} {fr : Nat}, Price.Rises i fr ns → Price.Rises (i + 1) fr ns := by
  intro ns
  induction ns with
  | nil => intro fr _; trivial
  | cons x ns ih => intro fr h; exact ⟨h.1, by have := h.2.1; omega, ih h.2.2⟩
theorem Price.rises_rising {n : Nat} : ∀ {ns : List Int} {fr : Nat}, Price.Rises n fr ns → Rising ns := by
  intro ns
  induction ns with
  | nil => intro fr _ k x y h; simp at h
  | cons z ns ih =>
    intro fr h k x y h1 h2
    cases k with
    | zero =>
      simp only [List.getElem?_cons_zero, Option.some.injEq] at h1
      subst h1
      cases ns with
      | nil => simp at h2
      | cons u ns =>
        simp only [Nat.zero_add, List.getElem?_cons_succ, List.getElem?_cons_zero, Option.some.injEq] at h2
        subst h2
        have := h.2.2.1
        omega
    | succ k => exact ih h.2.2 k x y (by simpa using h1) (by simpa using h2)
theorem Price.isP_all {p : Piece} {k : Nat} (hk : k < 60) (h : Price.allPieces[k]? = some p) : Price.isP p = true := by
  have h1 := Price.allPieces_get hk
  rw [h] at h1
  injection h1 with h1
  subst h1
  unfold Price.isP Price.inB Price.pieceAt
  simp only [Bool.and_eq_true, decide_eq_true_eq]
  omega
set_option maxHeartbeats 16000000 in
theorem told_walk (A : Option Addr) (bs : List Int) (c : Nat) (A' : Option Addr) (bs' : List Int) (c' : Nat) (w : World) (hs : Sl byteE w A bs) (hs' : Sl byteE w A' bs') :
    Calls Try.prog 13 #[.slice A bs.length c, .slice A' bs'.length c'] w fun e w' => e = .returned (.bool true) ∧ Below w.heap.size w w' := by
  go_enter Try.func13, Try.ntmps13
  go_wp2_with fail
  refine (wound_spec A bs c w hs).mono ?_
  rintro e w1 ⟨g, rfl, rfl, hsp1, hb1⟩
  have hz1 := hsp1.2.1
  go_wp2_with fail
  refine (made_spec _ w.heap.size 0 8 w1 hsp1 (by omega) (by omega)).mono ?_
  rintro e w2 ⟨vl, l, k3, rfl, hol, hml, hk3, hsp2, ho2⟩
  have hl8 := hml.len
  obtain ⟨Al, cl, rfl, hcl, _⟩ := hol.form
  have hsl2 := hol.sl
  have hb02 : Below w.heap.size w w2 := hb1.trans ho2.below
  have HML := Lib.hid hml
  have HC0 := Lib.hid (hml.check (by omega))
  have hfl : Far w2.heap.size Al := fun b off s h => by
    subst h
    have := (hol.lt b (by simp [Value.ownBlock])).2
    omega
  clear hml hol hsp1 hsp2 ho2 hb1 hk3
  go_wp2_with fail
  refine (wound2_spec A' bs' c' w w2 hs' hb02).mono ?_
  rintro e w3 ⟨gq, rfl, rfl, hz3, hb23, HQ⟩
  have hb03 := hb02.next hb23 (Nat.le_refl _)
  have hz02 := hb02.size
  have HSL : Hid (∀ W, Below w3.heap.size w3 W → Sl ruleE W Al l) := fun W h => (hsl2.below hb23).below h
  have hgq3 : w2.heap.size < w3.heap.size := by omega
  have hspq := HQ.out w3 (Nat.le_refl _) (fun b hb => hb03.block b hb) rfl
  clear HQ
  obtain ⟨x, hfx, hxl, HSH0⟩ := short_call Al l cl w3 HC0.out hcl (HSL.out w3 (Below.refl _ _))
  have HSH := Lib.hid HSH0
  have HFX := Lib.hid hfx
  have HPR : Hid (∀ W q, Below w3.heap.size w3 W → Price.isP q = true → (Calls Try.prog 28 #[.slice Al l.length cl, q.v] W fun e w' => e = .returned (.tuple #[iv (Price.priced l q).1, iv (Price.priced l q).2]) ∧ Below W.heap.size W w') ∧ (Calls Try.prog 60 #[.slice Al l.length cl, q.v] W fun e w' => e = .returned (.tuple #[iv (Price.priced l q).1, iv (Price.priced l q).2]) ∧ Below W.heap.size W w')) := fun W q h hq => by
    have h1 := price_spec Al l cl q W (by unfold big; omega) hcl (HSL.out W h)
    have h2 := lpriced_spec Al l cl q W (by unfold big; omega) (HSL.out W h)
    rw [HML.out.law] at h2
    rw [show Price.price l q = Price.priced l q by unfold Price.price; rw [if_pos HC0.out, if_pos hq]] at h1
    exact ⟨h1, h2⟩
  clear HSH0 hfx hsl2 hb02
  go_wp2_with fail
  refine (all_spec w3).mono ?_
  rintro e w4 ⟨va, rfl, hoa, hb34⟩
  obtain ⟨Aa, ca, hv, _, _⟩ := hoa.form
  rw [Price.allPieces_length] at hv
  subst hv
  have hsa := hoa.sl
  have hb04 := hb03.next hb34 (Nat.le_refl _)
  clear hoa
  go_wp2_with fail
  go_loopw [7, 8, 10, 11, 12, 13, 14, 30] (fun v7 v8 _ _ _ _ _ i wr => ∃ (k : Nat), k ≤ 60 ∧ i = iv k ∧ Own pieceE 42 w4.heap.size wr v7 ((Price.allPieces.take k).filter fun p => (Price.priced l p).2 == 6) ∧ Own pieceE 42 w4.heap.size wr v8 ((Price.allPieces.take k).filter fun p => (Price.priced l p).2 == 7) ∧ Apart v7 v8 ∧ Below w4.heap.size w4 wr) (fun _ _ _ _ _ _ _ i _ => 60 - (intOf i).toNat)
  case atStart => exact ⟨0, by omega, rfl, Own.nil, Own.nil, fun b h => (by cases h), Below.refl _ _⟩
  case round =>
    obtain ⟨k, hk, rfl, ho7, ho8, hap, hbw⟩ := hrel
    have hzw := hbw.size
    by_cases hlt : k < 60
    · obtain ⟨b, off, p, rfl, hb, hx, hc0, hc1, hc2⟩ := (hsa.below hbw).atP (k := k) (by rw [Price.allPieces_length]; exact hlt)
      have hip := Price.isP_all hlt hx
      have hpa := Price.allPieces_get hlt
      rw [hx] at hpa
      injection hpa with hpa
      have hk60 : (k : Int) < 60 := by omega
      have HF6 := Lib.hid (Price.filter_take (f := fun p => (Price.priced l p).2 == 6) hlt)
      have HF7 := Lib.hid (Price.filter_take (f := fun p => (Price.priced l p).2 == 7) hlt)
      rw [← hpa] at HF6 HF7
      have HL7 := Lib.hid (Nat.le_trans (List.length_filter_le (fun p => (Price.priced l p).2 == 6) (Price.allPieces.take k)) (by rw [List.length_take]; exact Nat.min_le_left _ _ : _ ≤ k))
      have HL8 := Lib.hid (Nat.le_trans (List.length_filter_le (fun p => (Price.priced l p).2 == 7) (Price.allPieces.take k)) (by rw [List.length_take]; exact Nat.min_le_left _ _ : _ ≤ k))
      have HO7 := Lib.hid ho7
      have HO8 := Lib.hid ho8
      have HAP := Lib.hid hap
      have HP : Hid (∀ W, Below wr.heap.size wr W → (Calls Try.prog 28 #[.slice Al l.length cl, p.v] W fun e w' => e = .returned (.tuple #[iv (Price.priced l p).1, iv (Price.priced l p).2]) ∧ Below W.heap.size W w') ∧ (Calls Try.prog 60 #[.slice Al l.length cl, p.v] W fun e w' => e = .returned (.tuple #[iv (Price.priced l p).1, iv (Price.priced l p).2]) ∧ Below W.heap.size W w')) := fun W h => HPR.out W p ((hb34.next hbw (Nat.le_refl _)).next h (Nat.le_refl _)) hip
      obtain ⟨pe, hpe⟩ : ∃ pe, pe = (Price.priced l p).2 := ⟨_, rfl⟩
      obtain ⟨pn, hpn⟩ : ∃ pn, pn = (Price.priced l p).1 := ⟨_, rfl⟩
      rw [← hpe] at HP HF6 HF7
      rw [← hpn] at HP
      obtain ⟨px, py, pz⟩ := p
      dsimp only at hc0 hc1 hc2
      have hba : Below wr.heap.size wr (wr.alloc (.cells #[iv px, iv py, iv pz] 42)) := (Below.refl _ _).alloc (Nat.le_refl _) _
      have hBa : Blk (wr.alloc (.cells #[iv px, iv py, iv pz] 42)) wr.heap.size 42 #[iv px, iv py, iv pz] := Blk.new _ _ _
      have hza : (wr.alloc (.cells #[iv px, iv py, iv pz] 42)).heap.size = wr.heap.size + 1 := by simp
      clear hx hip hpa ho7 ho8 hap hpe hpn
      go_wp2_with fail
      generalize wr.alloc (.cells #[iv px, iv py, iv pz] 42) = wa at *
      have H1 := Lib.hid (HP.out wa hba).1
      refine H1.out.mono ?_
      rintro e wb ⟨rfl, hbb⟩
      have hbab := hba.next hbb (Nat.le_refl _)
      have hBb := hBa.under hbb
      have g0 := hBb.cell
      have g1 := hBb.lt
      have H2 := Lib.hid (HP.out wb hbab).2
      clear H1 HP
      go_wp2_with fail
      refine H2.out.mono ?_
      rintro e wd ⟨rfl, hbd⟩
      have hb67 := hbab.next hbd (Nat.le_refl _)
      have hzd := hb67.size
      have hzd2 : wr.heap.size < wd.heap.size := by have := hbb.size; have := hbd.size; omega
      clear g0 g1
      obtain ⟨g0, g1, g2, g3, g4, g5⟩ := (hBb.under hbd).facts
      have e1 : (pn != pn) = false := by simp
      have e2 : (pe != pe) = false := by simp
      clear H2 hBa hBb hbb hbab hbd hba hza
      by_cases h6 : pe = 6
      · subst h6
        go_wp2_with (first
          | (at_builtin; refine wpApp1At pieceE tyPieces rfl _ _ rfl (HO7.out.below hb67) ⟨px, py, pz⟩ rfl rfl rfl rfl (by omega) (by have := HL7.out; unfold big; omega) ?_; intro v' w8 hown8 hb8 hk8 hat8))
        have hoth := (HO8.out.below hb67).keep hb8.size fun b hb => hk8 b (((HO8.out.below hb67).lt b hb).2) (fun e => HAP.out b e hb)
        have hapn := show Apart v' _ from fun b h1 h2 => by
          rcases hat8 with h | h
          · exact HAP.out b (by rw [← h]; exact h1) h2
          · rw [h] at h1
            injection h1 with h1
            have := (HO8.out.lt b h2).2
            omega
        have HO88 := Lib.hid hown8
        have HOT := Lib.hid hoth
        have HBW := Lib.hid ((hbw.trans (hb67.mono hzw)).trans hb8)
        clear hb8 hk8 hown8 hoth
        go_roundw
        case rel => exact ⟨k + 1, by omega, by go_num, by rw [HF6.out]; exact HO88.out, by rw [HF7.out]; simpa using HOT.out, hapn, HBW.out⟩
        case measure => simp [intOf]; omega
      · have h6' : (pe == 6) = false := beq_eq_false_iff_ne.2 h6
        by_cases h7 : pe = 7
        · subst h7
          go_wp2_with (first
            | (at_builtin; refine wpApp1At pieceE tyPieces rfl _ _ rfl (HO8.out.below hb67) ⟨px, py, pz⟩ rfl rfl rfl rfl (by omega) (by have := HL8.out; unfold big; omega) ?_; intro v' w8 hown8 hb8 hk8 hat8))
          have hoth := (HO7.out.below hb67).keep hb8.size fun b hb => hk8 b (((HO7.out.below hb67).lt b hb).2) (fun e => HAP.out b hb e)
          have hapn := show Apart v' _ from fun b h1 h2 => by
            rcases hat8 with h | h
            · exact HAP.out b h2 (by rw [← h]; exact h1)
            · rw [h] at h1
              injection h1 with h1
              have := (HO7.out.lt b h2).2
              omega
          have HO88 := Lib.hid hown8
          have HOT := Lib.hid hoth
          have HBW := Lib.hid ((hbw.trans (hb67.mono hzw)).trans hb8)
          clear hb8 hk8 hown8 hoth
          go_roundw
          case rel => exact ⟨k + 1, by omega, by go_num, by rw [HF6.out]; simpa using HOT.out, by rw [HF7.out]; exact HO88.out, hapn.symm, HBW.out⟩
          case measure => simp [intOf]; omega
        · have h7' : (pe == 7) = false := beq_eq_false_iff_ne.2 h7
          have HX6 := Lib.hid (HO7.out.below hb67)
          have HX7 := Lib.hid (HO8.out.below hb67)
          have HBW := Lib.hid (hbw.trans (hb67.mono hzw))
          go_wp2
          go_roundw
          case rel => exact ⟨k + 1, by omega, by go_num, by rw [HF6.out]; simpa [h6] using HX6.out, by rw [HF7.out]; simpa [h7] using HX7.out, HAP.out, HBW.out⟩
          case measure => simp [intOf]; omega
    · have hk60 : ¬ (k : Int) < 60 := by omega
      rw [List.take_of_length_le (by rw [Price.allPieces_length]; omega)] at ho7 ho8
      obtain ⟨w5, rfl⟩ : ∃ w5 : World, w5 = wr := ⟨_, rfl⟩
      have hb35 := hb34.next hbw (Nat.le_refl _)
      have hb05 := hb04.next hbw (by have := hb03.size; omega)
      obtain ⟨E6, hE6⟩ : ∃ E6, E6 = Price.allPieces.filter fun p => (Price.priced l p).2 == 6 := ⟨_, rfl⟩
      obtain ⟨E7, hE7⟩ : ∃ E7, E7 = Price.allPieces.filter fun p => (Price.priced l p).2 == 7 := ⟨_, rfl⟩
      have hl6 : E6.length ≤ 60 := by rw [hE6]; exact Nat.le_trans (List.length_filter_le _ _) (by rw [Price.allPieces_length]; omega)
      have hl7 : E7.length ≤ 60 := by rw [hE7]; exact Nat.le_trans (List.length_filter_le _ _) (by rw [Price.allPieces_length]; omega)
      have HOP : Hid (∀ W, Below w3.heap.size w3 W → Calls Try.prog 29 #[.slice Al l.length cl] W fun e w' => ∃ v, e = .returned (.tuple #[v, iv 0]) ∧ Own pieceE 42 W.heap.size w' v E6 ∧ Below W.heap.size W w') := fun W h => by
        have := Open_spec Al l cl W (by unfold big; omega) hcl (HSL.out W h)
        rw [show Price.erringOf l 6 = (E6, 0) by unfold Price.erringOf; rw [if_pos HC0.out, hE6]] at this
        exact this
      have HTO : Hid (∀ W, Below w3.heap.size w3 W → Calls Try.prog 30 #[.slice Al l.length cl] W fun e w' => ∃ v, e = .returned (.tuple #[v, iv 0]) ∧ Own pieceE 42 W.heap.size w' v E7 ∧ Below W.heap.size W w') := fun W h => by
        have := Torn_spec Al l cl W (by unfold big; omega) hcl (HSL.out W h)
        rw [show Price.erringOf l 7 = (E7, 0) by unfold Price.erringOf; rw [if_pos HC0.out, hE7]] at this
        exact this
      rw [← hE6] at ho7
      rw [← hE7] at ho8
      obtain ⟨A7, c7, rfl, _, _⟩ := ho7.form
      obtain ⟨A8, c8, rfl, _, _⟩ := ho8.form
      have hs7 := ho7.sl
      have hs8 := ho8.sl
      clear hE6 hE7 ho7 ho8 hap hb34 hbw hb04 hsa HPR
      have h1 := Lib.hid (HOP.out w5 hb35)
      go_wp2_with fail
      refine h1.out.mono ?_
      rintro e w6 ⟨v6, rfl, ho6, hb6⟩
      obtain ⟨A6, c6, rfl, _, _⟩ := ho6.form
      have hs6 := ho6.sl
      have hb36 := hb35.next hb6 (Nat.le_refl _)
      have h2 := Lib.hid (HTO.out w6 hb36)
      clear h1 ho6 HOP
      go_wp2_with fail
      refine h2.out.mono ?_
      rintro e w7 ⟨v9, rfl, ho9, hb7⟩
      obtain ⟨A9, c9, rfl, _, _⟩ := ho9.form
      have hs9 := ho9.sl
      have hb37 := hb36.next hb7 (Nat.le_refl _)
      have h3 := Lib.hid (HSH.out w7 hb37)
      clear h2 ho9 HTO
      go_wp2_with fail
      refine h3.out.mono ?_
      rintro e w8 ⟨Ax, cx, rfl, _, hLx, hsx, hb8⟩
      have hb38 := hb37.next hb8 (Nat.le_refl _)
      have hfx : Far w2.heap.size Ax := fun b off s h => by
        have h1 := hLx b off s h
        have := hb37.size
        omega
      have HXI : Hid (∀ i ∈ x, 0 ≤ i ∧ i < l.length) := fun i hi => by have := Price.rises_mem HFX.out.rises i hi; omega
      have HCK : Hid (Calls Try.prog 52 #[.slice Al l.length cl] w8 fun e w' => e = .returned (iv 0) ∧ Below w8.heap.size w8 w') := by
        have := check_spec Al l cl w8 (by unfold big; omega) hcl (HSL.out w8 hb38)
        rw [HC0.out] at this
        exact this
      clear h3 HSH hLx
      go_wp2_with fail
      refine HCK.out.mono ?_
      rintro e w9 ⟨rfl, hb9⟩
      have hb89 := hb9
      have h4 := Lib.hid (equalP A6 E6 c6 A7 E6 c7 w9 (by unfold big; omega) (((hs6.below hb7).below hb8).below hb89) (by unfold big; omega) ((((hs7.below hb6).below hb7).below hb8).below hb89))
      rw [decide_eq_true (rfl : E6 = E6)] at h4
      clear HCK hb9
      go_wp2_with fail
      refine h4.out.mono ?_
      rintro e w10 ⟨rfl, hb10⟩
      have hb810 := hb89.next hb10 (Nat.le_refl _)
      have h5 := Lib.hid (equalP A9 E7 c9 A8 E7 c8 w10 (by unfold big; omega) ((hs9.below hb8).below hb810) (by unfold big; omega) ((((hs8.below hb6).below hb7).below hb8).below hb810))
      rw [decide_eq_true (rfl : E7 = E7)] at h5
      clear h4 hb10
      go_wp2_with fail
      refine h5.out.mono ?_
      rintro e w11 ⟨rfl, hb11⟩
      have hb811 := hb810.next hb11 (Nat.le_refl _)
      have h6 := Lib.hid (sortedI Ax x cx w11 (by unfold big; omega) (hsx.below hb811) (Price.rises_rising HFX.out.rises))
      clear h5 hb11
      go_wp2_with fail
      refine h6.out.mono ?_
      rintro e w12 ⟨rfl, hb12⟩
      have hb812 := hb811.next hb12 (Nat.le_refl _)
      have hb312 := hb38.next hb812 (Nat.le_refl _)
      have hxl2 : ¬ (l.length : Int) < (x.length : Int) := by omega
      have HG : Hid (Calls Try.prog 72 #[.slice Al l.length cl, .slice Ax x.length cx] w12 fun e w' => e = .returned (.bool true) ∧ Below w12.heap.size w12 w') := by
        have := gives_spec Al l cl Ax x cx w12 (by omega) (HSL.out w12 hb312) HML.out.pos (by omega) (hsx.below hb812) HXI.out
        rw [HFX.out.holds] at this
        exact this
      clear h6 hb12 hb89 hb810 hb811 hs6 hs7 hs8 hs9 hb6 hb7
      go_wp2_with fail
      refine HG.out.mono ?_
      rintro e w13 ⟨rfl, hb13⟩
      have hb813 := hb812.next hb13 (Nat.le_refl _)
      have hb313 := hb312.next hb13 (Nat.le_refl _)
      have hb013 := hb03.next hb313 (by omega)
      have hsp13 := hspq.below hb313 (by omega)
      have hsl13 := HSL.out w13 hb313
      have hsx13 := hsx.below hb813
      have hz13 := hb313.size
      clear HG hb13 hb812 hb813 hspq hsx hb35 hb36 hb37 hb38 hb312 hb8 HSL hb05
      go_wp2_with fail
      go_loopw [21, 22, 125] (fun _ _ i wr => ∃ (j kk : Nat), j ≤ 8 ∧ i = iv j ∧ kk ≤ 8 * j ∧ IsSpool (w2.heap.size + 1) wr w2.heap.size kk ∧ Hid (Only w2.heap.size w13 wr)) (fun _ _ i _ => 8 - (intOf i).toNat)
      case atStart => exact ⟨0, 0, by omega, rfl, by omega, hsp13, Only.refl _ _⟩
      case round =>
        obtain ⟨j, kk, hj, rfl, hkk, hsp, hon⟩ := hrel
        by_cases hlt : j < 8
        · have hj8 : (j : Int) < 8 := by omega
          obtain ⟨wo, rfl⟩ : ∃ wo : World, wo = wr := ⟨_, rfl⟩
          have hzo := hon.out.below.size
          go_wp2_with fail
          go_loopw [21, 22, 129] (fun v _ i wx => ∃ (i' kx : Nat) (ns : List Int), i' ≤ l.length ∧ i = iv i' ∧ kx ≤ 8 * j + i' ∧ IsSpool (w2.heap.size + 1) wx w2.heap.size kx ∧ Own intE 3 wo.heap.size wx v ns ∧ ns.length ≤ i' ∧ Hid (Price.Rises i' 0 ns) ∧ Hid (Only w2.heap.size wo wx)) (fun _ _ i _ => l.length - (intOf i).toNat)
          case atStart => exact ⟨0, kk, [], by omega, rfl, by omega, hsp, Own.nil, by simp, trivial, Only.refl _ _⟩
          case round =>
            obtain ⟨i', kx, ns, hi, rfl, hkx, hspx, hown, hnl, hris, honx⟩ := hrel
            by_cases hil : i' < l.length
            · have hii : (i' : Int) < (l.length : Int) := by omega
              have HON := Lib.hid (once_spec _ wr w2.heap.size kx 2 hspx (by omega) (by omega) (by omega))
              have hzx := honx.out.below.size
              go_wp2_with fail
              refine HON.out.mono ?_
              rintro e wy ⟨b, rfl, hspy, hoy⟩
              have howny := hown.only (by omega) hoy
              have hzy := hoy.below.size
              have HOX : Hid (Only w2.heap.size wo wy) := honx.out.trans hoy
              clear HON hspx hown honx
              cases b
              · go_wp2_with fail
                go_roundw
                case rel => exact ⟨i' + 1, kx + 1, ns, by omega, by go_num, by omega, hspy, howny, by omega, Price.rises_more hris.out, HOX⟩
                case measure => simp [intOf]; omega
              · have HRS : Hid (Price.Rises (i' + 1) 0 (ns ++ [(i' : Int)])) := Price.rises_snoc hris.out (Nat.zero_le _)
                have HOX2 := HOX
                go_wp2_with (at_builtin; refine wpApp1 intE tyInts rfl _ _ rfl howny (i' : Int) rfl rfl rfl (by omega) (by unfold big; omega) ?_; intro v' w4 ho4 hb4 hk4)
                clear hk4
                go_roundw
                case rel => exact ⟨i' + 1, kx + 1, ns ++ [(i' : Int)], by omega, by go_num, by omega, hspy.below hb4 (by omega), ho4, by simp; omega, HRS, HOX.out.next hb4 (by omega) (Nat.le_refl _)⟩
                case measure => simp [intOf]; omega
            · obtain ⟨w14, rfl⟩ : ∃ w14 : World, w14 = wr := ⟨_, rfl⟩
              have hii : ¬ (i' : Int) < (l.length : Int) := by omega
              have hie : i' = l.length := by omega
              have hrn := hris.out
              rw [hie] at hrn
              have HRN := Lib.hid hrn
              have hn8 : ns.length ≤ 8 := by omega
              have hkx8 : kx ≤ 8 * (j + 1) := by omega
              obtain ⟨An, cn, rfl, _, _⟩ := hown.form
              have hsn := hown.sl
              have HON := Lib.hid (hon.out.trans honx.out)
              have hsl14 := hsl13.only hfl HON.out
              have hsx14 := hsx13.only hfx HON.out
              have HNI : Hid (∀ i ∈ ns, 0 ≤ i ∧ i < l.length) := fun i hi => by have := Price.rises_mem HRN.out i hi; omega
              have HGV : Hid (∀ W, Below w14.heap.size w14 W → Calls Try.prog 72 #[.slice Al l.length cl, .slice An ns.length cn] W fun e w' => e = .returned (.bool (Price.givesP l ns)) ∧ Below W.heap.size W w') := fun W h => gives_spec Al l cl An ns cn W (by omega) (hsl14.below h) HML.out.pos (by omega) (hsn.below h) HNI.out
              have HLE : Hid (Price.beforeB ns x = true → Price.givesP l ns = false) := fun h => by
                rw [Bool.eq_false_iff]
                intro hg
                rw [HFX.out.least ns HRN.out hg] at h
                cases h
              have hz14 := HON.out.below.size
              clear hris hrn hown hon honx hie HNI
              by_cases hl1 : ns.length < x.length
              · have hl1' : (ns.length : Int) < (x.length : Int) := by omega
                have hgf := HLE.out (by unfold Price.beforeB; rw [if_neg (by omega), decide_eq_true_eq]; exact hl1)
                rw [hgf] at HGV
                have HG1 := Lib.hid (HGV.out w14 (Below.refl _ _))
                clear hgf HGV HLE hl1
                go_wp2_with (go_at_call 72; refine HG1.out.mono ?_; rintro e w15 ⟨rfl, hb15⟩)
                go_roundw
                case rel => exact ⟨j + 1, kx, by omega, by go_num, hkx8, hspx.below hb15 (by omega), HON.out.next hb15 (by omega) hz14⟩
                case measure => simp [intOf]; omega
              · have hl1' : ¬ (ns.length : Int) < (x.length : Int) := by omega
                by_cases hl2 : ns.length = x.length
                · have hl2' : ((ns.length : Int) == (x.length : Int)) = true := by simp [hl2]
                  have hcp := compareI_spec An ns cn Ax x cx w14 (by unfold big; omega) hsn (by unfold big; omega) hsx14
                  have hlx := cmpL_lex ns x hl2
                  have hbf : Price.beforeB ns x = Price.lexB ns x := by unfold Price.beforeB; rw [if_pos hl2]
                  obtain ⟨z, hz⟩ : ∃ z, z = cmpL ns x := ⟨_, rfl⟩
                  rw [← hz] at hcp hlx
                  have HCP := Lib.hid hcp
                  by_cases hzn : z < 0
                  · have hgf := HLE.out (by rw [hbf]; exact hlx.2 hzn)
                    rw [hgf] at HGV
                    clear hgf HLE hl1 hl2 hcp hlx hbf hz
                    go_wp2_with fail
                    refine HCP.out.mono ?_
                    rintro e w15 ⟨rfl, hb15⟩
                    have HG1 := Lib.hid (HGV.out w15 hb15)
                    clear HGV
                    go_wp2_with (go_at_call 72; refine HG1.out.mono ?_; rintro e w16 ⟨rfl, hb16⟩)
                    have hb1416 := hb15.next hb16 (Nat.le_refl _)
                    go_roundw
                    case rel => exact ⟨j + 1, kx, by omega, by go_num, hkx8, hspx.below hb1416 (by omega), HON.out.next hb1416 (by omega) hz14⟩
                    case measure => simp [intOf]; omega
                  · clear HLE hl1 hl2 hcp hlx hbf hz HGV
                    go_wp2_with fail
                    refine HCP.out.mono ?_
                    rintro e w15 ⟨rfl, hb15⟩
                    go_wp2_with fail
                    go_roundw
                    case rel => exact ⟨j + 1, kx, by omega, by go_num, hkx8, hspx.below hb15 (by omega), HON.out.next hb15 (by omega) hz14⟩
                    case measure => simp [intOf]; omega
                · have hl2' : ((ns.length : Int) == (x.length : Int)) = false := beq_eq_false_iff_ne.2 (by omega)
                  clear HLE hl1 hl2 HGV
                  go_wp2_with fail
                  go_roundw
                  case rel => exact ⟨j + 1, kx, by omega, by go_num, hkx8, hspx, HON.out⟩
                  case measure => simp [intOf]; omega
        · have hj8 : ¬ (j : Int) < 8 := by omega
          have HA := Lib.hid (awake_spec wr)
          have hb0r : Below w.heap.size w wr := hb013.trans (hon.out.below.mono hz02)
          go_wp2_with (go_at_call 20; refine HA.out.mono ?_; rintro e wz ⟨rfl, hwz⟩)
          go_ret
          exact ⟨rfl, hb0r.next hwz (Nat.le_refl _)⟩
end Go.Proofs.Ytblmlpkjocbhpaa
