/- The reference's first piece at which two lists differ; is a list of numbers before another one. Conditions: lengths are below a great bound; rules are allowed. -/
import Derived.Test.YtkailkfiakagfaaGreatRefC
import Derived.Test.YtkailkfiakagfaaGreatPriceP
import Derived.Test.YtkailkfiakagfaaGreatShortP
import Derived.Test.YtkailkfiakagfaaGreatLawW
import Derived.Test.YtkailkfiakagfaaGreatAllW
set_option linter.unusedVariables false
set_option linter.unusedSimpArgs false
namespace Go.Proofs.YtkailkfiakagfaaGreat
open Go.RowKit
set_option maxRecDepth 100000
theorem Price.find_snoc (a b : List Rule) (ps : List Piece) (p : Piece) (h : ps.find? (Price.differs a b) = none) : (ps ++ [p]).find? (Price.differs a b) = if Price.differs a b p then some p else none := by
  rw [List.find?_append, h]
  cases hd : Price.differs a b p <;> simp [List.find?_cons, hd]
theorem Price.find_pre {a b : List Rule} {ps qs : List Piece} {p : Piece} (h : ps.find? (Price.differs a b) = some p) : (ps ++ qs).find? (Price.differs a b) = some p := by
  rw [List.find?_append, h]; rfl
set_option maxHeartbeats 4000000 in
theorem differ2_spec (A : Option Addr) (a : List Rule) (c : Nat) (A' : Option Addr) (b : List Rule) (c' : Nat) (w : World) (hm : a.length ≤ big) (hs : Sl ruleE w A a) (ha : ∀ r ∈ a, -1 ≤ r.b ∧ -1 ≤ r.s ∧ -1 ≤ r.e) (hm' : b.length ≤ big) (hs' : Sl ruleE w A' b) (ha' : ∀ r ∈ b, -1 ≤ r.b ∧ -1 ≤ r.s ∧ -1 ≤ r.e) :
    Calls Tryz.prog 36 #[.slice A a.length c, .slice A' b.length c'] w fun e w' => e = .returned (.tuple #[(Price.differ a b).1.v, .bool (decide ((Price.differ a b).2 = 0))]) ∧ Below w.heap.size w w' := by
  have HP1 : Hid (∀ W p, Below w.heap.size w W → Calls Tryz.prog 30 #[.slice A a.length c, p.v] W fun e w' => e = .returned (.tuple #[iv (Price.priced a p).1, iv (Price.priced a p).2]) ∧ Below W.heap.size W w') := fun W p h => price2_spec A a c p W hm (hs.below h) ha
  have HP2 : Hid (∀ W p, Below w.heap.size w W → Calls Tryz.prog 30 #[.slice A' b.length c', p.v] W fun e w' => e = .returned (.tuple #[iv (Price.priced b p).1, iv (Price.priced b p).2]) ∧ Below W.heap.size W w') := fun W p h => price2_spec A' b c' p W hm' (hs'.below h) ha'
  clear ha ha'
  have hb0 : Below w.heap.size w (w.alloc (.cells #[iv 0, iv 0, iv 0] 59)) := (Below.refl _ _).alloc (Nat.le_refl _) _
  have hB0 : Blk (w.alloc (.cells #[iv 0, iv 0, iv 0] 59)) w.heap.size 59 #[iv 0, iv 0, iv 0] := Blk.new _ _ _
  go_enter Tryz.func36, Tryz.ntmps36
  go_wp2_with fail
  generalize w.alloc (.cells #[iv 0, iv 0, iv 0] 59) = w0 at *
  refine (pieces2_spec w0).mono ?_
  rintro e w1 ⟨v, rfl, ho, hb1⟩
  obtain ⟨Ap, cp, hv, _, _⟩ := ho.form
  rw [Price.allPieces_length] at hv
  subst hv
  have hsp := ho.sl
  have hB1 := hB0.under hb1
  have hb01 := hb0.next hb1 (Nat.le_refl _)
  clear ho hb1 hB0 hb0
  go_wp2_with fail
  go_loopw [7, 8, 9, 10, 11] (fun i _ _ _ _ wr => ∃ k : Nat, k ≤ 60 ∧ i = iv k ∧ Hid ((Price.allPieces.take k).find? (Price.differs a b) = none) ∧ Below w1.heap.size w1 wr) (fun i _ _ _ _ _ => 60 - (intOf i).toNat)
  case atStart => exact ⟨0, by omega, rfl, rfl, Below.refl _ _⟩
  case round =>
    obtain ⟨k, hk, rfl, hno, hbw⟩ := hrel
    have hb0r := hb01.next hbw (Nat.le_refl _)
    have hBr := hB1.under hbw
    have hzr := hb0r.size
    by_cases hlt : k < 60
    · have hk60 : (k : Int) < 60 := by omega
      obtain ⟨bp, off, p, rfl, hb, hx, hc0, hc1, hc2⟩ := (hsp.below hbw).atP (k := k) (by rw [Price.allPieces_length]; exact hlt)
      have HTK := Lib.hid (take_at hx)
      have HFS := Lib.hid (Price.find_snoc a b _ p hno.out)
      have HPRE : Hid (∀ q, (Price.allPieces.take (k + 1)).find? (Price.differs a b) = some q → Price.differ a b = (q, 0)) := fun q h => by
        unfold Price.differ
        have h2 := Price.find_pre (qs := Price.allPieces.drop (k + 1)) h
        rw [List.take_append_drop] at h2
        rw [h2]
      have HDD : Hid (Price.differs a b p = ((Price.priced a p).1 != (Price.priced b p).1 || (Price.priced a p).2 != (Price.priced b p).2)) := rfl
      have H1 := Lib.hid (HP1.out wr p hb0r)
      have H2 : Hid (∀ W, Below wr.heap.size wr W → Calls Tryz.prog 30 #[.slice A' b.length c', p.v] W fun e w' => e = .returned (.tuple #[iv (Price.priced b p).1, iv (Price.priced b p).2]) ∧ Below W.heap.size W w') := fun W h => HP2.out W p (hb0r.next h (by omega))
      obtain ⟨⟨n1, e1⟩, hne1⟩ : ∃ x, x = Price.priced a p := ⟨_, rfl⟩
      obtain ⟨⟨n2, e2⟩, hne2⟩ : ∃ x, x = Price.priced b p := ⟨_, rfl⟩
      rw [← hne1] at H1 HDD
      rw [← hne2] at H2 HDD
      dsimp only at HDD H1 H2
      obtain ⟨x, y, z⟩ := p
      dsimp only at hc0 hc1 hc2
      clear hne1 hne2 hx HP1 HP2
      go_wp2_with fail
      refine H1.out.mono ?_
      rintro e w2 ⟨rfl, hb2⟩
      have d0 := (hb2.cell (p := ⟨bp, off + k * 3, none⟩) hb).trans hc0
      have d1 := (hb2.cell (p := ⟨bp, off + k * 3 + 1, none⟩) hb).trans hc1
      have d2 := (hb2.cell (p := ⟨bp, off + k * 3 + 2, none⟩) hb).trans hc2
      have H3 := Lib.hid (H2.out w2 hb2)
      clear H1 H2
      go_wp2_with fail
      refine H3.out.mono ?_
      rintro e w3 ⟨rfl, hb3⟩
      have hbr3 := hb2.next hb3 (Nat.le_refl _)
      have g0 := (hbr3.cell (p := ⟨bp, off + k * 3, none⟩) hb).trans hc0
      have g1 := (hbr3.cell (p := ⟨bp, off + k * 3 + 1, none⟩) hb).trans hc1
      have g2 := (hbr3.cell (p := ⟨bp, off + k * 3 + 2, none⟩) hb).trans hc2
      have hb03 := hb0r.next hbr3 (Nat.le_refl _)
      have hB3 := hBr.under hbr3
      have q0 := hB3.cell
      have q1 := hB3.frozen
      have q2 := hB3.lt
      have HW1 := Lib.hid (hbw.next hbr3 (Nat.le_refl _))
      clear H3 hc0 hc1 hc2 d0 d1 d2 hb2 hb3
      by_cases h1 : n1 = n2
      · have h1' : (n1 != n2) = false := by simp [h1]
        by_cases h2 : e1 = e2
        · have h2' : (e1 != e2) = false := by simp [h2]
          rw [h1', h2'] at HDD
          rw [HDD.out, if_neg (by decide)] at HFS
          clear h1 h2
          go_wp2_with fail
          go_roundw
          case rel => exact ⟨k + 1, by omega, by go_num, by rw [HTK.out]; exact HFS, HW1.out⟩
          case measure => simp [intOf]; omega
        · have h2' : (e1 != e2) = true := by simpa using h2
          rw [h1', h2'] at HDD
          rw [HDD.out, if_pos (by decide), ← HTK.out] at HFS
          have HD := Lib.hid (HPRE.out _ HFS.out)
          clear h1 h2
          go_wp2_with fail
          have k5 := ((hB3.set_ 0 (iv (x))).set_ 1 (iv (y))).set_ 2 (iv (z))
          have d5 := k5.cell
          refine bodyPost_ret (v := .tuple #[.agg #[iv (x), iv (y), iv (z)], .bool true]) (by simp [results, Tryz.f36, go_sem, d5]) rfl ⟨?_, ((hb03.setCell (p := ⟨w.heap.size, 0, none⟩) (Nat.le_refl _) _).setCell (p := ⟨w.heap.size, 1, none⟩) (Nat.le_refl _) _).setCell (p := ⟨w.heap.size, 2, none⟩) (Nat.le_refl _) _⟩
          rw [HD.out]
          rfl
      · have h1' : (n1 != n2) = true := by simpa using h1
        rw [h1', Bool.true_or] at HDD
        rw [HDD.out, if_pos rfl, ← HTK.out] at HFS
        have HD := Lib.hid (HPRE.out _ HFS.out)
        clear h1
        go_wp2_with fail
        have k5 := ((hB3.set_ 0 (iv (x))).set_ 1 (iv (y))).set_ 2 (iv (z))
        have d5 := k5.cell
        refine bodyPost_ret (v := .tuple #[.agg #[iv (x), iv (y), iv (z)], .bool true]) (by simp [results, Tryz.f36, go_sem, d5]) rfl ⟨?_, ((hb03.setCell (p := ⟨w.heap.size, 0, none⟩) (Nat.le_refl _) _).setCell (p := ⟨w.heap.size, 1, none⟩) (Nat.le_refl _) _).setCell (p := ⟨w.heap.size, 2, none⟩) (Nat.le_refl _) _⟩
        rw [HD.out]
        rfl
    · have hk60 : ¬ (k : Int) < 60 := by omega
      have hno' := hno.out
      rw [List.take_of_length_le (by rw [Price.allPieces_length]; omega)] at hno'
      have HD : Hid (Price.differ a b = (⟨0, 0, 0⟩, 6)) := by
        refine Lib.hid ?_
        unfold Price.differ
        rw [hno']
      have q0 := hBr.cell
      have q1 := hBr.frozen
      have q2 := hBr.lt
      clear hno hno'
      go_wp2_with fail
      have k5 := ((hBr.set_ 0 (iv (0))).set_ 1 (iv (0))).set_ 2 (iv (0))
      have d5 := k5.cell
      refine bodyPost_ret (v := .tuple #[.agg #[iv (0), iv (0), iv (0)], .bool false]) (by simp [results, Tryz.f36, go_sem, d5]) rfl ⟨?_, ((hb0r.setCell (p := ⟨w.heap.size, 0, none⟩) (Nat.le_refl _) _).setCell (p := ⟨w.heap.size, 1, none⟩) (Nat.le_refl _) _).setCell (p := ⟨w.heap.size, 2, none⟩) (Nat.le_refl _) _⟩
      rw [HD.out]
      rfl
theorem before_spec (A : Option Addr) (a : List Int) (c : Nat) (A' : Option Addr) (b : List Int) (c' : Nat) (w : World) (hm : a.length ≤ big) (hs : Sl intE w A a) (hm' : b.length ≤ big) (hs' : Sl intE w A' b) :
    Calls Tryz.prog 77 #[.slice A a.length c, .slice A' b.length c'] w fun e w' => e = .returned (.bool (Price.beforeB a b)) ∧ Below w.heap.size w w' := by
  unfold big at hm hm'
  by_cases hl : a.length = b.length
  · have hl' : ((a.length : Int) != (b.length : Int)) = false := by simp [hl]
    have HL := Lib.hid hl
    have HB : Hid (Price.beforeB a b = Price.lexB (a.drop 0) (b.drop 0)) := by refine Lib.hid ?_; unfold Price.beforeB; rw [if_pos hl]; rfl
    clear hl
    go_enter Tryz.func77, Tryz.ntmps77
    go_wp2_with fail
    go_loopw [5] (fun i wr => ∃ k : Nat, k ≤ a.length ∧ i = iv k ∧ Hid (Price.beforeB a b = Price.lexB (a.drop k) (b.drop k)) ∧ Below w.heap.size w wr) (fun i _ => a.length - (intOf i).toNat)
    case atStart => exact ⟨0, by omega, rfl, HB, Below.refl _ _⟩
    case round =>
      obtain ⟨k, hk, rfl, hf, hbw⟩ := hrel
      by_cases hlt : k < a.length
      · have hltb : k < b.length := by have := HL.out; omega
        obtain ⟨ba, oa, x, rfl, hba, hx, hcx⟩ := (hs.below hbw).atI hlt
        obtain ⟨bb, ob, y, rfl, hbb, hy, hcy⟩ := (hs'.below hbw).atI hltb
        have hf2 := hf.out
        rw [drop_at hx, drop_at hy] at hf2
        simp only [Price.lexB] at hf2
        have HF := Lib.hid hf2
        have hka : (k : Int) < (a.length : Int) := by omega
        have hkb : (k : Int) < (b.length : Int) := by omega
        clear hf hf2 hx hy HB
        by_cases hxy : x = y
        · have hxy' : (x != y) = false := by simp [hxy]
          have HXY := Lib.hid hxy
          clear hxy
          go_wp2
          go_region
          go_wp2
          go_roundw
          case rel => exact ⟨k + 1, by omega, by go_num, by rw [if_pos HXY.out] at HF; exact HF, (by first | exact hbw | exact hbw.drew)⟩
          case measure => simp [intOf]; omega
        · have hxy' : (x != y) = true := by simpa using hxy
          rw [if_neg hxy] at HF
          clear hxy
          go_wp2
          go_region
          go_wp2
          go_region
          go_wp2
          go_ret
          exact ⟨by rw [HF.out]; rfl, (by first | exact hbw | exact hbw.drew | exact hbw.drew.drew)⟩
      · have hka : ¬ (k : Int) < (a.length : Int) := by omega
        have hf2 := hf.out
        rw [List.drop_of_length_le (by omega)] at hf2
        have HF : Hid (Price.beforeB a b = false) := by
          refine Lib.hid ?_
          rw [hf2]
          cases b.drop k <;> rfl
        clear hf hf2 HB
        go_wp2
        go_ret
        exact ⟨by rw [HF.out]; rfl, hbw⟩
  · have hl' : ((a.length : Int) != (b.length : Int)) = true := by simpa using (by omega : ¬ (a.length : Int) = b.length)
    have HB : Hid (Price.beforeB a b = decide (a.length < b.length)) := by refine Lib.hid ?_; unfold Price.beforeB; rw [if_neg hl]
    clear hl
    go_enter Tryz.func77, Tryz.ntmps77
    go_wp2
    go_ret
    exact ⟨by rw [HB.out]; rfl, Below.refl _ _⟩
end Go.Proofs.YtkailkfiakagfaaGreat
-- Do some rules give the same prices as all? (of the statements). Conditions: at most 1000 rules, whose prices are not below 0; numbers of rules.
namespace Go.Proofs.YtkailkfiakagfaaGreat
open Go.RowKit Go.Shelf
set_option maxRecDepth 100000
theorem Price.gives_find (l : List Rule) (ns : List Int) : (Price.givesP l ns = true ↔ Price.allPieces.find? (Price.differs l (Price.chosen l ns)) = none) := by
  unfold Price.givesP Price.differ
  cases Price.allPieces.find? (Price.differs l (Price.chosen l ns)) <;> simp
end Go.Proofs.YtkailkfiakagfaaGreat
