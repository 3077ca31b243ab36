/- PriceLists returns true: the walk. Condition: the arguments read as rules and a number. -/
import Derived.Test.YtkailkfiakagfaaGreatRefT
import Derived.Test.YtkailkfiakagfaaGreatShortV
import Derived.Test.YtkailkfiakagfaaGreatIdleW
import Derived.Test.YtkailkfiakagfaaGreatPriceV
import Derived.Test.YtkailkfiakagfaaGreatEqR
import Derived.Deep.DeepCutAuto
set_option linter.unusedVariables false
set_option linter.unusedSimpArgs false
namespace Go.Proofs.YtkailkfiakagfaaGreat
open Go.RowKit Go.Shelf
set_option maxRecDepth 100000
theorem Price.differ_cases (a b : List Rule) : (∃ p, Price.differ a b = (p, 0)) ∨ Price.differ a b = (⟨0, 0, 0⟩, 6) := by
  unfold Price.differ; split
  · exact .inl ⟨_, rfl⟩
  · exact .inr rfl
set_option maxHeartbeats 16000000 in
theorem lists_walk (A : Option Addr) (l : List Rule) (c : Nat) (A' : Option Addr) (l' : List Rule) (c' : Nat) (rule : Int) (w : World) (hm : l.length ≤ maxLen) (hc : l.length ≤ c) (hs : Sl ruleE w A l) (hm' : l'.length ≤ maxLen) (hc' : l'.length ≤ c') (hs' : Sl ruleE w A' l') (hr : -9223372036854775808 ≤ rule ∧ rule ≤ 9223372036854775807) :
    Calls Tryz.prog 10 #[.slice A l.length c, .slice A' l'.length c', iv rule] w fun e w' => e = .returned (.bool true) ∧ Below w.heap.size w w' := by
  unfold maxLen at hm hm'
  by_cases h12 : l.length ≤ 12
  · have h12a : ¬ (12 : Int) < (l.length : Int) := by omega
    by_cases h12' : l'.length ≤ 12
    · have h12b : ¬ (12 : Int) < (l'.length : Int) := by omega
      go_enter Tryz.func10, Tryz.ntmps10
      go_wp2_with fail
      refine (dupR A l c w (by unfold big; omega) hs).mono ?_
      rintro e w1 ⟨v1, rfl, ho1, hb1⟩
      obtain ⟨A1, c1, rfl, hc1, _⟩ := ho1.form
      have hd1 := ho1.sl
      have hs1' := hs'.below hb1
      clear ho1
      go_wp2_with fail
      refine (dupR A' l' c' w1 (by unfold big; omega) hs1').mono ?_
      rintro e w2 ⟨v2, rfl, ho2, hb2⟩
      obtain ⟨A2, c2, rfl, hc2, _⟩ := ho2.form
      have hd2 := ho2.sl
      have hb02 := hb1.next hb2 (Nat.le_refl _)
      have hs2 := hs.below hb02
      have hs2' := hs1'.below hb2
      have hd12 := hd1.below hb2
      clear ho2 hb1 hb2 hs1' hd1
      go_wp2_with fail
      refine (theirs_spec A l c w2 (by omega) hs2).mono ?_
      rintro e w3 ⟨v3, rfl, ho3, hb3⟩
      obtain ⟨A3, c3, rfl, hc3, hcm3⟩ := ho3.form
      have hx3 := ho3.sl
      have hb03 := hb02.next hb3 (Nat.le_refl _)
      have hs3 := hs2.below hb3
      have hs3' := hs2'.below hb3
      have hd13 := hd12.below hb3
      have hd23 := hd2.below hb3
      clear ho3 hb02 hb3 hs2 hs2' hd12 hd2
      go_wp2_with fail
      refine (theirs_spec A' l' c' w3 (by omega) hs3').mono ?_
      rintro e w4 ⟨v4, rfl, ho4, hb4⟩
      obtain ⟨A4, c4, rfl, hc4, _⟩ := ho4.form
      have hy4 := ho4.sl
      have hx4 := hx3.below hb4
      have hb04 := hb03.next hb4 (Nat.le_refl _)
      have hs4 := hs3.below hb4
      have hs4' := hs3'.below hb4
      have hd14 := hd13.below hb4
      have hd24 := hd23.below hb4
      clear ho4 hb03 hb4 hs3 hs3' hd13 hd23 hx3
      go_wp2_with fail
      refine (check2_spec A3 l c3 w4 (by unfold big; omega) hx4).mono ?_
      rintro e w5 ⟨rfl, hb5⟩
      have hb05 := hb04.next hb5 (Nat.le_refl _)
      have HX : Hid (∀ W, Below w5.heap.size w5 W → Sl ruleE W A3 l) := fun W h => (hx4.below hb5).below h
      have HY : Hid (∀ W, Below w5.heap.size w5 W → Sl ruleE W A4 l') := fun W h => (hy4.below hb5).below h
      have HD1 : Hid (∀ W, Below w5.heap.size w5 W → Sl ruleE W A1 l) := fun W h => (hd14.below hb5).below h
      have HD2 : Hid (∀ W, Below w5.heap.size w5 W → Sl ruleE W A2 l') := fun W h => (hd24.below hb5).below h
      have HS1 : Hid (∀ W, Below w5.heap.size w5 W → Sl ruleE W A l) := fun W h => (hs4.below hb5).below h
      have HS2 : Hid (∀ W, Below w5.heap.size w5 W → Sl ruleE W A' l') := fun W h => (hs4'.below hb5).below h
      obtain ⟨ck, hck⟩ : ∃ ck, ck = Price.check l := ⟨_, rfl⟩
      rw [← hck]
      have HCK := Lib.hid hck
      clear hck hb5 hb04 hs4 hs4' hd14 hd24 hx4 hy4 hs hs'
      go_upto_if 56 with fail
      have hb6 : Below w5.heap.size w5 ((w5.alloc (.cells #[iv 0, iv 0, iv 0] 59)).alloc (.cells #[iv 0, iv 0, iv 0] 59)) := ((Below.refl _ _).alloc (Nat.le_refl _) _).alloc (by simp) _
      have hBa : Blk ((w5.alloc (.cells #[iv 0, iv 0, iv 0] 59)).alloc (.cells #[iv 0, iv 0, iv 0] 59)) w5.heap.size 59 #[iv 0, iv 0, iv 0] := (Blk.new _ _ _).alloc _
      have hBs : Blk ((w5.alloc (.cells #[iv 0, iv 0, iv 0] 59)).alloc (.cells #[iv 0, iv 0, iv 0] 59)) (w5.heap.size + 1) 59 #[iv 0, iv 0, iv 0] := Blk.new_ _ _ _ (by simp)
      generalize (w5.alloc (.cells #[iv 0, iv 0, iv 0] 59)).alloc (.cells #[iv 0, iv 0, iv 0] 59) = w6 at *
      go_cut [12, 13, 16, 17, 18, 19, 21, 23, 24, 25] from 57 to 124 (fun v12 v13 v16 v17 _ _ _ _ _ _ wx => v12 = iv (Price.differOf l l').2 ∧ v13 = iv (Price.witnessOf l rule).2 ∧ Own intE 3 w5.heap.size wx v16 (Price.idleOf l).1 ∧ (∃ A c, v17 = .slice A (Price.shortOf l).1.length c ∧ Sl intE wx A (Price.shortOf l).1) ∧ Blk wx w5.heap.size 59 #[iv (Price.differOf l l').1.b, iv (Price.differOf l l').1.s, iv (Price.differOf l l').1.e] ∧ Blk wx (w5.heap.size + 1) 59 #[iv (Price.witnessOf l rule).1.b, iv (Price.witnessOf l rule).1.s, iv (Price.witnessOf l rule).1.e] ∧ Below w5.heap.size w5 wx)
      case first =>
        by_cases h0 : ck = 0
        · subst h0
          have hage := allowed_ge HCK.out.symm
          have HAGE := Lib.hid hage
          have HC0 : Hid (Price.check l = 0) := HCK.out.symm
          have hl8 := Price.check_length HCK.out.symm
          clear hage
          go_wp2_with fail
          refine (check2_spec A4 l' c4 w6 (by unfold big; omega) (HY.out w6 hb6)).mono ?_
          rintro e w7 ⟨rfl, hb67⟩
          have hb57 := hb6.next hb67 (Nat.le_refl _)
          have hBa7 := hBa.under hb67
          have hBs7 := hBs.under hb67
          obtain ⟨ck2, hck2⟩ : ∃ ck, ck = Price.check l' := ⟨_, rfl⟩
          rw [← hck2]
          have HCK2 := Lib.hid hck2
          clear hck2 hb67 hBa hBs hb6
          go_upto_if 60 with fail
          go_cut [12, 18] from 61 to 69 (fun v12 v18 wx => v12 = iv (Price.differOf l l').2 ∧ (∃ b : Bool, v18 = .bool b) ∧ Blk wx w5.heap.size 59 #[iv (Price.differOf l l').1.b, iv (Price.differOf l l').1.s, iv (Price.differOf l l').1.e] ∧ Blk wx (w5.heap.size + 1) 59 #[iv 0, iv 0, iv 0] ∧ Below w5.heap.size w5 wx)
          case first =>
            by_cases h1 : ck2 = 0
            · subst h1
              have HC2 : Hid (Price.check l' = 0) := HCK2.out.symm
              have HDO : Hid (Price.differOf l l' = Price.differ l l') := by refine Lib.hid ?_; unfold Price.differOf; rw [if_pos HC0.out, if_pos HC2.out]
              have HDF := Lib.hid (differ2_spec A3 l c3 A4 l' c4 w7 (by unfold big; omega) (HX.out w7 hb57) HAGE.out (by unfold big; omega) (HY.out w7 hb57) (allowed_ge HC2.out))
              rcases Price.differ_cases l l' with ⟨⟨pa, pb, pc⟩, hdc⟩ | hdc
              · rw [hdc] at HDF HDO
                clear hdc
                go_wp2_with fail
                refine HDF.out.mono ?_
                rintro e w8 ⟨rfl, hb78⟩
                have hBa8 := hBa7.under hb78
                have hBs8 := hBs7.under hb78
                have q0 := hBa8.cell
                have q1 := hBa8.frozen
                have q2 := hBa8.lt
                have hb58 := hb57.next hb78 (Nat.le_refl _)
                clear HDF
                go_wp2_with fail
                go_meet
                rw [HDO.out]
                exact ⟨rfl, ⟨_, rfl⟩, ((hBa8.set_ 0 _).set_ 1 _).set_ 2 _, ((hBs8.far (p := ⟨w5.heap.size, 0, none⟩) (by simp) _).far (p := ⟨w5.heap.size, 1, none⟩) (by simp) _).far (p := ⟨w5.heap.size, 2, none⟩) (by simp) _, ((hb58.setCell (p := ⟨w5.heap.size, 0, none⟩) (Nat.le_refl _) _).setCell (p := ⟨w5.heap.size, 1, none⟩) (Nat.le_refl _) _).setCell (p := ⟨w5.heap.size, 2, none⟩) (Nat.le_refl _) _⟩
              · rw [hdc] at HDF HDO
                clear hdc
                go_wp2_with fail
                refine HDF.out.mono ?_
                rintro e w8 ⟨rfl, hb78⟩
                have hBa8 := hBa7.under hb78
                have hBs8 := hBs7.under hb78
                have q0 := hBa8.cell
                have q1 := hBa8.frozen
                have q2 := hBa8.lt
                have hb58 := hb57.next hb78 (Nat.le_refl _)
                clear HDF
                go_wp2_with fail
                go_meet
                rw [HDO.out]
                exact ⟨rfl, ⟨_, rfl⟩, ((hBa8.set_ 0 _).set_ 1 _).set_ 2 _, ((hBs8.far (p := ⟨w5.heap.size, 0, none⟩) (by simp) _).far (p := ⟨w5.heap.size, 1, none⟩) (by simp) _).far (p := ⟨w5.heap.size, 2, none⟩) (by simp) _, ((hb58.setCell (p := ⟨w5.heap.size, 0, none⟩) (Nat.le_refl _) _).setCell (p := ⟨w5.heap.size, 1, none⟩) (Nat.le_refl _) _).setCell (p := ⟨w5.heap.size, 2, none⟩) (Nat.le_refl _) _⟩
            · have h1' : (ck2 == 0) = false := beq_eq_false_iff_ne.2 h1
              have HDO : Hid (Price.differOf l l' = (⟨0, 0, 0⟩, ck2)) := by refine Lib.hid ?_; unfold Price.differOf; rw [if_pos HC0.out, ← HCK2.out, if_neg h1]
              clear h1
              go_wp2_with fail
              go_meet
              rw [HDO.out]
              exact ⟨rfl, ⟨_, rfl⟩, hBa7, hBs7, hb57⟩
          case rest =>
            obtain ⟨rfl, ⟨b18, rfl⟩, hBa8, hBs8, hb58⟩ := hcut
            generalize wc = w8 at *
            clear hBa7 hBs7 hb57
            go_upto_region 16 with fail
            go_cut [76] from 69 to 76 (fun v wx => ∃ b : Bool, v = .bool b ∧ Hid (b = decide (0 ≤ rule ∧ rule < l.length)) ∧ wx = w8)
            case first =>
              by_cases hr0 : 0 ≤ rule
              · by_cases hrl : rule < (l.length : Int)
                · go_wp2_with fail
                  go_meet
                  exact ⟨true, rfl, Lib.hid (by simp [hr0, hrl]), rfl⟩
                · go_wp2_with fail
                  go_meet
                  exact ⟨false, rfl, Lib.hid (by simp [hrl]), rfl⟩
              · go_wp2_with fail
                go_meet
                exact ⟨false, rfl, Lib.hid (by symm; rw [decide_eq_false_iff_not]; omega), rfl⟩
            case rest =>
            obtain ⟨bin, rfl, hbin, hwc⟩ := hcut
            subst hwc
            generalize wc = w8 at *
            go_upto_if 76 with fail
            go_cut [13, 18] from 77 to 86 (fun v13 v18 wx => v13 = iv (Price.witnessOf l rule).2 ∧ (∃ b : Bool, v18 = .bool b) ∧ Blk wx w5.heap.size 59 #[iv (Price.differOf l l').1.b, iv (Price.differOf l l').1.s, iv (Price.differOf l l').1.e] ∧ Blk wx (w5.heap.size + 1) 59 #[iv (Price.witnessOf l rule).1.b, iv (Price.witnessOf l rule).1.s, iv (Price.witnessOf l rule).1.e] ∧ Below w5.heap.size w5 wx)
            case first =>
              have hbo := hbin.out
              by_cases hin : 0 ≤ rule ∧ rule < l.length
              · rw [decide_eq_true hin] at hbo
                subst hbo
                obtain ⟨k, rfl⟩ := Int.eq_ofNat_of_zero_le hin.1
                have hkl : k < l.length := by omega
                have hki : (k : Int) < (l.length : Int) := by omega
                have HWO : Hid (Price.witnessOf l (k : Int) = Price.differ l (l.eraseIdx k)) := by refine Lib.hid ?_; unfold Price.witnessOf; rw [if_pos HC0.out, if_pos hin, Int.toNat_natCast]
                have HEL := Lib.hid (List.length_eraseIdx_le l k)
                have HWT := Lib.hid (without_spec A3 l c3 k w8 (by omega) hc3 hcm3 (HX.out w8 hb58) hkl)
                clear hin
                go_wp2_with fail
                refine HWT.out.mono ?_
                rintro e w9 ⟨v9, rfl, ho9, hb89⟩
                obtain ⟨A9, c9, rfl, _, _⟩ := ho9.form
                have hb59 := hb58.next hb89 (Nat.le_refl _)
                have HDF := Lib.hid (differ2_spec A3 l c3 A9 (l.eraseIdx k) c9 w9 (by unfold big; omega) (HX.out w9 hb59) HAGE.out (by have := HEL.out; unfold big; omega) ho9.sl (fun r hr => HAGE.out r ((List.eraseIdx_sublist l k).subset hr)))
                have hBa9 := hBa8.under hb89
                have hBs9 := hBs8.under hb89
                clear HWT ho9 hb89
                rcases Price.differ_cases l (l.eraseIdx k) with ⟨⟨pa, pb, pc⟩, hdc⟩ | hdc
                · rw [hdc] at HDF HWO
                  clear hdc
                  go_wp2_with fail
                  refine HDF.out.mono ?_
                  rintro e w10 ⟨rfl, hb910⟩
                  have hBa10 := hBa9.under hb910
                  have hBs10 := hBs9.under hb910
                  have q0 := hBs10.cell
                  have q1 := hBs10.frozen
                  have q2 := hBs10.lt
                  have hb510 := hb59.next hb910 (Nat.le_refl _)
                  clear HDF
                  go_wp2_with fail
                  go_meet
                  rw [HWO.out]
                  exact ⟨rfl, ⟨_, rfl⟩, ((hBa10.far (p := ⟨w5.heap.size + 1, 0, none⟩) (by simp) _).far (p := ⟨w5.heap.size + 1, 1, none⟩) (by simp) _).far (p := ⟨w5.heap.size + 1, 2, none⟩) (by simp) _, ((hBs10.set_ 0 _).set_ 1 _).set_ 2 _, ((hb510.setCell (p := ⟨w5.heap.size + 1, 0, none⟩) (Nat.le_succ _) _).setCell (p := ⟨w5.heap.size + 1, 1, none⟩) (Nat.le_succ _) _).setCell (p := ⟨w5.heap.size + 1, 2, none⟩) (Nat.le_succ _) _⟩
                · rw [hdc] at HDF HWO
                  clear hdc
                  go_wp2_with fail
                  refine HDF.out.mono ?_
                  rintro e w10 ⟨rfl, hb910⟩
                  have hBa10 := hBa9.under hb910
                  have hBs10 := hBs9.under hb910
                  have q0 := hBs10.cell
                  have q1 := hBs10.frozen
                  have q2 := hBs10.lt
                  have hb510 := hb59.next hb910 (Nat.le_refl _)
                  clear HDF
                  go_wp2_with fail
                  go_meet
                  rw [HWO.out]
                  exact ⟨rfl, ⟨_, rfl⟩, ((hBa10.far (p := ⟨w5.heap.size + 1, 0, none⟩) (by simp) _).far (p := ⟨w5.heap.size + 1, 1, none⟩) (by simp) _).far (p := ⟨w5.heap.size + 1, 2, none⟩) (by simp) _, ((hBs10.set_ 0 _).set_ 1 _).set_ 2 _, ((hb510.setCell (p := ⟨w5.heap.size + 1, 0, none⟩) (Nat.le_succ _) _).setCell (p := ⟨w5.heap.size + 1, 1, none⟩) (Nat.le_succ _) _).setCell (p := ⟨w5.heap.size + 1, 2, none⟩) (Nat.le_succ _) _⟩
              · have HWO : Hid (Price.witnessOf l rule = (⟨0, 0, 0⟩, 1)) := by refine Lib.hid ?_; unfold Price.witnessOf; rw [if_pos HC0.out, if_neg hin]
                rw [decide_eq_false hin] at hbo
                subst hbo
                clear hin
                go_wp2_with fail
                go_meet
                rw [HWO.out]
                exact ⟨rfl, ⟨_, rfl⟩, hBa8, hBs8, hb58⟩
            case rest =>
              obtain ⟨rfl, ⟨b18', rfl⟩, hBa9, hBs9, hb59⟩ := hcut
              generalize wc = w9 at *
              clear hBa8 hBs8 hb58
              have hz59 := hb59.size
              have hlt9 := hBs9.lt
              go_wp2_with (at_make; refine wpMakeN boolE tyBools false ⟨_, _, rfl, rfl, rfl⟩ rfl _ _ rfl l.length rfl rfl (by unfold big; omega) ?_; intro w10 hot hb10)
              have hfull := hot.full
              rw [flat_bool] at hfull
              have hBb := hfull.1
              have hgb := hBb.lt
              have hb510 := hb59.next hb10 (Nat.le_refl _)
              have hBa10 := hBa9.under hb10
              have hBs10 := hBs9.under hb10
              clear hot hfull hb10 hBa9 hBs9
              refine (pieces2_spec w10).mono ?_
              rintro e w11 ⟨vp, rfl, hop, hb11⟩
              obtain ⟨Ap, cp, hvp, _, _⟩ := hop.form
              rw [Price.allPieces_length] at hvp
              subst hvp
              have hsp := hop.sl
              have hBb11 := hBb.under hb11
              have hb511 := hb510.next hb11 (Nat.le_refl _)
              have hBa11 := hBa10.under hb11
              have hBs11 := hBs10.under hb11
              have hz11 := hb11.size
              have hfp : Far w9.heap.size Ap := fun b off s h => by
                subst h
                have := (hop.lt b (by simp [Value.ownBlock])).1
                omega
              clear hop hBb hb510 hBa10 hBs10 hb11
              go_wp2_with fail
              go_loopw [21, 23, 91] (fun _ _ i wr => ∃ j : Nat, j ≤ 60 ∧ i = iv j ∧ Blk wr w9.heap.size 4 ((Price.busyOf l (Price.allPieces.take j)).map Value.bool).toArray ∧ Hid (Only w9.heap.size w11 wr)) (fun _ _ i _ => 60 - (intOf i).toNat)
              case atStart => exact ⟨0, by omega, rfl, by simpa [Price.busyOf] using hBb11, Only.refl _ _⟩
              case round =>
                obtain ⟨j, hj, rfl, hBr, hon⟩ := hrel
                have hzr := hon.out.below.size
                have hb5r : Below w5.heap.size w5 wr := hb511.trans (hon.out.below.mono hz59)
                by_cases hlt : j < 60
                · have hj60 : (j : Int) < 60 := by omega
                  obtain ⟨ba, oa, q, rfl, hba, hq, hc0, hc1, hc2⟩ := (hsp.only hfp hon.out).atP (k := j) (by rw [Price.allPieces_length]; exact hlt)
                  have hbs := Price.busyOf_snoc l (Price.allPieces.take j) q
                  rw [← take_at hq] at hbs
                  have hmem : ∀ i ∈ Price.counts l q, 0 ≤ i ∧ i < l.length := fun i hi => Price.counts_mem hi
                  have hcl := Price.counts_length l q
                  have hwa : Below wr.heap.size wr (wr.alloc (.cells #[iv q.b, iv q.s, iv q.e] 59)) := (Below.refl _ _).alloc (Nat.le_refl _) _
                  have HCO := Lib.hid (counts2_spec A3 l c3 q (wr.alloc (.cells #[iv q.b, iv q.s, iv q.e] 59)) (by unfold big; omega) (HX.out _ (hb5r.next hwa (Nat.le_refl _))) HAGE.out)
                  have hBq : Blk (wr.alloc (.cells #[iv q.b, iv q.s, iv q.e] 59)) wr.heap.size 59 #[iv q.b, iv q.s, iv q.e] := Blk.new _ _ _
                  obtain ⟨cs, hcs⟩ : ∃ cs, cs = Price.counts l q := ⟨_, rfl⟩
                  rw [← hcs] at HCO hbs hmem hcl
                  have HBS := Lib.hid hbs
                  have HME := Lib.hid hmem
                  obtain ⟨x, y, z⟩ := q
                  dsimp only at hc0 hc1 hc2 hwa hBq HCO
                  clear hq hbs hmem hcs
                  go_wp2_with fail
                  generalize wr.alloc (.cells #[iv x, iv y, iv z] 59) = wa at *
                  refine HCO.out.mono ?_
                  rintro e wb ⟨vc, rfl, hoc, hbab⟩
                  obtain ⟨Ac, cc, hvc, _, _⟩ := hoc.form
                  subst hvc
                  have hsc := hoc.sl
                  have hza := hwa.size
                  have hzb := hbab.size
                  have hBb12 := (hBr.under hwa).under hbab
                  have hgb9 := hBr.lt
                  have hfc : Far w9.heap.size Ac := fun b off s h => by
                    subst h
                    have := (hoc.lt b (by simp [Value.ownBlock])).1
                    omega
                  have HONB : Hid (Only w9.heap.size w11 wb) := hon.out.next (hwa.next hbab (Nat.le_refl _)) (by omega) hzr
                  clear hoc HCO hBq hBr hc0 hc1 hc2
                  go_wp2_with fail
                  go_loopw [23, 99] (fun _ i wx => ∃ k : Nat, k ≤ cs.length ∧ i = iv k ∧ Blk wx w9.heap.size 4 ((Price.markAll (Price.busyOf l (Price.allPieces.take j)) (cs.take k)).map Value.bool).toArray ∧ Hid (Only w9.heap.size wb wx)) (fun _ i _ => cs.length - (intOf i).toNat)
                  case atStart => exact ⟨0, by omega, rfl, hBb12, Only.refl _ _⟩
                  case round =>
                    obtain ⟨k, hk, rfl, hBx, honx⟩ := hrel
                    by_cases hlt2 : k < cs.length
                    · obtain ⟨bc, oc, i, rfl, hbc, hx, hci⟩ := (hsc.only hfc honx.out).atI hlt2
                      have hib := HME.out i (mem_at hx)
                      obtain ⟨jj, rfl⟩ := Int.eq_ofNat_of_zero_le hib.1
                      have hjl : jj < l.length := by omega
                      have hji : (jj : Int) < (l.length : Int) := by omega
                      have HT : Hid (Price.markAll (Price.busyOf l (Price.allPieces.take j)) (cs.take (k + 1)) = (Price.markAll (Price.busyOf l (Price.allPieces.take j)) (cs.take k)).set jj true) := by
                        show _ = _
                        rw [take_at hx, Price.markAll_snoc, Int.toNat_natCast]
                      have fb := hBx.frozen
                      have lb := hBx.lt
                      have HBB := Lib.hid (hBx.set_ jj (.bool true))
                      have hex : ∃ v, wr.cell? ⟨w9.heap.size, jj, none⟩ = some v := by
                        have hs2 : jj < ((Price.markAll (Price.busyOf l (Price.allPieces.take j)) (cs.take k)).map Value.bool).toArray.size := by
                          simp [Price.markAll_length, Price.busyOf_length]; exact hjl
                        exact ⟨_, (hBx.cell jj).trans (Array.getElem?_eq_getElem hs2)⟩
                      obtain ⟨vv, hvv⟩ := hex
                      have HON2 : Hid (Only w9.heap.size wb (wr.setCell ⟨w9.heap.size, jj, none⟩ (.bool true))) := honx.out.trans (Only.set_ _ _ _ _)
                      clear hBx hx hib
                      go_wp2_with fail
                      go_roundw
                      case rel => exact ⟨k + 1, by omega, by go_num, by rw [HT.out]; (have h := HBB.out; simpa using h), HON2.out⟩
                      case measure => simp [intOf]; omega
                    · rw [List.take_of_length_le (show cs.length ≤ k by omega)] at hBx
                      have HBX := Lib.hid hBx
                      clear hBx
                      go_wp2_with fail
                      go_roundw
                      case rel => exact ⟨j + 1, by omega, by go_num, by rw [HBS.out]; exact HBX.out, HONB.out.trans honx.out⟩
                      case measure => simp [intOf]; omega
                · have hj60 : ¬ (j : Int) < 60 := by omega
                  rw [List.take_of_length_le (by rw [Price.allPieces_length]; omega)] at hBr
                  obtain ⟨w12, rfl⟩ : ∃ w12 : World, w12 = wr := ⟨_, rfl⟩
                  have hBa12 := hBa11.only (by omega) hon.out
                  have hBs12 := hBs11.only (by omega) hon.out
                  clear hBa11 hBs11 hsp hb511 hon
                  go_wp2_with fail
                  go_loopw [16, 24, 25, 110] (fun v _ _ i wx => ∃ k : Nat, k ≤ l.length ∧ i = iv k ∧ Own intE 3 w12.heap.size wx v (Price.idleFrom ((Price.busyOf l Price.allPieces).take k) 0) ∧ Below w12.heap.size w12 wx) (fun _ _ _ i _ => l.length - (intOf i).toNat)
                  case atStart => exact ⟨0, by omega, rfl, Own.nil, Below.refl _ _⟩
                  case round =>
                    obtain ⟨k, hk, rfl, hown, hbw⟩ := hrel
                    have hzx := hbw.size
                    have hz12 := hb5r.size
                    by_cases hlt2 : k < l.length
                    · have hjb : k < (Price.busyOf l Price.allPieces).length := by rw [Price.busyOf_length]; exact hlt2
                      obtain ⟨bv, hbv⟩ : ∃ bv, (Price.busyOf l Price.allPieces)[k]? = some bv := ⟨_, List.getElem?_eq_getElem hjb⟩
                      have hcell : wr.cell? ⟨w9.heap.size, k, none⟩ = some (.bool bv) := by
                        rw [(hBr.under hbw).cell k]
                        simp [hbv]
                      have HT : Hid (Price.idleFrom ((Price.busyOf l Price.allPieces).take (k + 1)) 0 = Price.idleFrom ((Price.busyOf l Price.allPieces).take k) 0 ++ (if bv then [] else [(k : Int)])) := by
                        show _ = _
                        rw [take_at hbv, Price.idleFrom_snoc, List.length_take, Nat.min_eq_left (by omega), Int.zero_add]
                      have hil : (Price.idleFrom ((Price.busyOf l Price.allPieces).take k) 0).length ≤ 8 := by
                        have h1 := Price.idleFrom_length ((Price.busyOf l Price.allPieces).take k) 0
                        rw [List.length_take] at h1; omega
                      have hji : (k : Int) < (l.length : Int) := by omega
                      clear hbv
                      cases bv
                      · simp only [Bool.false_eq_true, if_false] at HT
                        go_wp2_with (at_builtin; refine wpApp1 intE tyInts rfl _ _ rfl hown (k : Int) rfl rfl rfl hzx (by unfold big; omega) ?_; intro v' w4 ho4 hb4 hk4)
                        clear hk4
                        go_roundw
                        case rel => exact ⟨k + 1, by omega, by go_num, by rw [HT.out]; exact ho4, hbw.trans hb4⟩
                        case measure => simp [intOf]; omega
                      · simp only [if_true, List.append_nil] at HT
                        go_wp2_with fail
                        go_roundw
                        case rel => exact ⟨k + 1, by omega, by go_num, by rw [HT.out]; exact hown, hbw⟩
                        case measure => simp [intOf]; omega
                    · rw [List.take_of_length_le (by rw [Price.busyOf_length]; omega)] at hown
                      obtain ⟨w13, rfl⟩ : ∃ w13 : World, w13 = wr := ⟨_, rfl⟩
                      have hb513 := hb5r.next hbw (Nat.le_refl _)
                      have hBa13 := hBa12.under hbw
                      have hBs13 := hBs12.under hbw
                      obtain ⟨x, hx, hfx⟩ := Price.short_some l
                      have HSO : Hid (Price.shortOf l = (x, 0)) := by refine Lib.hid ?_; unfold Price.shortOf; rw [if_pos HC0.out, hx]; rfl
                      have HIO : Hid ((Price.idleOf l).1 = Price.idleFrom (Price.busyOf l Price.allPieces) 0) := by refine Lib.hid ?_; unfold Price.idleOf; rw [if_pos HC0.out]
                      have HSH := Lib.hid (shortest2_spec A3 l c3 w13 HC0.out (HX.out w13 hb513) x hfx)
                      have HOW := Lib.hid (hown.base hz12)
                      clear hown hBr hBa12 hBs12 hbw hx hfx
                      go_wp2_with fail
                      refine HSH.out.mono ?_
                      rintro e w14 ⟨Ax, cx, rfl, hsx, hb14⟩
                      go_wp2_with fail
                      go_meet
                      exact ⟨rfl, rfl, by rw [HIO.out]; exact HOW.out.below hb14, ⟨Ax, cx, by rw [HSO.out], by rw [HSO.out]; exact hsx⟩, hBa13.under hb14, hBs13.under hb14, hb513.next hb14 (Nat.le_refl _)⟩
        · have h0' : (ck == 0) = false := beq_eq_false_iff_ne.2 h0
          have HPV : Hid (Price.differOf l l' = (⟨0, 0, 0⟩, ck) ∧ Price.witnessOf l rule = (⟨0, 0, 0⟩, ck) ∧ Price.idleOf l = ([], ck) ∧ Price.shortOf l = ([], ck)) := by
            refine Lib.hid ?_
            unfold Price.differOf Price.witnessOf Price.idleOf Price.shortOf
            rw [← HCK.out, if_neg h0, if_neg h0, if_neg h0, if_neg h0]
            exact ⟨rfl, rfl, rfl, rfl⟩
          clear h0
          go_wp2_with fail
          go_meet
          obtain ⟨h1, h2, h3, h4⟩ := HPV.out
          rw [h1, h2, h3, h4]
          exact ⟨rfl, rfl, Own.nil, ⟨none, 0, rfl, Sl.nil⟩, hBa, hBs, hb6⟩
      case rest =>
        obtain ⟨rfl, rfl, ho16, ⟨A17, c17, rfl, hs17⟩, hBa7, hBs7, hb57⟩ := hcut
        generalize wc = w7 at *
        obtain ⟨A16, c16, hv16, _, _⟩ := ho16.form
        subst hv16
        have hs16 := ho16.sl
        have hb07 := hb05.next hb57 (Nat.le_refl _)
        have HID : Hid (∀ W, Below w5.heap.size w5 W → Calls Tryz.prog 41 #[.slice A1 l.length c1] W fun e w' => ∃ v, e = .returned (.tuple #[v, iv ck]) ∧ Own intE 3 W.heap.size w' v (Price.idleOf l).1 ∧ Below W.heap.size W w') := fun W h => by
          have := idle_spec A1 l c1 W (by unfold big; omega) hc1 (HD1.out W h)
          rw [show (Price.idleOf l).2 = ck by rw [HCK.out]; unfold Price.idleOf; split <;> simp [*]] at this
          exact this
        have HSH : Hid (∀ W, Below w5.heap.size w5 W → Calls Tryz.prog 7 #[.slice A1 l.length c1] W fun e w' => ∃ A c, e = .returned (.tuple #[.slice A (Price.shortOf l).1.length c, iv ck]) ∧ Sl intE w' A (Price.shortOf l).1 ∧ Below W.heap.size W w') := fun W h => by
          refine (Shortest_spec A1 l c1 W (by unfold big; omega) hc1 (HD1.out W h)).mono ?_
          rintro e w' ⟨A, c, h1, _, _, h2, h3⟩
          rw [show (Price.shortOf l).2 = ck by rw [HCK.out]; unfold Price.shortOf; split <;> simp [*]] at h1
          exact ⟨A, c, h1, h2, h3⟩
        have HDF : Hid (∀ W, Below w5.heap.size w5 W → Calls Tryz.prog 39 #[.slice A1 l.length c1, .slice A2 l'.length c2] W fun e w' => e = .returned (.tuple #[(Price.differOf l l').1.v, iv (Price.differOf l l').2]) ∧ Below W.heap.size W w') := fun W h => Differ_spec A1 l c1 A2 l' c2 W (by unfold big; omega) hc1 (HD1.out W h) (by unfold big; omega) hc2 (HD2.out W h)
        have HWT : Hid (∀ W, Below w5.heap.size w5 W → Calls Tryz.prog 40 #[.slice A1 l.length c1, iv rule] W fun e w' => e = .returned (.tuple #[(Price.witnessOf l rule).1.v, iv (Price.witnessOf l rule).2]) ∧ Below W.heap.size W w') := fun W h => Witness_spec A1 l c1 rule W (by unfold big; omega) hc1 (HD1.out W h) hr
        have hil : (Price.idleOf l).1.length ≤ 12 := by
          unfold Price.idleOf
          split
          · have h1 := Price.idleFrom_length (Price.busyOf l Price.allPieces) 0
            rw [Price.busyOf_length] at h1
            exact Nat.le_trans h1 h12
          · simp
        have hsl : (Price.shortOf l).1.length ≤ 12 := by
          by_cases h0 : Price.check l = 0
          · obtain ⟨x, hx, hfx⟩ := Price.short_some l
            have := Price.rises_len hfx.rises (by omega)
            unfold Price.shortOf
            rw [if_pos h0, hx]
            simp only [Option.getD_some]
            omega
          · unfold Price.shortOf
            rw [if_neg h0]
            simp
        obtain ⟨⟨⟨da, db, dc⟩, de⟩, hdd⟩ : ∃ d, d = Price.differOf l l' := ⟨_, rfl⟩
        obtain ⟨⟨⟨ea, eb, ec⟩, ee⟩, hww⟩ : ∃ d, d = Price.witnessOf l rule := ⟨_, rfl⟩
        obtain ⟨io, hio⟩ : ∃ d, d = (Price.idleOf l).1 := ⟨_, rfl⟩
        obtain ⟨so, hso⟩ : ∃ d, d = (Price.shortOf l).1 := ⟨_, rfl⟩
        rw [← hdd] at HDF hBa7 ⊢
        rw [← hww] at HWT hBs7 ⊢
        rw [← hio] at HID hs16 hil ⊢
        rw [← hso] at HSH hs17 hsl ⊢
        dsimp only at HDF HWT hBa7 hBs7 ⊢
        clear hdd hww hio hso ho16 hb6 hBa hBs
        have h1 := Lib.hid (HDF.out w7 hb57)
        go_wp2_with fail
        refine h1.out.mono ?_
        rintro e w8 ⟨rfl, hb8⟩
        have hB26 : Blk (w8.alloc (.cells #[iv da, iv db, iv dc] 26)) w8.heap.size 26 #[iv da, iv db, iv dc] := Blk.new _ _ _
        have hwa : Below w8.heap.size w8 (w8.alloc (.cells #[iv da, iv db, iv dc] 26)) := (Below.refl _ _).alloc (Nat.le_refl _) _
        go_wp2_with fail
        generalize w8.alloc (.cells #[iv da, iv db, iv dc] 26) = w9 at *
        have hb79 := hb8.next hwa (Nat.le_refl _)
        have h2 := Lib.hid (HWT.out w9 (hb57.next hb79 (Nat.le_refl _)))
        refine h2.out.mono ?_
        rintro e w10 ⟨rfl, hb10⟩
        have hB28 : Blk (w10.alloc (.cells #[iv ea, iv eb, iv ec] 26)) w10.heap.size 26 #[iv ea, iv eb, iv ec] := Blk.new _ _ _
        have hwa2 : Below w10.heap.size w10 (w10.alloc (.cells #[iv ea, iv eb, iv ec] 26)) := (Below.refl _ _).alloc (Nat.le_refl _) _
        have hB26b := hB26.under hb10
        go_wp2_with fail
        generalize w10.alloc (.cells #[iv ea, iv eb, iv ec] 26) = w11 at *
        have hb711 := (hb79.next hb10 (Nat.le_refl _)).next hwa2 (Nat.le_refl _)
        have hB26c := hB26b.under hwa2
        have h3 := Lib.hid (HID.out w11 (hb57.next hb711 (Nat.le_refl _)))
        clear h1 h2 hB26 hB26b hb8 hwa hb79 hb10 hwa2
        refine h3.out.mono ?_
        rintro e w12 ⟨v12, rfl, ho12, hb12⟩
        obtain ⟨A12, c12, rfl, _, _⟩ := ho12.form
        have hs12 := ho12.sl
        have hb712 := hb711.next hb12 (Nat.le_refl _)
        have h4 := Lib.hid (HSH.out w12 (hb57.next hb712 (Nat.le_refl _)))
        clear ho12 h3
        go_wp2_with fail
        refine h4.out.mono ?_
        rintro e w13 ⟨A13, c13, rfl, hs13, hb13⟩
        have hb713 := hb712.next hb13 (Nat.le_refl _)
        have hBx := (hB26c.under hb12).under hb13
        have hBy := (hB28.under hb12).under hb13
        have hBz := hBa7.under hb713
        have hBu := hBs7.under hb713
        have x0 := hBx.cell
        have x1 := hBx.lt
        have y0 := hBy.cell
        have y1 := hBy.lt
        have z0 := hBz.cell
        have z1 := hBz.lt
        have q0 := hBu.cell
        have q1 := hBu.lt
        have e1 : (de == de) = true := by simp
        have e2 : (ee == ee) = true := by simp
        have e3 : (ck == ck) = true := by simp
        have heq1 : ∀ w, (Op.equalIn 10000 26 (.agg #[iv da, iv db, iv dc]) (.agg #[iv da, iv db, iv dc])).run Tryz.prog w = .ok true w := fun w => by have := eqPiece da db dc da db dc w; simpa using this
        have heq2 : ∀ w, (Op.equalIn 10000 26 (.agg #[iv ea, iv eb, iv ec]) (.agg #[iv ea, iv eb, iv ec])).run Tryz.prog w = .ok true w := fun w => by have := eqPiece ea eb ec ea eb ec w; simpa using this
        have f1 := Lib.hid (eqI A12 io c12 A16 io c16 w13 (by unfold big; omega) (hs12.below hb13) (by unfold big; omega) (hs16.below hb713))
        rw [decide_eq_true (rfl : io = io)] at f1
        have HS13 := Lib.hid hs13
        clear h4 hBx hBy hBz hBu hB26c hB28 hs13 hs12 hb12 hb13 hb711 hb712 hBa7 hBs7
        go_wp2_with fail
        refine f1.out.mono ?_
        rintro e w14 ⟨rfl, hb14⟩
        have hb714 := hb713.next hb14 (Nat.le_refl _)
        have f2 := Lib.hid (eqI A13 so c13 A17 so c17 w14 (by unfold big; omega) (HS13.out.below hb14) (by unfold big; omega) (hs17.below hb714))
        rw [decide_eq_true (rfl : so = so)] at f2
        clear x0 x1 y0 y1 z0 z1 q0 q1 e1 e2 e3 heq1 heq2 f1
        go_wp2_with fail
        refine f2.out.mono ?_
        rintro e w15 ⟨rfl, hb15⟩
        have hb515 := hb57.next (hb714.next hb15 (Nat.le_refl _)) (Nat.le_refl _)
        have f3 := Lib.hid (eqR A1 l c1 A l c w15 (by unfold big; omega) (HD1.out w15 hb515) (by unfold big; omega) (HS1.out w15 hb515))
        rw [decide_eq_true (rfl : l = l)] at f3
        clear f2
        go_wp2_with fail
        refine f3.out.mono ?_
        rintro e w16 ⟨rfl, hb16⟩
        have hb516 := hb515.next hb16 (Nat.le_refl _)
        have f4 := Lib.hid (eqR A2 l' c2 A' l' c' w16 (by unfold big; omega) (HD2.out w16 hb516) (by unfold big; omega) (HS2.out w16 hb516))
        rw [decide_eq_true (rfl : l' = l')] at f4
        clear f3
        go_wp2_with fail
        refine f4.out.mono ?_
        rintro e w17 ⟨rfl, hb17⟩
        have hb517 := hb516.next hb17 (Nat.le_refl _)
        have HAW := Lib.hid (awake_spec w17)
        clear f4
        go_wp2_with (go_at_call 14; refine HAW.out.mono ?_; rintro e w18 ⟨rfl, hb18⟩)
        go_ret
        exact ⟨rfl, (hb05.next hb517 (Nat.le_refl _)).next hb18 (Nat.le_refl _)⟩
    · have h12b : (12 : Int) < (l'.length : Int) := by omega
      go_enter Tryz.func10, Tryz.ntmps10
      go_wp2_with (go_at_call 14; refine (awake_spec _).mono ?_; rintro e w11 ⟨rfl, hb11⟩)
      go_ret
      exact ⟨rfl, hb11⟩
  · have h12a : (12 : Int) < (l.length : Int) := by omega
    go_enter Tryz.func10, Tryz.ntmps10
    go_wp2_with (go_at_call 14; refine (awake_spec _).mono ?_; rintro e w11 ⟨rfl, hb11⟩)
    go_ret
    exact ⟨rfl, hb11⟩
end Go.Proofs.YtkailkfiakagfaaGreat
