/- PricePieces returns true. -/
import Derived.Test.YtkailkfiakagfaaGreatRefC
import Derived.Test.YtkailkfiakagfaaGreatPriceV
import Derived.Maps.AppendAt
import Derived.Deep.DeepCutAuto
set_option linter.unusedVariables false
set_option linter.unusedSimpArgs false
namespace Go.Proofs.YtkailkfiakagfaaGreat
open Go.RowKit Go.Shelf
set_option maxRecDepth 100000

/-- wpApp1G, and where the new slice lies. -/
theorem wpApp1At {α : Type} (E : Enc α) {P : Program} {t e : TypeId} (hT : SlTy P t e E.sz) {ops : Array Oper} {rest : List Oper} {o : Oper} {a : Act} {Q : Exit → Act → World → Prop} {w : World} {arr : Array Value}
    (hgd : o.guard = none) (s x : Operand) (ho : o.op = .call { callee := .builtin .append, args := #[s, x], argTypes := #[t, t] })
    {B : Nat} {v : Value} {xs : List α} (hown : Own E e B w v xs) (y : α) (harr : arr.toList = E.cells y) (hs : a.eval s = v) {G : Nat} (hG : G = w.heap.size) (hx : a.eval x = .slice (some ⟨G, 0, none⟩) 1 1)
    (hB : B ≤ w.heap.size) (hn : xs.length + 1 ≤ big)
    (h : ∀ v' w', Own E e B w' v' (xs ++ [y]) → Below B w w' → (∀ b, b < w.heap.size → v.ownBlock ≠ some b → w'.heap[b]? = w.heap[b]?) → (v'.ownBlock = v.ownBlock ∨ v'.ownBlock = some (w.heap.size + 1)) → wpList P ops Q rest (a.put o.dst v') w') :
    wpList P ops Q (o :: rest) a (w.alloc (.cells arr e)) := by
  subst hG
  obtain ⟨i, z, hi, hz, hsz, hby, hzc⟩ := hT.info
  unfold big at hn
  refine wpList_append_own_at (w.alloc (.cells arr e)) hgd s x t ho B e i z E.sz i.bytes hT.ht hi hz hsz rfl hzc E.pos v xs.length (xs.flatMap E.cells) hs (World.ownsRow.alloc hown _)
    ⟨w.heap.size, 0, none⟩ 1 1 (E.cells y) hx (by rw [E.len]; omega) ?_ (E.one y) (by unfold maxLen; omega) (by have := Nat.mul_le_mul hn hby; omega) (by simp; omega) ?_
  · intro j u hu
    rw [Addr.add_lit, Nat.zero_add, cell_of_row _ w.heap.size j arr e (0, 0) (heap_alloc_new w _), ← hu, ← harr, Array.getElem?_toList]
  · intro v' w' hown' hg _ hat
    have hlt := Own.lt hown
    refine h v' w' (by unfold Own; simpa using hown') ?_ (fun b hb hv => ?_) (by simpa using hat)
    · refine (((Below.refl B w).alloc hB _).grown hg (by simp; omega) fun k hk => ?_)
      exact (hlt k hk).1
    · rw [hg.block b (by simp; omega) (fun e => hv e.symm)]
      exact Below.heap_alloc w _ b hb
/-- Two slices lie in different rows. -/
def Apart (v v' : Value) : Prop := ∀ b, v.ownBlock = some b → v'.ownBlock ≠ some b
theorem Apart.symm {v v' : Value} (h : Apart v v') : Apart v' v := fun b h1 h2 => h b h2 h1
namespace Price
theorem allPieces_get {k : Nat} (h : k < 60) : allPieces[k]? = some (pieceAt k) := by
  simp [allPieces, h]
theorem filter_take {f : Piece → Bool} {k : Nat} (h : k < 60) : (allPieces.take (k + 1)).filter f = (allPieces.take k).filter f ++ if f (pieceAt k) then [pieceAt k] else [] := by
  rw [allPieces_take h, List.filter_append]
  congr 1
  simp only [List.filter_cons, List.filter_nil]
end Price
set_option maxHeartbeats 8000000 in
theorem pieces_walk (A : Option Addr) (l : List Rule) (c : Nat) (q : Piece) (w : World) (hm : l.length ≤ maxLen) (hc : l.length ≤ c) (hs : Sl ruleE w A l) :
    Calls Tryz.prog 9 #[.slice A l.length c, q.v] w fun e w' => e = .returned (.bool true) ∧ Below w.heap.size w w' := by
  unfold maxLen at hm
  obtain ⟨qx, qy, qz⟩ := q
  by_cases h12 : l.length ≤ 12
  · have h12' : ¬ (12 : Int) < (l.length : Int) := by omega
    go_enter Tryz.func9, Tryz.ntmps9
    go_wp2_with fail
    have hb0 : Below w.heap.size w (w.alloc (.cells #[iv qx, iv qy, iv qz] 26)) := (Below.refl _ _).alloc (Nat.le_refl _) _
    have hB0 : Blk (w.alloc (.cells #[iv qx, iv qy, iv qz] 26)) w.heap.size 26 #[iv qx, iv qy, iv qz] := Blk.new _ _ _
    generalize w.alloc (.cells #[iv qx, iv qy, iv qz] 26) = w0 at *
    have hs0 := hs.below hb0
    refine (dupR A l c w0 (by unfold big; omega) hs0).mono ?_
    rintro e w1 ⟨v1, rfl, ho1, hb1⟩
    obtain ⟨A1, c1, rfl, hc1, hcm1⟩ := ho1.form
    have hd1 := ho1.sl
    have hs1 := hs0.below hb1
    have hB1 := hB0.under hb1
    have hb01 := hb0.next hb1 (Nat.le_refl _)
    clear ho1 hb1 hs0 hB0 hb0
    go_wp2_with fail
    refine (theirs_spec A l c w1 (by omega) hs1).mono ?_
    rintro e w2 ⟨v2, rfl, ho2, hb2⟩
    obtain ⟨A2, c2, rfl, hc2, hcm2⟩ := ho2.form
    have hx2 := ho2.sl
    have hd2 := hd1.below hb2
    have hs2 := hs1.below hb2
    have hB2 := hB1.under hb2
    have hb02 := hb01.next hb2 (Nat.le_refl _)
    clear ho2 hb2 hs1 hd1 hB1 hb01
    go_wp2_with fail
    refine (check2_spec A2 l c2 w2 (by unfold big; omega) hx2).mono ?_
    rintro e w3 ⟨rfl, hb3⟩
    have hx3 := hx2.below hb3
    have hd3 := hd2.below hb3
    have hs3 := hs2.below hb3
    have hB3 := hB2.under hb3
    have hb03 := hb02.next hb3 (Nat.le_refl _)
    have q0 := hB3.cell 0
    have q1 := hB3.cell 1
    have q2 := hB3.cell 2
    have q3 := hB3.lt
    clear hb3 hx2 hd2 hs2 hB2 hb02
    obtain ⟨ck, hck⟩ : ∃ ck, ck = Price.check l := ⟨_, rfl⟩
    rw [← hck]
    have HCK := Lib.hid hck
    clear hck
    go_upto_if 34 with fail
    go_cut [8, 9, 10, 11] (fun v8 v9 v10 v11 wx => v8 = iv (Price.price l ⟨qx, qy, qz⟩).2 ∧ v9 = iv (Price.price l ⟨qx, qy, qz⟩).1 ∧ Own pieceE 26 w3.heap.size wx v10 (Price.erringOf l 6).1 ∧ Own pieceE 26 w3.heap.size wx v11 (Price.erringOf l 7).1 ∧ Below w3.heap.size w3 wx)
    case first =>
      by_cases h0 : ck = 0
      · have hck0 : Price.check l = 0 := by rw [← HCK.out]; exact h0
        subst h0
        have hage := allowed_ge hck0
        have HAGE := Lib.hid hage
        have HC0 := Lib.hid hck0
        clear hage hck0
        cases hip : Price.isP ⟨qx, qy, qz⟩
        · have HPV : Hid (Price.price l ⟨qx, qy, qz⟩ = (0, 3)) := by refine Lib.hid ?_; unfold Price.price; rw [if_pos HC0.out, hip]; rfl
          go_wp2_with fail
          refine (is2_spec ⟨qx, qy, qz⟩ w3).mono ?_
          rintro e w4 ⟨rfl, hb4⟩
          rw [hip]
          go_wp2_with fail
          refine (pieces2_spec w4).mono ?_
          rintro e w5 ⟨v43, rfl, ho43, hb5⟩
          obtain ⟨A43, c43, hv43, hc43, hcm43⟩ := ho43.form
          rw [Price.allPieces_length] at hv43
          subst hv43
          have hp5 := ho43.sl
          have hx5 := (hx3.below hb4).below hb5
          have hb35 := (hb4).next hb5 (Nat.le_refl _)
          clear ho43 hb5
          go_wp2_with fail
          go_loopw [10, 11, 13, 14, 15, 45] (fun v10 v11 _ _ _ i wr => ∃ (k : Nat), k ≤ 60 ∧ i = iv k ∧ Own pieceE 26 w5.heap.size wr v10 ((Price.allPieces.take k).filter fun p => (Price.priced l p).2 == 6) ∧ Own pieceE 26 w5.heap.size wr v11 ((Price.allPieces.take k).filter fun p => (Price.priced l p).2 == 7) ∧ Apart v10 v11 ∧ Below w5.heap.size w5 wr) (fun _ _ _ _ _ i _ => 60 - (intOf i).toNat)
          case atStart => exact ⟨0, by omega, rfl, Own.nil, Own.nil, fun b h => (by cases h), Below.refl _ _⟩
          case round =>
            obtain ⟨k, hk, rfl, ho10, ho11, hap, hbw⟩ := hrel
            have hzw := hbw.size
            have hz35 := hb35.size
            by_cases hlt : k < 60
            · have hap0 := Price.allPieces_get hlt
              obtain ⟨b, off, p, rfl, hb, hx, hc0, hc1, hc2⟩ := (hp5.below hbw).atP (k := k) (by rw [Price.allPieces_length]; exact hlt)
              rw [hap0] at hx
              injection hx with hx
              subst hx
              have hxw := hx5.below hbw
              have hk60 : (k : Int) < 60 := by omega
              have HF6 := Lib.hid (Price.filter_take (f := fun p => (Price.priced l p).2 == 6) hlt)
              have HF7 := Lib.hid (Price.filter_take (f := fun p => (Price.priced l p).2 == 7) hlt)
              have HL10 := Lib.hid (Nat.le_trans (List.length_filter_le (fun p => (Price.priced l p).2 == 6) (Price.allPieces.take k)) (by rw [List.length_take]; exact Nat.min_le_left _ _ : _ ≤ k))
              have HL11 := Lib.hid (Nat.le_trans (List.length_filter_le (fun p => (Price.priced l p).2 == 7) (Price.allPieces.take k)) (by rw [List.length_take]; exact Nat.min_le_left _ _ : _ ≤ k))
              have HO10 := Lib.hid ho10
              have HO11 := Lib.hid ho11
              have HAP := Lib.hid hap
              clear hap0 ho10 ho11 hap
              have hba : Below wr.heap.size wr (wr.alloc (.cells #[iv (Price.pieceAt k).b, iv (Price.pieceAt k).s, iv (Price.pieceAt k).e] 59)) := (Below.refl _ _).alloc (Nat.le_refl _) _
              have HQ := Lib.hid (price2_spec A2 l c2 (Price.pieceAt k) (wr.alloc (.cells #[iv (Price.pieceAt k).b, iv (Price.pieceAt k).s, iv (Price.pieceAt k).e] 59)) (by unfold big; omega) (hxw.below hba) HAGE.out)
              have hz6 : (wr.alloc (.cells #[iv (Price.pieceAt k).b, iv (Price.pieceAt k).s, iv (Price.pieceAt k).e] 59)).heap.size = wr.heap.size + 1 := by simp
              obtain ⟨pe, hpe⟩ : ∃ pe, pe = (Price.priced l (Price.pieceAt k)).2 := ⟨_, rfl⟩
              have hB6 : Blk (wr.alloc (.cells #[iv (Price.pieceAt k).b, iv (Price.pieceAt k).s, iv (Price.pieceAt k).e] 59)) wr.heap.size 59 #[iv (Price.pieceAt k).b, iv (Price.pieceAt k).s, iv (Price.pieceAt k).e] := Blk.new _ _ _
              rw [← hpe] at HQ HF6 HF7
              clear hpe
              dsimp only [Price.pieceAt] at hc0 hc1 hc2
              go_wp2_with fail
              refine HQ.out.mono ?_
              rintro e w7 ⟨rfl, hb7⟩
              have hb67 := hba.trans (hb7.mono (by omega))
              obtain ⟨g0, g1, g2, g3, g4, g5⟩ := (hB6.under hb7).facts
              have hz7 := hb7.size
              clear hB6 HQ hb7 hba
              by_cases h6 : pe = 6
              · subst h6
                go_wp2_with (first
                  | (at_builtin; refine wpApp1At pieceE tyPieces rfl _ _ rfl (HO10.out.below hb67) (Price.pieceAt k) rfl rfl rfl rfl (by omega) (by have := HL10.out; unfold big; omega) ?_; intro v' w8 hown8 hb8 hk8 hat8))
                have hoth := (HO11.out.below hb67).keep hb8.size fun b hb => hk8 b (((HO11.out.below hb67).lt b hb).2) (fun e => HAP.out b e hb)
                have hapn := show Apart v' _ from fun b h1 h2 => by
                  rcases hat8 with h | h
                  · exact HAP.out b (by rw [← h]; exact h1) h2
                  · rw [h] at h1
                    injection h1 with h1
                    have := (HO11.out.lt b h2).2
                    omega
                have HO8 := Lib.hid hown8
                have HOT := Lib.hid hoth
                have HBW := Lib.hid ((hbw.trans (hb67.mono hzw)).trans hb8)
                clear hb8 hk8 hown8 hoth
                go_roundw
                case rel => exact ⟨k + 1, by omega, by go_num, by rw [HF6.out]; exact HO8.out, by rw [HF7.out]; simpa using HOT.out, hapn, HBW.out⟩
                case measure => simp [intOf]; omega
              · have h6' : (pe == 6) = false := beq_eq_false_iff_ne.2 h6
                by_cases h7 : pe = 7
                · subst h7
                  go_wp2_with (first
                    | (at_builtin; refine wpApp1At pieceE tyPieces rfl _ _ rfl (HO11.out.below hb67) (Price.pieceAt k) rfl rfl rfl rfl (by omega) (by have := HL11.out; unfold big; omega) ?_; intro v' w8 hown8 hb8 hk8 hat8))
                  have hoth := (HO10.out.below hb67).keep hb8.size fun b hb => hk8 b (((HO10.out.below hb67).lt b hb).2) (fun e => HAP.out b hb e)
                  have hapn := show Apart v' _ from fun b h1 h2 => by
                    rcases hat8 with h | h
                    · exact HAP.out b h2 (by rw [← h]; exact h1)
                    · rw [h] at h1
                      injection h1 with h1
                      have := (HO10.out.lt b h2).2
                      omega
                  have HO8 := Lib.hid hown8
                  have HOT := Lib.hid hoth
                  have HBW := Lib.hid ((hbw.trans (hb67.mono hzw)).trans hb8)
                  clear hb8 hk8 hown8 hoth
                  go_roundw
                  case rel => exact ⟨k + 1, by omega, by go_num, by rw [HF6.out]; simpa using HOT.out, by rw [HF7.out]; exact HO8.out, hapn.symm, HBW.out⟩
                  case measure => simp [intOf]; omega
                · have h7' : (pe == 7) = false := beq_eq_false_iff_ne.2 h7
                  have HX6 := Lib.hid (HO10.out.below hb67)
                  have HX7 := Lib.hid (HO11.out.below hb67)
                  have HBW := Lib.hid (hbw.trans (hb67.mono hzw))
                  go_wp2
                  go_roundw
                  case rel => exact ⟨k + 1, by omega, by go_num, by rw [HF6.out]; simpa [h6] using HX6.out, by rw [HF7.out]; simpa [h7] using HX7.out, HAP.out, HBW.out⟩
                  case measure => simp [intOf]; omega
            · rw [List.take_of_length_le (by rw [Price.allPieces_length]; omega)] at ho10 ho11
              go_wp2_with fail
              go_meet
              exact ⟨by rw [HPV.out], by rw [HPV.out], by rw [show (Price.erringOf l 6).1 = Price.allPieces.filter (fun p => (Price.priced l p).2 == 6) from by unfold Price.erringOf; rw [if_pos HC0.out]]; exact ho10.base hz35, by rw [show (Price.erringOf l 7).1 = Price.allPieces.filter (fun p => (Price.priced l p).2 == 7) from by unfold Price.erringOf; rw [if_pos HC0.out]]; exact ho11.base hz35, hb35.trans (hbw.mono hz35)⟩
        · have HPV : Hid (Price.price l ⟨qx, qy, qz⟩ = Price.priced l ⟨qx, qy, qz⟩) := by refine Lib.hid ?_; unfold Price.price; rw [if_pos HC0.out, hip]; rfl
          go_wp2_with fail
          refine (is2_spec ⟨qx, qy, qz⟩ w3).mono ?_
          rintro e w4 ⟨rfl, hb4⟩
          rw [hip]
          obtain ⟨u0, u1, u2, u3, u4, u5⟩ := (hB3.under hb4).facts
          go_wp2_with fail
          refine (price2_spec A2 l c2 ⟨qx, qy, qz⟩ w4 (by unfold big; omega) (hx3.below hb4) HAGE.out).mono ?_
          rintro e w4b ⟨rfl, hb4b⟩
          go_wp2_with fail
          refine (pieces2_spec w4b).mono ?_
          rintro e w5 ⟨v43, rfl, ho43, hb5⟩
          obtain ⟨A43, c43, hv43, hc43, hcm43⟩ := ho43.form
          rw [Price.allPieces_length] at hv43
          subst hv43
          have hp5 := ho43.sl
          have hx5 := ((hx3.below hb4).below hb4b).below hb5
          have hb35 := (hb4.next hb4b (Nat.le_refl _)).next hb5 (Nat.le_refl _)
          clear ho43 hb5
          go_wp2_with fail
          go_loopw [10, 11, 13, 14, 15, 45] (fun v10 v11 _ _ _ i wr => ∃ (k : Nat), k ≤ 60 ∧ i = iv k ∧ Own pieceE 26 w5.heap.size wr v10 ((Price.allPieces.take k).filter fun p => (Price.priced l p).2 == 6) ∧ Own pieceE 26 w5.heap.size wr v11 ((Price.allPieces.take k).filter fun p => (Price.priced l p).2 == 7) ∧ Apart v10 v11 ∧ Below w5.heap.size w5 wr) (fun _ _ _ _ _ i _ => 60 - (intOf i).toNat)
          case atStart => exact ⟨0, by omega, rfl, Own.nil, Own.nil, fun b h => (by cases h), Below.refl _ _⟩
          case round =>
            obtain ⟨k, hk, rfl, ho10, ho11, hap, hbw⟩ := hrel
            have hzw := hbw.size
            have hz35 := hb35.size
            by_cases hlt : k < 60
            · have hap0 := Price.allPieces_get hlt
              obtain ⟨b, off, p, rfl, hb, hx, hc0, hc1, hc2⟩ := (hp5.below hbw).atP (k := k) (by rw [Price.allPieces_length]; exact hlt)
              rw [hap0] at hx
              injection hx with hx
              subst hx
              have hxw := hx5.below hbw
              have hk60 : (k : Int) < 60 := by omega
              have HF6 := Lib.hid (Price.filter_take (f := fun p => (Price.priced l p).2 == 6) hlt)
              have HF7 := Lib.hid (Price.filter_take (f := fun p => (Price.priced l p).2 == 7) hlt)
              have HL10 := Lib.hid (Nat.le_trans (List.length_filter_le (fun p => (Price.priced l p).2 == 6) (Price.allPieces.take k)) (by rw [List.length_take]; exact Nat.min_le_left _ _ : _ ≤ k))
              have HL11 := Lib.hid (Nat.le_trans (List.length_filter_le (fun p => (Price.priced l p).2 == 7) (Price.allPieces.take k)) (by rw [List.length_take]; exact Nat.min_le_left _ _ : _ ≤ k))
              have HO10 := Lib.hid ho10
              have HO11 := Lib.hid ho11
              have HAP := Lib.hid hap
              clear hap0 ho10 ho11 hap
              have hba : Below wr.heap.size wr (wr.alloc (.cells #[iv (Price.pieceAt k).b, iv (Price.pieceAt k).s, iv (Price.pieceAt k).e] 59)) := (Below.refl _ _).alloc (Nat.le_refl _) _
              have HQ := Lib.hid (price2_spec A2 l c2 (Price.pieceAt k) (wr.alloc (.cells #[iv (Price.pieceAt k).b, iv (Price.pieceAt k).s, iv (Price.pieceAt k).e] 59)) (by unfold big; omega) (hxw.below hba) HAGE.out)
              have hz6 : (wr.alloc (.cells #[iv (Price.pieceAt k).b, iv (Price.pieceAt k).s, iv (Price.pieceAt k).e] 59)).heap.size = wr.heap.size + 1 := by simp
              obtain ⟨pe, hpe⟩ : ∃ pe, pe = (Price.priced l (Price.pieceAt k)).2 := ⟨_, rfl⟩
              have hB6 : Blk (wr.alloc (.cells #[iv (Price.pieceAt k).b, iv (Price.pieceAt k).s, iv (Price.pieceAt k).e] 59)) wr.heap.size 59 #[iv (Price.pieceAt k).b, iv (Price.pieceAt k).s, iv (Price.pieceAt k).e] := Blk.new _ _ _
              rw [← hpe] at HQ HF6 HF7
              clear hpe
              dsimp only [Price.pieceAt] at hc0 hc1 hc2
              go_wp2_with fail
              refine HQ.out.mono ?_
              rintro e w7 ⟨rfl, hb7⟩
              have hb67 := hba.trans (hb7.mono (by omega))
              obtain ⟨g0, g1, g2, g3, g4, g5⟩ := (hB6.under hb7).facts
              have hz7 := hb7.size
              clear hB6 HQ hb7 hba
              by_cases h6 : pe = 6
              · subst h6
                go_wp2_with (first
                  | (at_builtin; refine wpApp1At pieceE tyPieces rfl _ _ rfl (HO10.out.below hb67) (Price.pieceAt k) rfl rfl rfl rfl (by omega) (by have := HL10.out; unfold big; omega) ?_; intro v' w8 hown8 hb8 hk8 hat8))
                have hoth := (HO11.out.below hb67).keep hb8.size fun b hb => hk8 b (((HO11.out.below hb67).lt b hb).2) (fun e => HAP.out b e hb)
                have hapn := show Apart v' _ from fun b h1 h2 => by
                  rcases hat8 with h | h
                  · exact HAP.out b (by rw [← h]; exact h1) h2
                  · rw [h] at h1
                    injection h1 with h1
                    have := (HO11.out.lt b h2).2
                    omega
                have HO8 := Lib.hid hown8
                have HOT := Lib.hid hoth
                have HBW := Lib.hid ((hbw.trans (hb67.mono hzw)).trans hb8)
                clear hb8 hk8 hown8 hoth
                go_roundw
                case rel => exact ⟨k + 1, by omega, by go_num, by rw [HF6.out]; exact HO8.out, by rw [HF7.out]; simpa using HOT.out, hapn, HBW.out⟩
                case measure => simp [intOf]; omega
              · have h6' : (pe == 6) = false := beq_eq_false_iff_ne.2 h6
                by_cases h7 : pe = 7
                · subst h7
                  go_wp2_with (first
                    | (at_builtin; refine wpApp1At pieceE tyPieces rfl _ _ rfl (HO11.out.below hb67) (Price.pieceAt k) rfl rfl rfl rfl (by omega) (by have := HL11.out; unfold big; omega) ?_; intro v' w8 hown8 hb8 hk8 hat8))
                  have hoth := (HO10.out.below hb67).keep hb8.size fun b hb => hk8 b (((HO10.out.below hb67).lt b hb).2) (fun e => HAP.out b hb e)
                  have hapn := show Apart v' _ from fun b h1 h2 => by
                    rcases hat8 with h | h
                    · exact HAP.out b h2 (by rw [← h]; exact h1)
                    · rw [h] at h1
                      injection h1 with h1
                      have := (HO10.out.lt b h2).2
                      omega
                  have HO8 := Lib.hid hown8
                  have HOT := Lib.hid hoth
                  have HBW := Lib.hid ((hbw.trans (hb67.mono hzw)).trans hb8)
                  clear hb8 hk8 hown8 hoth
                  go_roundw
                  case rel => exact ⟨k + 1, by omega, by go_num, by rw [HF6.out]; simpa using HOT.out, by rw [HF7.out]; exact HO8.out, hapn.symm, HBW.out⟩
                  case measure => simp [intOf]; omega
                · have h7' : (pe == 7) = false := beq_eq_false_iff_ne.2 h7
                  have HX6 := Lib.hid (HO10.out.below hb67)
                  have HX7 := Lib.hid (HO11.out.below hb67)
                  have HBW := Lib.hid (hbw.trans (hb67.mono hzw))
                  go_wp2
                  go_roundw
                  case rel => exact ⟨k + 1, by omega, by go_num, by rw [HF6.out]; simpa [h6] using HX6.out, by rw [HF7.out]; simpa [h7] using HX7.out, HAP.out, HBW.out⟩
                  case measure => simp [intOf]; omega
            · rw [List.take_of_length_le (by rw [Price.allPieces_length]; omega)] at ho10 ho11
              go_wp2_with fail
              go_meet
              exact ⟨by rw [HPV.out], by rw [HPV.out], by rw [show (Price.erringOf l 6).1 = Price.allPieces.filter (fun p => (Price.priced l p).2 == 6) from by unfold Price.erringOf; rw [if_pos HC0.out]]; exact ho10.base hz35, by rw [show (Price.erringOf l 7).1 = Price.allPieces.filter (fun p => (Price.priced l p).2 == 7) from by unfold Price.erringOf; rw [if_pos HC0.out]]; exact ho11.base hz35, hb35.trans (hbw.mono hz35)⟩
      · have hck0 : Price.check l = ck := by rw [← HCK.out]
        have h0' : (ck == 0) = false := beq_eq_false_iff_ne.2 h0
        have HPV : Hid (Price.price l ⟨qx, qy, qz⟩ = (0, ck)) := by refine Lib.hid ?_; unfold Price.price; rw [hck0, if_neg h0]
        have HE6 : Hid ((Price.erringOf l 6).1 = [] ∧ (Price.erringOf l 7).1 = []) := by refine Lib.hid ?_; unfold Price.erringOf; rw [hck0, if_neg h0, if_neg h0]; exact ⟨rfl, rfl⟩
        clear hck0
        go_wp2_with fail
        go_meet
        exact ⟨by rw [HPV.out], by rw [HPV.out], by rw [HE6.out.1]; exact Own.nil, by rw [HE6.out.2]; exact Own.nil, Below.refl _ _⟩
    case rest =>
      obtain ⟨rfl, rfl, ho10, ho11, hb4⟩ := hcut
      obtain ⟨A10, c10, rfl, _, _⟩ := ho10.form
      obtain ⟨A11, c11, rfl, _, _⟩ := ho11.form
      have hs10 := ho10.sl
      have hs11 := ho11.sl
      have hd4 := hd3.below hb4
      have hs4 := hs3.below hb4
      have hB4 := hB3.under hb4
      have hb04 := hb03.next hb4 (Nat.le_refl _)
      have p0 := hB4.cell 0
      have p1 := hB4.cell 1
      have p2 := hB4.cell 2
      have p3 := hB4.lt
      have HERR : Hid ((Price.erringOf l 6).2 = ck ∧ (Price.erringOf l 7).2 = ck) := by
        rw [HCK.out]
        unfold Price.erringOf
        constructor <;> split <;> simp [*]
      have hlen6 : (Price.erringOf l 6).1.length ≤ 60 := by
        unfold Price.erringOf
        split
        · exact Nat.le_trans (List.length_filter_le _ _) (by rw [Price.allPieces_length]; omega)
        · simp
      have hlen7 : (Price.erringOf l 7).1.length ≤ 60 := by
        unfold Price.erringOf
        split
        · exact Nat.le_trans (List.length_filter_le _ _) (by rw [Price.allPieces_length]; omega)
        · simp
      generalize hE6 : (Price.erringOf l 6).1 = E6 at *
      generalize hE7 : (Price.erringOf l 7).1 = E7 at *
      have HE6 := Lib.hid hE6
      have HE7 := Lib.hid hE7
      clear hE6 hE7 ho10 ho11 hb4 hd3 hs3 hB3 hb03 q0 q1 q2 q3
      have HP := Lib.hid (price_spec A1 l c1 ⟨qx, qy, qz⟩ wc (by unfold big; omega) hc1 hd4)
      generalize hpp : (Price.price l ⟨qx, qy, qz⟩).1 = pp at *
      generalize hpe : (Price.price l ⟨qx, qy, qz⟩).2 = pe at *
      clear hpp hpe
      go_wp2_with fail
      refine HP.out.mono ?_
      rintro e w5 ⟨rfl, hb5⟩
      have HO := Lib.hid (Open_spec A1 l c1 w5 (by unfold big; omega) hc1 (hd4.below hb5))
      rw [HE6.out, HERR.out.1] at HO
      go_wp2_with fail
      refine HO.out.mono ?_
      rintro e w6 ⟨v6, rfl, ho6, hb6⟩
      obtain ⟨A6, c6, rfl, _, _⟩ := ho6.form
      have hs6 := ho6.sl
      have hb56 := hb5.next hb6 (Nat.le_refl _)
      have HT := Lib.hid (Torn_spec A1 l c1 w6 (by unfold big; omega) hc1 (hd4.below hb56))
      rw [HE7.out, HERR.out.2] at HT
      clear ho6
      go_wp2_with fail
      refine HT.out.mono ?_
      rintro e w7 ⟨v7, rfl, ho7, hb7⟩
      obtain ⟨A7, c7, rfl, _, _⟩ := ho7.form
      have hs7 := ho7.sl
      have hb57 := hb56.next hb7 (Nat.le_refl _)
      have hs67 := hs6.below hb7
      have e1 := Lib.hid (eqP A6 E6 c6 A10 E6 c10 w7 (by unfold big; omega) hs67 (by unfold big; omega) (hs10.below hb57))
      rw [decide_eq_true (rfl : E6 = E6)] at e1
      clear ho7 HT HO HP
      go_wp2_with fail
      refine e1.out.mono ?_
      rintro e w8 ⟨rfl, hb8⟩
      have hb58 := hb57.next hb8 (Nat.le_refl _)
      have e2 := Lib.hid (eqP A7 E7 c7 A11 E7 c11 w8 (by unfold big; omega) (hs7.below hb8) (by unfold big; omega) (hs11.below hb58))
      rw [decide_eq_true (rfl : E7 = E7)] at e2
      go_wp2_with fail
      refine e2.out.mono ?_
      rintro e w9 ⟨rfl, hb9⟩
      have hb59 := hb58.next hb9 (Nat.le_refl _)
      have e3 := Lib.hid (eqR A1 l c1 A l c w9 (by unfold big; omega) (hd4.below hb59) (by unfold big; omega) (hs4.below hb59))
      rw [decide_eq_true (rfl : l = l)] at e3
      go_wp2_with fail
      refine e3.out.mono ?_
      rintro e w10 ⟨rfl, hb10⟩
      have hb510 := hb59.next hb10 (Nat.le_refl _)
      have HAW := Lib.hid (awake_spec w10)
      go_wp2_with (go_at_call 14; refine HAW.out.mono ?_; rintro e w11 ⟨rfl, hb11⟩)
      go_ret
      exact ⟨rfl, (hb04.next hb510 (Nat.le_refl _)).next hb11 (Nat.le_refl _)⟩
  · have h12' : (12 : Int) < (l.length : Int) := by omega
    go_enter Tryz.func9, Tryz.ntmps9
    go_wp2_with (go_at_call 14; refine (awake_spec _).mono ?_; rintro e w11 ⟨rfl, hb11⟩)
    go_ret
    exact ⟨rfl, hb11.of_alloc⟩
end Go.Proofs.YtkailkfiakagfaaGreat
