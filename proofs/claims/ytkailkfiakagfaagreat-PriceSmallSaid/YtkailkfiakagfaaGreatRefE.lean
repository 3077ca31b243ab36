/- The reference's errors of a sale and a stock, and the stock's prices; a sale and pieces as the reference's. Conditions: lengths are below a great bound. -/
import Derived.Test.YtkailkfiakagfaaGreatRefC
import Derived.Test.YtkailkfiakagfaaGreatPriceJ
set_option linter.unusedVariables false
set_option linter.unusedSimpArgs false
namespace Go.Proofs.YtkailkfiakagfaaGreat
open Go.RowKit
set_option maxRecDepth 100000
theorem Own.emptyG {α : Type} {E : Enc α} {e : TypeId} {B G : Nat} {w : World} (hG : G = w.heap.size) (hB : B ≤ w.heap.size) : Own E e B (w.alloc (.cells #[] e)) (.slice (some ⟨G, 0, none⟩) 0 0) ([] : List α) := by
  subst hG; exact Own.empty hB
theorem sold_at (fall : Int) (A : Option Addr) (n c : Nat) (w : World) :
    Calls Tryz.prog 45 #[saleV fall A n c] w fun e w' => e = .returned (saleV fall A n c) ∧ Below w.heap.size w w' := by
  go_enter Tryz.func45, Tryz.ntmps45
  go_wp2
  exact bodyPost_ret (v := saleV fall A n c) (by simp [results, Tryz.results45, go_sem]) rfl ⟨rfl, (by first | exact (((Below.refl _ _).alloc (Nat.le_refl _) _).alloc (by simp) _) | exact ((((Below.refl _ _).alloc (Nat.le_refl _) _).alloc (by simp) _).setCell (by simp) _))⟩
theorem pieces3_spec (A : Option Addr) (l : List Piece) (c : Nat) (w : World) (hm : l.length ≤ 1000000) (hs : Sl pieceE w A l) :
    Calls Tryz.prog 46 #[.slice A l.length c] w fun e w' => ∃ v, e = .returned v ∧ Own pieceE 59 w.heap.size w' v l ∧ Below w.heap.size w w' := by
  go_enter Tryz.func46, Tryz.ntmps46
  go_wp2
  go_loopw [3, 5, 8] (fun v _ i wr => ∃ (k : Nat), k ≤ l.length ∧ i = iv k ∧ Own pieceE 59 w.heap.size wr v (l.take k) ∧ Below w.heap.size w wr) (fun _ _ i _ => l.length - (intOf i).toNat)
  case atStart => exact ⟨0, by omega, rfl, Own.nil, Below.refl _ _⟩
  case round =>
    obtain ⟨k, hk, rfl, hown, hbw⟩ := hrel
    have hzr := hbw.size
    by_cases hlt : k < l.length
    · obtain ⟨b, off, r, rfl, hb, hx, hc0, hc1, hc2⟩ := (hs.below hbw).atP hlt
      have hta := take_at hx
      obtain ⟨ra, rb, rc⟩ := r
      dsimp only at hc0 hc1 hc2
      have HTA := Lib.hid hta
      have hown' := hown.below ((Below.refl _ wr).alloc (Nat.le_refl _) (.cells #[iv ra, iv rb, iv rc] 26))
      have hlt' : (l.take k).length = k := by rw [List.length_take]; omega
      have HLT := Lib.hid hlt'
      clear hta hx hown hlt' hs
      go_wp2_with (first
        | (at_builtin; refine wpApp1G pieceE tyPieces2 rfl _ _ rfl hown' ⟨ra, rb, rc⟩ rfl rfl (G := wr.heap.size + 1) (by simp) rfl (by simp; omega) (by rw [HLT.out]; unfold big; omega) ?_; intro v' w5 hown5 hb5 _))
      go_roundw
      case rel => exact ⟨k + 1, by omega, by go_num, by rw [HTA.out]; exact hown5, (hbw.alloc hzr _).trans hb5⟩
      case measure => simp [intOf]; omega
    · rw [List.take_of_length_le (by omega)] at hown
      go_wp2
      go_ret
      exact ⟨_, rfl, hown, hbw⟩
set_option maxHeartbeats 4000000 in
theorem checkSale2_spec (fall : Int) (A : Option Addr) (l : List Int) (c : Nat) (w : World) (hm : l.length ≤ big) (hs : Sl intE w A l) :
    Calls Tryz.prog 54 #[saleV fall A l.length c] w fun e w' => e = .returned (iv (Price.checkSale fall l)) ∧ Below w.heap.size w w' := by
  unfold big at hm
  cases h1 : Price.inB l.length 1 8
  · go_enter Tryz.func54, Tryz.ntmps54
    go_wp2_with (go_at_call 67; refine (off_spec _ _ _ _).mono ?_; rintro e w' ⟨rfl, rfl⟩; rw [h1])
    go_ret
    exact ⟨ret_eq (by simp [Price.checkSale, h1]), (Below.refl _ _).alloc (Nat.le_refl _) _⟩
  · cases h2 : Price.inB fall 0 30
    · go_enter Tryz.func54, Tryz.ntmps54
      go_wp2_with (go_at_call 67; refine (off_spec _ _ _ _).mono ?_; rintro e w' ⟨rfl, rfl⟩; first | rw [h1] | rw [h2])
      go_ret
      exact ⟨ret_eq (by simp [Price.checkSale, h1, h2]), (Below.refl _ _).alloc (Nat.le_refl _) _⟩
    · have hck : Price.checkSale fall l = if l.all (Price.inB · 0 9) then 0 else 3 := by simp [Price.checkSale, h1, h2]
      have HCK := Lib.hid hck
      clear hck
      go_enter Tryz.func54, Tryz.ntmps54
      go_wp2_with (go_at_call 67; refine (off_spec _ _ _ _).mono ?_; rintro e w' ⟨rfl, rfl⟩; first | rw [h1] | rw [h2])
      have hb1 : Below w.heap.size w (w.alloc (.cells #[iv fall, .slice A l.length c] 87)) := (Below.refl _ _).alloc (Nat.le_refl _) _
      have hs1 := hs.below hb1
      go_loopw [3] (fun i wr => ∃ k : Nat, k ≤ l.length ∧ i = iv k ∧ Hid ((l.drop k).all (Price.inB · 0 9) = l.all (Price.inB · 0 9)) ∧ w.alloc (.cells #[iv fall, .slice A l.length c] 87) = wr) (fun i _ => l.length - (intOf i).toNat)
      case atStart => exact ⟨0, by omega, rfl, rfl, rfl⟩
      case round =>
        obtain ⟨k, hk, rfl, hf, rfl⟩ := hrel
        by_cases hlt : k < l.length
        · obtain ⟨b, off, x, rfl, hb, hx, hc⟩ := hs1.atI hlt
          have hf' := hf.out
          rw [drop_at hx, List.all_cons] at hf'
          have HF := Lib.hid hf'
          have hkl : (k : Int) < (l.length : Int) := by omega
          clear hf hf' hx
          cases hin : Price.inB x 0 9
          · rw [hin, Bool.false_and] at HF
            go_wp2_with (go_at_call 67; refine (off_spec _ _ _ _).mono ?_; rintro e w' ⟨rfl, rfl⟩; rw [hin])
            go_ret
            exact ⟨ret_eq (by rw [HCK.out, ← HF.out]; rfl), hb1⟩
          · rw [hin, Bool.true_and] at HF
            go_wp2_with (go_at_call 67; refine (off_spec _ _ _ _).mono ?_; rintro e w' ⟨rfl, rfl⟩; rw [hin])
            go_roundw
            case rel => exact ⟨k + 1, by omega, by go_num, HF, by first | rfl | trivial⟩
            case measure => simp [intOf]; omega
        · have hf' := hf.out
          rw [drop_end hlt] at hf'
          have HF := Lib.hid hf'
          clear hf hf'
          go_wp2
          go_ret
          exact ⟨ret_eq (by rw [HCK.out, ← HF.out]; rfl), hb1⟩
namespace Price
/-- The prices of a stock, or no prices and the error of a list, a sale and a stock. -/
def stockedOf (l : List Rule) (fall : Int) (bought : List Int) (stock : List Piece) : List Int × Int :=
  if openErr l fall bought stock = 0 then ((stocked l stock).1, 0) else ([], openErr l fall bought stock)
theorem stocked_drop {l : List Rule} {stock : List Piece} {k : Nat} {p : Piece} (h : stock[k]? = some p) : stocked l (stock.drop k) = if isP p then (if (priced l p).2 = 0 then ((priced l p).1 :: (stocked l (stock.drop (k + 1))).1, (stocked l (stock.drop (k + 1))).2) else ([], (priced l p).2)) else ([], 3) := by
  rw [drop_at h]; rfl
end Price
set_option maxHeartbeats 4000000 in
theorem stocked2_spec (A : Option Addr) (l : List Rule) (c : Nat) (fall : Int) (Ab : Option Addr) (bought : List Int) (cb : Nat) (As : Option Addr) (stock : List Piece) (cs : Nat) (w : World) (hm : l.length ≤ big) (hs : Sl ruleE w A l) (hmb : bought.length ≤ big) (hsb : Sl intE w Ab bought) (hms : stock.length ≤ big) (hss : Sl pieceE w As stock) :
    Calls Tryz.prog 44 #[.slice A l.length c, saleV fall Ab bought.length cb, .slice As stock.length cs] w fun e w' => ∃ v, e = .returned (.tuple #[v, iv (Price.stockedOf l fall bought stock).2]) ∧ Own intE 3 w.heap.size w' v (Price.stockedOf l fall bought stock).1 ∧ Below w.heap.size w w' := by
  have hb1 : Below w.heap.size w (w.alloc (.cells #[iv fall, .slice Ab bought.length cb] 87)) := (Below.refl _ _).alloc (Nat.le_refl _) _
  have hB1 : Blk (w.alloc (.cells #[iv fall, .slice Ab bought.length cb] 87)) w.heap.size 87 #[iv fall, .slice Ab bought.length cb] := Blk.new _ _ _
  have HC := Lib.hid (check2_spec A l c _ hm (hs.below hb1))
  have HS : Hid (∀ W, Below w.heap.size w W → Calls Tryz.prog 54 #[saleV fall Ab bought.length cb] W fun e w' => e = .returned (iv (Price.checkSale fall bought)) ∧ Below W.heap.size W w') := fun W h => checkSale2_spec fall Ab bought cb W hmb (hsb.below h)
  by_cases h0 : Price.check l = 0
  · rw [h0] at HC
    by_cases h1 : Price.checkSale fall bought = 0
    · rw [h1] at HS
      have hal := allowed_ge h0
      have HAL := Lib.hid hal
      clear hal
      by_cases h2 : stock.length ≤ 10
      · have hop : Price.openErr l fall bought stock = (Price.stocked l stock).2 := by unfold Price.openErr; rw [if_pos h0, if_pos h1, if_pos h2]
        have HOP := Lib.hid hop
        have HH := Lib.hid h0
        clear hop h0 h1
        go_enter Tryz.func44, Tryz.ntmps44
        go_wp2_with fail
        refine HC.out.mono ?_
        rintro e w2 ⟨rfl, hb2⟩
        have hB2 := hB1.under hb2
        have f0 := hB2.cell 0
        have f1 := hB2.cell 1
        have f2 := hB2.lt
        have hb02 := hb1.next hb2 (Nat.le_refl _)
        have HS2 := Lib.hid (HS.out w2 hb02)
        go_wp2_with fail
        refine HS2.out.mono ?_
        rintro e w3 ⟨rfl, hb3⟩
        have hb03 := hb02.next hb3 (Nat.le_refl _)
        have h10 : ¬ (10 : Int) < (stock.length : Int) := by omega
        clear f0 f1 f2 hB1 hB2 HS HS2 HC hb1 hb2 hb3 hb02
        have hz3 := hb03.size
        go_wp2_with fail
        go_loopw [10, 11, 12, 13] (fun v i _ _ wr => ∃ (k : Nat) (acc : List Int), k ≤ stock.length ∧ i = iv k ∧ acc.length = k ∧ Own intE 3 w3.heap.size wr v acc ∧ Hid (Price.stocked l stock = (acc ++ (Price.stocked l (stock.drop k)).1, (Price.stocked l (stock.drop k)).2)) ∧ Below w3.heap.size w3 wr) (fun _ i _ _ _ => stock.length - (intOf i).toNat)
        case atStart => exact ⟨0, [], by omega, rfl, rfl, Own.nil, rfl, Below.refl _ _⟩
        case round =>
          obtain ⟨k, acc, hk, rfl, hacc, hown, hf, hbw⟩ := hrel
          have hzr := hbw.size
          have hb0r := hb03.next hbw (Nat.le_refl _)
          by_cases hlt : k < stock.length
          · obtain ⟨b, off, p, rfl, hb, hp, hc0, hc1, hc2⟩ := (hss.below hb0r).atP hlt
            have hf' := hf.out
            rw [Price.stocked_drop hp] at hf'
            have HF := Lib.hid hf'
            have HI := Lib.hid (is2_spec p wr)
            have HP : Hid (∀ W, Below wr.heap.size wr W → Calls Tryz.prog 30 #[.slice A l.length c, p.v] W fun e w' => e = .returned (.tuple #[iv (Price.priced l p).1, iv (Price.priced l p).2]) ∧ Below W.heap.size W w') := fun W h => price2_spec A l c p W hm ((hs.below hb0r).below h) HAL.out
            have HACC := Lib.hid hacc
            have hacc10 : acc.length ≤ 10 := by omega
            have hkl : (k : Int) < (stock.length : Int) := by omega
            obtain ⟨pa, pb, pc⟩ := p
            dsimp only at hc0 hc1 hc2
            clear hf hf' hp hacc
            cases hip : Price.isP ⟨pa, pb, pc⟩
            · rw [hip] at HF HI
              have H3 : Hid (Price.stockedOf l fall bought stock = ([], 3)) := by
                have h := HF.out
                have h3 : Price.openErr l fall bought stock = 3 := by rw [HOP.out, h]; rfl
                show _ = _
                unfold Price.stockedOf; rw [h3]; rfl
              clear HF
              go_wp2_with (go_at_call 22; refine HI.out.mono ?_; rintro e w4 ⟨rfl, hb4⟩)
              go_ret2
              exact ⟨_, (by rw [H3.out]; rfl), by rw [H3.out]; exact Own.nil, hb0r.next hb4 (Nat.le_refl _)⟩
            · rw [hip] at HF HI
              by_cases hpe : (Price.priced l ⟨pa, pb, pc⟩).2 = 0
              · have hf' := HF.out
                simp only [if_true, hpe] at hf'
                have HF2 := Lib.hid hf'
                rw [hpe] at HP
                obtain ⟨pr, hpr⟩ : ∃ pr, pr = (Price.priced l ⟨pa, pb, pc⟩).1 := ⟨_, rfl⟩
                rw [← hpr] at HP HF2
                clear HF hf' hpe hpr hip
                go_wp2_with (first
                  | (go_at_call 22; refine HI.out.mono ?_; rintro e w4 ⟨rfl, hb4⟩; have g0 := (hb4.cell (p := ⟨b, off + k * 3, none⟩) hb).trans hc0; have g1 := (hb4.cell (p := ⟨b, off + k * 3 + 1, none⟩) hb).trans hc1; have g2 := (hb4.cell (p := ⟨b, off + k * 3 + 2, none⟩) hb).trans hc2)
                  | (go_at_call 30; refine (HP.out _ hb4).mono ?_; rintro e w5 ⟨rfl, hb5⟩; have hbb := hb4.next hb5 (Nat.le_refl _); have hown5 := hown.below hbb; clear hb4 hb5 g0 g1 g2)
                  | (at_builtin; refine wpApp1 intE tyInts rfl _ _ rfl hown5 pr rfl rfl rfl (Nat.le_trans hzr hbb.size) (by unfold big; omega) ?_; intro v' w6 hown6 hb6 hk6))
                clear hk6
                go_roundw
                case rel => exact ⟨k + 1, acc ++ [pr], by omega, by go_num, by have := HACC.out; simp; omega, hown6, by (have h := HF2.out; show _ = _; rw [h]; simp), (hbw.next hbb (Nat.le_refl _)).trans hb6⟩
                case measure => simp [intOf]; omega
              · have hf' := HF.out
                simp only [if_true, if_neg hpe] at hf'
                have H3 : Hid (Price.stockedOf l fall bought stock = ([], (Price.priced l ⟨pa, pb, pc⟩).2)) := by
                  have h3 : Price.openErr l fall bought stock = (Price.priced l ⟨pa, pb, pc⟩).2 := by rw [HOP.out, hf']
                  show _ = _
                  unfold Price.stockedOf; rw [if_neg (by rw [h3]; exact hpe), h3]
                obtain ⟨er, her⟩ : ∃ er, er = (Price.priced l ⟨pa, pb, pc⟩).2 := ⟨_, rfl⟩
                rw [← her] at HP H3 hpe
                have hpe' : (er != 0) = true := bne_iff_ne.2 hpe
                clear HF hf' her hip hpe
                go_wp2_with (first
                  | (go_at_call 22; refine HI.out.mono ?_; rintro e w4 ⟨rfl, hb4⟩; have g0 := (hb4.cell (p := ⟨b, off + k * 3, none⟩) hb).trans hc0; have g1 := (hb4.cell (p := ⟨b, off + k * 3 + 1, none⟩) hb).trans hc1; have g2 := (hb4.cell (p := ⟨b, off + k * 3 + 2, none⟩) hb).trans hc2)
                  | (go_at_call 30; refine (HP.out _ hb4).mono ?_; rintro e w5 ⟨rfl, hb5⟩))
                go_ret2
                exact ⟨_, (by rw [H3.out]; rfl), by rw [H3.out]; exact Own.nil, (hb0r.next hb4 (Nat.le_refl _)).next hb5 (Nat.le_refl _)⟩
          · have hf' := hf.out
            rw [drop_end hlt] at hf'
            simp only [Price.stocked, List.append_nil] at hf'
            have H3 : Hid (Price.stockedOf l fall bought stock = (acc, 0)) := by
              have h3 : Price.openErr l fall bought stock = 0 := by rw [HOP.out, hf']
              show _ = _
              unfold Price.stockedOf; rw [if_pos h3, hf']
            clear hf hf' hacc
            go_wp2
            go_ret2
            exact ⟨_, (by rw [H3.out]; rfl), by rw [H3.out]; exact hown.base hz3, hb0r⟩
      · have hop : Price.openErr l fall bought stock = 2 := by unfold Price.openErr; rw [if_pos h0, if_pos h1, if_neg h2]
        have H3 : Hid (Price.stockedOf l fall bought stock = ([], 2)) := by
          show _ = _
          unfold Price.stockedOf; rw [hop]; rfl
        have h10 : (10 : Int) < (stock.length : Int) := by omega
        clear hop h0 h1
        go_enter Tryz.func44, Tryz.ntmps44
        go_wp2_with fail
        refine HC.out.mono ?_
        rintro e w2 ⟨rfl, hb2⟩
        have hB2 := hB1.under hb2
        have f0 := hB2.cell 0
        have f1 := hB2.cell 1
        have f2 := hB2.lt
        have hb02 := hb1.next hb2 (Nat.le_refl _)
        have HS2 := Lib.hid (HS.out w2 hb02)
        go_wp2_with fail
        refine HS2.out.mono ?_
        rintro e w3 ⟨rfl, hb3⟩
        go_wp2_with fail
        go_ret2
        exact ⟨_, (by rw [H3.out]; rfl), by rw [H3.out]; exact Own.nil, hb02.next hb3 (Nat.le_refl _)⟩
    · have hop : Price.openErr l fall bought stock = Price.checkSale fall bought := by unfold Price.openErr; rw [if_pos h0, if_neg h1]
      obtain ⟨er, her⟩ : ∃ er, er = Price.checkSale fall bought := ⟨_, rfl⟩
      rw [← her] at HS hop h1
      have H3 : Hid (Price.stockedOf l fall bought stock = ([], er)) := by
        show _ = _
        unfold Price.stockedOf; rw [hop, if_neg h1]
      have hpe' : (er != 0) = true := bne_iff_ne.2 h1
      clear hop h0 h1 her
      go_enter Tryz.func44, Tryz.ntmps44
      go_wp2_with fail
      refine HC.out.mono ?_
      rintro e w2 ⟨rfl, hb2⟩
      have hB2 := hB1.under hb2
      have f0 := hB2.cell 0
      have f1 := hB2.cell 1
      have f2 := hB2.lt
      have hb02 := hb1.next hb2 (Nat.le_refl _)
      have HS2 := Lib.hid (HS.out w2 hb02)
      go_wp2_with fail
      refine HS2.out.mono ?_
      rintro e w3 ⟨rfl, hb3⟩
      go_wp2_with fail
      go_ret2
      exact ⟨_, (by rw [H3.out]; rfl), by rw [H3.out]; exact Own.nil, hb02.next hb3 (Nat.le_refl _)⟩
  · have hop : Price.openErr l fall bought stock = Price.check l := by unfold Price.openErr; rw [if_neg h0]
    obtain ⟨er, her⟩ : ∃ er, er = Price.check l := ⟨_, rfl⟩
    rw [← her] at HC hop h0
    have H3 : Hid (Price.stockedOf l fall bought stock = ([], er)) := by
      show _ = _
      unfold Price.stockedOf; rw [hop, if_neg h0]
    have hpe' : (er != 0) = true := bne_iff_ne.2 h0
    clear hop h0 her
    go_enter Tryz.func44, Tryz.ntmps44
    go_wp2_with fail
    refine HC.out.mono ?_
    rintro e w2 ⟨rfl, hb2⟩
    go_wp2_with fail
    go_ret2
    exact ⟨_, (by rw [H3.out]; rfl), by rw [H3.out]; exact Own.nil, hb1.next hb2 (Nat.le_refl _)⟩
end Go.Proofs.YtkailkfiakagfaaGreat
