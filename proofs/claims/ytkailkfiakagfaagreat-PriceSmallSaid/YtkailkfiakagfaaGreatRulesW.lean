/- PriceRules returns true. -/
import Derived.Test.YtkailkfiakagfaaGreatHoldsW
import Derived.Test.YtkailkfiakagfaaGreatPiecesW
import Derived.Deep.CutBlock
set_option linter.unusedVariables false
set_option linter.unusedSimpArgs false
namespace Go.Proofs.YtkailkfiakagfaaGreat
open Go.RowKit Go.Shelf
set_option maxRecDepth 100000

theorem zeroFlat (n : Nat) : (Builtin.zeroCells (Value.agg #[iv 0, iv 0, iv 0, iv 0]).cells n).toList.length = n * 4 ∧ ∀ u ∈ (Builtin.zeroCells (Value.agg #[iv 0, iv 0, iv 0, iv 0]).cells n).toList, u.oneCell' = true := by
  constructor
  · rw [Array.length_toList, size_zeroCells]; rfl
  · intro u hu
    simp only [Builtin.zeroCells, Array.toList_map, Array.toList_range, List.mem_map] at hu
    obtain ⟨i, _, rfl⟩ := hu
    have h4 : i % (Value.agg #[iv 0, iv 0, iv 0, iv 0]).cells.size < 4 := Nat.mod_lt _ (by decide)
    generalize i % (Value.agg #[iv 0, iv 0, iv 0, iv 0]).cells.size = k at h4
    match k, h4 with
    | 0, _ => rfl
    | 1, _ => rfl
    | 2, _ => rfl
    | 3, _ => rfl
/-- clear of a slice of the call's own. -/
theorem run_clearOwn {B : Nat} {v : Value} {xs : List Rule} {w : World} (h : Own ruleE 28 B w v xs) : ∃ w', (∀ ty, (Builtin.clear_ #[23] ty #[v]).run Tryz.prog w = .ok (.tuple #[]) w') ∧ Below B w w' := by
  rcases h.2 with ⟨rfl, hn⟩ | ⟨g, cap, cur, rfl, hBg, hg, hnc, hcm, hcs, htk⟩
  · refine ⟨w, fun ty => ?_, Below.refl _ _⟩
    simp [Builtin.clear_, run_underlying Tryz.underlying23]
  · obtain ⟨hz1, hz2⟩ := zeroFlat xs.length
    have hcs' : cur.size = cap * 4 := hcs
    have hst := run_storeCells_at Tryz.prog g 0 28 (Builtin.zeroCells (Value.agg #[iv 0, iv 0, iv 0, iv 0]).cells xs.length).toList 0 cur w hg (by rw [hz1, hcs']; omega) hz2
    generalize (List.take (0 + 0) cur.toList ++ _ ++ _).toArray = nr at hst
    cases hxl : xs.length with
    | zero => exact ⟨w, fun ty => by simp [Builtin.clear_, run_underlying Tryz.underlying23], Below.refl _ _⟩
    | succ m =>
      rw [hxl] at hst
      refine ⟨w.setRow g nr, fun ty => ?_, below_setRow (Below.refl B w) hBg nr⟩
      simp [Builtin.clear_, run_underlying Tryz.underlying23, zeroRule, hst]
theorem wpClear {ops : Array Oper} {rest : List Oper} {o : Oper} {a : Act} {Q : Exit → Act → World → Prop} {w : World} (hgd : o.guard = none) (s : Operand) (ho : o.op = .call { callee := .builtin .clear, args := #[s], argTypes := #[23] })
    {B : Nat} {v : Value} {xs : List Rule} (hs : a.eval s = v) (hown : Own ruleE 28 B w v xs) (h : ∀ w', Below B w w' → wpList Tryz.prog ops Q rest (a.put o.dst (.tuple #[])) w') : wpList Tryz.prog ops Q (o :: rest) a w := by
  obtain ⟨w', hrun, hb⟩ := run_clearOwn hown
  refine wpList_plain hgd fun K hK => ?_
  unfold Oper.wp
  simp [execOp, ho, resolve, invoke, builtin, hs, hrun, Result.andThen]
  exact hK _ _ (h w' hb)
set_option maxHeartbeats 8000000 in
theorem rules_walk (A : Option Addr) (l : List Rule) (c : Nat) (rule : Int) (q : Piece) (r : Rule) (w : World) (hm : l.length ≤ maxLen) (hc : l.length ≤ c) (hs : Sl ruleE w A l) :
    Calls Tryz.prog 8 #[.slice A l.length c, iv rule, q.v, r.v] w fun e w' => e = .returned (.bool true) ∧ Below w.heap.size w w' := by
  unfold maxLen at hm
  obtain ⟨qx, qy, qz⟩ := q
  obtain ⟨ra, rb, rc, rd⟩ := r
  by_cases h12 : l.length ≤ 12
  · have h12' : ¬ (12 : Int) < (l.length : Int) := by omega
    go_enter Tryz.func8, Tryz.ntmps8
    go_wp2_with fail
    have hb0 : Below w.heap.size w ((w.alloc (.cells #[iv qx, iv qy, iv qz] 26)).alloc (.cells #[iv ra, iv rb, iv rc, iv rd] 28)) := ((Below.refl _ _).alloc (Nat.le_refl _) _).alloc (by simp) _
    have hB0 : Blk ((w.alloc (.cells #[iv qx, iv qy, iv qz] 26)).alloc (.cells #[iv ra, iv rb, iv rc, iv rd] 28)) w.heap.size 26 #[iv qx, iv qy, iv qz] := (Blk.new _ _ _).alloc _
    have hR0 : Blk ((w.alloc (.cells #[iv qx, iv qy, iv qz] 26)).alloc (.cells #[iv ra, iv rb, iv rc, iv rd] 28)) (w.heap.size + 1) 28 #[iv ra, iv rb, iv rc, iv rd] := Blk.new_ _ _ _ (by simp)
    generalize (w.alloc (.cells #[iv qx, iv qy, iv qz] 26)).alloc (.cells #[iv ra, iv rb, iv rc, iv rd] 28) = w0 at *
    have hs0 := hs.below hb0
    refine (dupR A l c w0 (by unfold big; omega) hs0).mono ?_
    rintro e w1 ⟨v1, rfl, ho1, hb1⟩
    obtain ⟨A1, c1, rfl, hc1, hcm1⟩ := ho1.form
    have hd1 := ho1.sl
    have hs1 := hs0.below hb1
    have hB1 := hB0.under hb1
    have hR1 := hR0.under hb1
    have hb01 := hb0.next hb1 (Nat.le_refl _)
    clear ho1 hb1 hs0 hB0 hR0 hb0
    go_wp2_with fail
    refine (theirs_spec A l c w1 (by omega) hs1).mono ?_
    rintro e w2 ⟨v2, rfl, ho2, hb2⟩
    obtain ⟨A2, c2, rfl, hc2, hcm2⟩ := ho2.form
    have hx2 := ho2.sl
    have hd2 := hd1.below hb2
    have hs2 := hs1.below hb2
    have hB2 := hB1.under hb2
    have hR2 := hR1.under hb2
    have hb02 := hb01.next hb2 (Nat.le_refl _)
    clear ho2 hb2 hs1 hd1 hB1 hR1 hb01
    go_wp2_with fail
    refine (check2_spec A2 l c2 w2 (by unfold big; omega) hx2).mono ?_
    rintro e w3 ⟨rfl, hb3⟩
    go_wp2_with fail
    refine (check_spec A1 l c1 w3 (by unfold big; omega) hc1 (hd2.below hb3)).mono ?_
    rintro e w4 ⟨rfl, hb4⟩
    have hb34 := hb3.next hb4 (Nat.le_refl _)
    have hx4 := hx2.below hb34
    have hd4 := hd2.below hb34
    have hs4 := hs2.below hb34
    have hB4 := hB2.under hb34
    have hR4 := hR2.under hb34
    have hb04 := hb02.next hb34 (Nat.le_refl _)
    clear hb3 hb4 hb34 hx2 hd2 hs2 hB2 hR2 hb02
    obtain ⟨ck, hck⟩ : ∃ ck, ck = Price.check l := ⟨_, rfl⟩
    rw [← hck]
    have hcc : (ck != ck) = false := by simp
    have HCK := Lib.hid hck
    clear hck
    go_upto_if 43 with fail
    go_cut [12, 13, 14, 15, 16, 17, 18] (fun v12 v13 v14 v15 v16 v17 _ wx => v12 = iv (Price.holdsOf l rule ⟨qx, qy, qz⟩).2 ∧ v13 = iv (Price.countsOf l ⟨qx, qy, qz⟩).2 ∧ v14 = iv (Price.addOf l ⟨ra, rb, rc, rd⟩).2 ∧ v15 = .bool (Price.holdsOf l rule ⟨qx, qy, qz⟩).1 ∧
      Own intE 3 w4.heap.size wx v16 (Price.countsOf l ⟨qx, qy, qz⟩).1 ∧ Own ruleE 28 w4.heap.size wx v17 (Price.addOf l ⟨ra, rb, rc, rd⟩).1 ∧ Below w4.heap.size w4 wx)
    case first =>
      by_cases h0 : ck = 0
      · have hck0 : Price.check l = 0 := by rw [← HCK.out]; exact h0
        subst h0
        have HAGE := Lib.hid (allowed_ge hck0)
        have hl8 := Price.check_length hck0
        have HC0 := Lib.hid hck0
        clear hck0 hcc
        obtain ⟨ip, hip⟩ : ∃ ip, ip = Price.isP ⟨qx, qy, qz⟩ := ⟨_, rfl⟩
        obtain ⟨p0, p1, p2, p3, p4, p5⟩ := hB4.facts
        go_wp2_with fail
        refine (is2_spec ⟨qx, qy, qz⟩ w4).mono ?_
        rintro e w5 ⟨rfl, hb5⟩
        rw [← hip]
        have HIP := Lib.hid hip
        have hB5 := hB4.under hb5
        have hx5 := hx4.below hb5
        clear hip p0 p1 p2 p3 p4 p5
        go_upto_block 0 with fail
        go_cut [12, 15] (fun v12 v15 wx => v12 = iv (Price.holdsOf l rule ⟨qx, qy, qz⟩).2 ∧ v15 = .bool (Price.holdsOf l rule ⟨qx, qy, qz⟩).1 ∧ Below w5.heap.size w5 wx)
        case first =>
          have hlen8 : (l.length : Int) ≤ 8 := by omega
          by_cases hneg : rule < 0
          · have HV : Hid (Price.holdsOf l rule ⟨qx, qy, qz⟩ = (false, 1)) := by
              refine Lib.hid ?_
              unfold Price.holdsOf
              rw [if_pos HC0.out, if_neg]
              simp only [Price.inB, Bool.and_eq_true, decide_eq_true_eq]; omega
            go_wp2_with fail
            go_meet
            exact ⟨by rw [HV.out], by rw [HV.out], Below.refl _ _⟩
          · by_cases hge : (l.length : Int) ≤ rule
            · have HV : Hid (Price.holdsOf l rule ⟨qx, qy, qz⟩ = (false, 1)) := by
                refine Lib.hid ?_
                unfold Price.holdsOf
                rw [if_pos HC0.out, if_neg]
                simp only [Price.inB, Bool.and_eq_true, decide_eq_true_eq]; omega
              go_wp2_with fail
              go_meet
              exact ⟨by rw [HV.out], by rw [HV.out], Below.refl _ _⟩
            · have hin : Price.inB rule 0 (l.length - 1) = true := by simp only [Price.inB, Bool.and_eq_true, decide_eq_true_eq]; omega
              cases ip
              · have HV : Hid (Price.holdsOf l rule ⟨qx, qy, qz⟩ = (false, 3)) := by
                  refine Lib.hid ?_
                  unfold Price.holdsOf
                  rw [if_pos HC0.out, if_pos hin, ← HIP.out]; rfl
                clear hin
                go_wp2_with fail
                go_meet
                exact ⟨by rw [HV.out], by rw [HV.out], Below.refl _ _⟩
              · obtain ⟨i, rfl⟩ := Int.eq_ofNat_of_zero_le (by omega : 0 ≤ rule)
                have hil : i < l.length := by omega
                have hli : (i : Int) < (l.length : Int) := by omega
                obtain ⟨b, off, r, rfl, hb, hx, hc0, hc1', hc2', hc3⟩ := hx5.atR hil
                have hge5 := HAGE.out r (mem_at hx)
                have HV : Hid (Price.holdsOf l i ⟨qx, qy, qz⟩ = (Price.holds r ⟨qx, qy, qz⟩, 0)) := by
                  refine Lib.hid ?_
                  unfold Price.holdsOf
                  rw [if_pos HC0.out, if_pos hin, ← HIP.out, if_pos rfl, List.getD_eq_getElem?_getD, Int.toNat_natCast, hx]; rfl
                obtain ⟨sa, sb, sc, sd⟩ := r
                dsimp only at hc0 hc1' hc2' hc3
                have HH := Lib.hid (fun a : World => holds2_spec ⟨sa, sb, sc, sd⟩ ⟨qx, qy, qz⟩ hge5 a)
                generalize Price.holds ⟨sa, sb, sc, sd⟩ ⟨qx, qy, qz⟩ = hd at *
                have HFF : Hid (∀ a : World, Below w5.heap.size w5 a → a.cell? ⟨w.heap.size, 0, none⟩ = some (iv qx) ∧ a.cell? ⟨w.heap.size, 1, none⟩ = some (iv qy) ∧ a.cell? ⟨w.heap.size, 2, none⟩ = some (iv qz) ∧ a.cell? ⟨b, off + i * 4, none⟩ = some (iv sa) ∧ a.cell? ⟨b, off + i * 4 + 1, none⟩ = some (iv sb) ∧ a.cell? ⟨b, off + i * 4 + 2, none⟩ = some (iv sc) ∧ a.cell? ⟨b, off + i * 4 + 3, none⟩ = some (iv sd)) := fun a h =>
                  ⟨(hB5.under h).cell 0, (hB5.under h).cell 1, (hB5.under h).cell 2, (h.cell (p := ⟨b, off + i * 4, none⟩) hb).trans hc0, (h.cell (p := ⟨b, off + i * 4 + 1, none⟩) hb).trans hc1', (h.cell (p := ⟨b, off + i * 4 + 2, none⟩) hb).trans hc2', (h.cell (p := ⟨b, off + i * 4 + 3, none⟩) hb).trans hc3⟩
                clear hin hx hge5
                go_wp2_with fail
                refine wp_havoc_lit (by kernel_rfl) (by kernel_rfl) ?_
                repeat (first
                  | (refine hv_skip (by rfl) ?_; simp only [Act.put, List.setIfInBounds_toArray, List.set_cons_zero, List.set_cons_succ])
                  | (apply hv_val (by rfl); (intro w hw; have F := HFF.out w hw; go_simp; exact rfl); simp only [Act.put, List.setIfInBounds_toArray, List.set_cons_zero, List.set_cons_succ])
                  | (apply hv_call (by rfl); (intro w hw; have F := HFF.out w hw; go_simp; exact ⟨rfl, rfl⟩); (intro w hw; have F := HFF.out w hw; with_reducible exact HH.out w); simp only [Act.put, List.setIfInBounds_toArray, List.set_cons_zero, List.set_cons_succ]))
                refine hv_nil ?_
                rintro w6 hb6
                go_wp2_with fail
                go_meet
                exact ⟨by rw [HV.out], by rw [HV.out], hb6⟩
        case rest =>
          obtain ⟨rfl, rfl, hb6⟩ := hcut
          obtain ⟨w6, rfl⟩ : ∃ w6 : World, w6 = wc := ⟨_, rfl⟩
          have hbW := hb5.next hb6 (Nat.le_refl _)
          have hx6 := hx5.below hb6
          have hB6 := hB5.under hb6
          generalize Price.holdsOf l rule ⟨qx, qy, qz⟩ = hof at *
          obtain ⟨p0, p1, p2, p3, p4, p5⟩ := hB6.facts
          have key : ∀ (v16 : Value) (w7 : World), True := fun _ _ => trivial
          go_upto_if 64 with fail
          go_cut [13, 16] (fun v13 v16 wx => v13 = iv (Price.countsOf l ⟨qx, qy, qz⟩).2 ∧ Own intE 3 w4.heap.size wx v16 (Price.countsOf l ⟨qx, qy, qz⟩).1 ∧ Below w6.heap.size w6 wx)
          case first =>
            cases ip
            · have HV : Hid (Price.countsOf l ⟨qx, qy, qz⟩ = ([], 3)) := by refine Lib.hid ?_; unfold Price.countsOf; rw [if_pos HC0.out, ← HIP.out]; rfl
              go_wp2_with fail
              go_meet
              exact ⟨by rw [HV.out], by rw [HV.out]; exact Own.nil, Below.refl _ _⟩
            · have HV : Hid (Price.countsOf l ⟨qx, qy, qz⟩ = (Price.counts l ⟨qx, qy, qz⟩, 0)) := by refine Lib.hid ?_; unfold Price.countsOf; rw [if_pos HC0.out, ← HIP.out]; rfl
              go_wp2_with fail
              refine (counts2_spec A2 l c2 ⟨qx, qy, qz⟩ w6 (by unfold big; omega) hx6 HAGE.out).mono ?_
              rintro e w7 ⟨v7, rfl, ho7, hb7⟩
              go_wp2_with fail
              go_meet
              exact ⟨by rw [HV.out], by rw [HV.out]; exact ho7.base hbW.size, hb7⟩
          case rest =>
            obtain ⟨rfl, ho16, hb7⟩ := hcut
            obtain ⟨w7, rfl⟩ : ∃ w7 : World, w7 = wc := ⟨_, rfl⟩
            have hbW := hbW.next hb7 (Nat.le_refl _)
            have HO16 := Lib.hid ho16
            generalize Price.countsOf l ⟨qx, qy, qz⟩ = cof at *
            clear ho16 hb6 hb7 hB6 hx6 hB5 hx5 hb5 p0 p1 p2 p3 p4 p5 key
            go_upto_if 70 with fail
            go_cut [14, 17] (fun v14 v17 wx => v14 = iv (Price.addOf l ⟨ra, rb, rc, rd⟩).2 ∧ Own ruleE 28 w4.heap.size wx v17 (Price.addOf l ⟨ra, rb, rc, rd⟩).1 ∧ Below w7.heap.size w7 wx)
            case first =>
              by_cases hl : l.length = 8
              · have HV : Hid (Price.addOf l ⟨ra, rb, rc, rd⟩ = ([], 9)) := by refine Lib.hid ?_; unfold Price.addOf; rw [if_pos HC0.out, if_pos hl]
                have hn8 : ¬ (l.length : Int) < 8 := by omega
                clear hl
                go_wp2_with fail
                go_meet
                exact ⟨by rw [HV.out], by rw [HV.out]; exact Own.nil, Below.refl _ _⟩
              · have hn8 : (l.length : Int) < 8 := by omega
                have HL := Lib.hid hl
                clear hl
                have hRW := hR4.under hbW
                have hsW := hs4.below hbW
                have g0 := hRW.cell 0
                have g1 := hRW.cell 1
                have g2 := hRW.cell 2
                have g3 := hRW.cell 3
                have HS : Hid (∀ a : World, Below w7.heap.size w7 a → Below w7.heap.size w7 a ∧ (a.cell? ⟨w.heap.size + 1, 0, none⟩ = some (iv ra) ∧ a.cell? ⟨w.heap.size + 1, 1, none⟩ = some (iv rb) ∧ a.cell? ⟨w.heap.size + 1, 2, none⟩ = some (iv rc) ∧ a.cell? ⟨w.heap.size + 1, 3, none⟩ = some (iv rd))) := fun a h => ⟨h, (hRW.under h).cell 0, (hRW.under h).cell 1, (hRW.under h).cell 2, (hRW.under h).cell 3⟩
                have HK0 := Lib.hid (HS.out w7.drew (Below.refl _ _).drew)
                have HCL : Hid (∀ W, Below w7.heap.size w7 W → Calls Tryz.prog 20 #[.slice A l.length c] W fun e w' => ∃ v, e = .returned v ∧ Own ruleE 61 W.heap.size w' v l ∧ Below W.heap.size W w') := fun W hW => theirs_spec A l c W (by omega) (hsW.below hW)
                have HCK2 : Hid (∀ (W : World) (A' : Option Addr) (c' : Nat), Sl ruleE W A' (l ++ [⟨ra, rb, rc, rd⟩]) → Calls Tryz.prog 21 #[.slice A' (l.length + 1) c'] W fun e w' => e = .returned (iv (Price.check (l ++ [⟨ra, rb, rc, rd⟩]))) ∧ Below W.heap.size W w') := fun W A' c' h => by
                  have := check2_spec A' (l ++ [⟨ra, rb, rc, rd⟩]) c' W (by simp; unfold big; omega) h
                  rw [show (l ++ [(⟨ra, rb, rc, rd⟩ : Rule)]).length = l.length + 1 by simp] at this
                  exact this
                go_upto_region 23 with fail
                go_cut [14] (fun v14 wx => v14 = iv (Price.check (l ++ [⟨ra, rb, rc, rd⟩])) ∧ Below w7.heap.size w7 wx)
                case first =>
                  go_region_held3 (fun a => Below w7.heap.size w7 a ∧ (a.cell? ⟨w.heap.size + 1, 0, none⟩ = some (iv ra) ∧ a.cell? ⟨w.heap.size + 1, 1, none⟩ = some (iv rb) ∧ a.cell? ⟨w.heap.size + 1, 2, none⟩ = some (iv rc) ∧ a.cell? ⟨w.heap.size + 1, 3, none⟩ = some (iv rd)))
                    (first | with_reducible assumption | exact HK0.out | exact HS.out _ ((Below.refl _ w7).drew.alloc (Nat.le_refl _) _) | exact HS.out _ HX3.out | exact HS.out _ HX2.out | exact HS.out _ HX1.out | exact HS.out _ (HX1.out.alloc HX1.out.size _))
                    (first
                      | (go_at_call 20; refine (HCL.out _ (And.left ‹Below w7.heap.size w7 _ ∧ _›)).mono ?_; rintro e x1 ⟨v, rfl, hown, hbx⟩; have HX1 := Lib.hid ((And.left ‹Below w7.heap.size w7 _ ∧ _›).next hbx (Nat.le_refl _)); obtain ⟨A', c', rfl, _, _⟩ := hown.form)
                      | (refine stepAppS ruleE tyRules2 (by rfl) _ _ (by rfl) hown ((Sl.fresh ruleE w7.drew 61 #[iv ra, iv rb, iv rc, iv rd] [⟨ra, rb, rc, rd⟩] rfl (by simp [maxLen])).below hbx) rfl (by rfl) (by rfl) (by rfl) hbx.size (by unfold big; simp; omega) ?_; intro v' x2 hown2 hbx2 _; have HX2 := Lib.hid (HX1.out.trans (hbx2.mono (by simp))); have hown3 := Lib.hid (hown2.base (B' := w7.heap.size) (by simp)); obtain ⟨A9, c9, rfl, hc9, hm9⟩ := hown2.form; have hsl2 := hown2.sl)
                      | (refine stepAppS ruleE tyRules2 (by rfl) _ _ (by rfl) (hown.below ((Below.refl _ x1).alloc (Nat.le_refl _) _)) (Sl.fresh ruleE x1 61 #[iv ra, iv rb, iv rc, iv rd] [⟨ra, rb, rc, rd⟩] rfl (by simp [maxLen])) rfl (by rfl) (by rfl) (by rfl) (Nat.le_trans hbx.size (by simp)) (by unfold big; simp; omega) ?_; intro v' x2 hown2 hbx2 _; have HX2 := Lib.hid ((HX1.out.alloc HX1.out.size _).trans hbx2); have hown3 := Lib.hid (hown2.base (B' := w7.heap.size) (by simp)); obtain ⟨A9, c9, rfl, hc9, hm9⟩ := hown2.form; have hsl2 := hown2.sl)
                      | (go_at_call 21; refine (HCK2.out _ _ _ hsl2).mono ?_; rintro e x3 ⟨rfl, hbx3⟩; have HX3 := Lib.hid (HX2.out.next hbx3 (Nat.le_refl _))))
                  all_goals
                    go_wp2_with fail
                    go_meet
                    exact ⟨rfl, HX3.out⟩
                case rest =>
                  obtain ⟨rfl, hb8⟩ := hcut
                  obtain ⟨w8, rfl⟩ : ∃ w8 : World, w8 = wc := ⟨_, rfl⟩
                  clear HCL HCK2 HS HK0 g0 g1 g2 g3 hRW hsW
                  by_cases h3 : Price.check (l ++ [⟨ra, rb, rc, rd⟩]) = 0
                  · have HV : Hid (Price.addOf l ⟨ra, rb, rc, rd⟩ = (l ++ [⟨ra, rb, rc, rd⟩], 0)) := by refine Lib.hid ?_; unfold Price.addOf; rw [if_pos HC0.out, if_neg HL.out, if_pos h3]
                    have hbW := hbW.next hb8 (Nat.le_refl _)
                    have hRW := hR4.under hbW
                    have hsW := hs4.below hbW
                    have g0 := hRW.cell 0
                    have g1 := hRW.cell 1
                    have g2 := hRW.cell 2
                    have g3 := hRW.cell 3
                    have HS : Hid (∀ a : World, Below w8.heap.size w8 a → Below w8.heap.size w8 a ∧ (a.cell? ⟨w.heap.size + 1, 0, none⟩ = some (iv ra) ∧ a.cell? ⟨w.heap.size + 1, 1, none⟩ = some (iv rb) ∧ a.cell? ⟨w.heap.size + 1, 2, none⟩ = some (iv rc) ∧ a.cell? ⟨w.heap.size + 1, 3, none⟩ = some (iv rd))) := fun a h => ⟨h, (hRW.under h).cell 0, (hRW.under h).cell 1, (hRW.under h).cell 2, (hRW.under h).cell 3⟩
                    have HK0 := Lib.hid (HS.out w8.drew (Below.refl _ _).drew)
                    have HCL : Hid (∀ W, Below w8.heap.size w8 W → Calls Tryz.prog 19 #[.slice A l.length c] W fun e w' => ∃ v, e = .returned v ∧ Own ruleE 28 W.heap.size w' v l ∧ Below W.heap.size W w') := fun W hW => dupR A l c W (by unfold big; omega) (hsW.below hW)
                    rw [h3]
                    clear h3
                    go_wp2_with fail
                    go_region_held3 (fun a => Below w8.heap.size w8 a ∧ (a.cell? ⟨w.heap.size + 1, 0, none⟩ = some (iv ra) ∧ a.cell? ⟨w.heap.size + 1, 1, none⟩ = some (iv rb) ∧ a.cell? ⟨w.heap.size + 1, 2, none⟩ = some (iv rc) ∧ a.cell? ⟨w.heap.size + 1, 3, none⟩ = some (iv rd)))
                      (first | with_reducible assumption | exact HK0.out | exact HS.out _ ((Below.refl _ w8).drew.alloc (Nat.le_refl _) _) | exact HS.out _ HX3.out | exact HS.out _ HX2.out | exact HS.out _ HX1.out | exact HS.out _ (HX1.out.alloc HX1.out.size _))
                      (first
                        | (go_at_call 19; refine (HCL.out _ (And.left ‹Below w8.heap.size w8 _ ∧ _›)).mono ?_; rintro e x1 ⟨v, rfl, hown, hbx⟩; have HX1 := Lib.hid ((And.left ‹Below w8.heap.size w8 _ ∧ _›).next hbx (Nat.le_refl _)); obtain ⟨A', c', rfl, _, _⟩ := hown.form)
                        | (refine stepAppS ruleE tyRules (by rfl) _ _ (by rfl) hown ((Sl.fresh ruleE w8.drew 28 #[iv ra, iv rb, iv rc, iv rd] [⟨ra, rb, rc, rd⟩] rfl (by simp [maxLen])).below hbx) rfl (by rfl) (by rfl) (by rfl) hbx.size (by unfold big; simp; omega) ?_; intro v' x2 hown2 hbx2 _; have HX2 := Lib.hid (HX1.out.trans (hbx2.mono (by simp))); have hown3 := Lib.hid (hown2.base (B' := w8.heap.size) (by simp)); obtain ⟨A9, c9, rfl, hc9, hm9⟩ := hown2.form; have hsl2 := hown2.sl)
                        | (refine stepAppS ruleE tyRules (by rfl) _ _ (by rfl) (hown.below ((Below.refl _ x1).alloc (Nat.le_refl _) _)) (Sl.fresh ruleE x1 28 #[iv ra, iv rb, iv rc, iv rd] [⟨ra, rb, rc, rd⟩] rfl (by simp [maxLen])) rfl (by rfl) (by rfl) (by rfl) (Nat.le_trans hbx.size (by simp)) (by unfold big; simp; omega) ?_; intro v' x2 hown2 hbx2 _; have HX2 := Lib.hid ((HX1.out.alloc HX1.out.size _).trans hbx2); have hown3 := Lib.hid (hown2.base (B' := w8.heap.size) (by simp)); obtain ⟨A9, c9, rfl, hc9, hm9⟩ := hown2.form; have hsl2 := hown2.sl))
                    all_goals
                      go_wp2_with fail
                      go_meet
                      exact ⟨by rw [HV.out], by rw [HV.out]; simpa using hown3.out.base hbW.size, hb8.next HX2.out (Nat.le_refl _)⟩
                  · have HV : Hid (Price.addOf l ⟨ra, rb, rc, rd⟩ = ([], Price.check (l ++ [⟨ra, rb, rc, rd⟩]))) := by refine Lib.hid ?_; unfold Price.addOf; rw [if_pos HC0.out, if_neg HL.out, if_neg h3]
                    have h3' : (Price.check (l ++ [⟨ra, rb, rc, rd⟩]) == 0) = false := beq_eq_false_iff_ne.2 h3
                    clear h3
                    go_wp2_with fail
                    go_meet
                    exact ⟨by rw [HV.out], by rw [HV.out]; exact Own.nil, hb8⟩
            case rest =>
              obtain ⟨rfl, ho17, hb8⟩ := hcut
              go_wp2_with fail
              go_meet
              exact ⟨rfl, rfl, rfl, rfl, HO16.out.below hb8, ho17, hbW.next hb8 (Nat.le_refl _)⟩
      · have hck0 : Price.check l = ck := by rw [← HCK.out]
        have h0' : (ck == 0) = false := beq_eq_false_iff_ne.2 h0
        have HV1 : Hid (Price.holdsOf l rule ⟨qx, qy, qz⟩ = (false, ck)) := by refine Lib.hid ?_; unfold Price.holdsOf; rw [hck0, if_neg h0]
        have HV2 : Hid (Price.countsOf l ⟨qx, qy, qz⟩ = ([], ck)) := by refine Lib.hid ?_; unfold Price.countsOf; rw [hck0, if_neg h0]
        have HV3 : Hid (Price.addOf l ⟨ra, rb, rc, rd⟩ = ([], ck)) := by refine Lib.hid ?_; unfold Price.addOf; rw [hck0, if_neg h0]
        clear hck0
        go_wp2_with fail
        go_meet
        exact ⟨by rw [HV1.out], by rw [HV2.out], by rw [HV3.out], by rw [HV1.out], by rw [HV2.out]; exact Own.nil, by rw [HV3.out]; exact Own.nil, Below.refl _ _⟩
    case rest =>
      obtain ⟨rfl, rfl, rfl, rfl, ho16, ho17, hb5⟩ := hcut
      obtain ⟨A16, c16, rfl, _, _⟩ := ho16.form
      obtain ⟨A17, c17, rfl, _, _⟩ := ho17.form
      have hs16 := ho16.sl
      have hs17 := ho17.sl
      have hd5 := hd4.below hb5
      have hs5 := hs4.below hb5
      have hB5 := hB4.under hb5
      have hR5 := hR4.under hb5
      have hb05 := hb04.next hb5 (Nat.le_refl _)
      have hcl : (Price.countsOf l ⟨qx, qy, qz⟩).1.length ≤ 12 := by
        unfold Price.countsOf
        split
        · split
          · exact Nat.le_trans (Price.counts_length _ _) h12
          · simp
        · simp
      have hal : (Price.addOf l ⟨ra, rb, rc, rd⟩).1.length ≤ 13 := by
        unfold Price.addOf
        split
        · split
          · simp
          · split
            · simp; omega
            · simp
        · simp
      obtain ⟨p0, p1, p2, p3, p4, p5⟩ := hB5.facts
      obtain ⟨r0, r1, r2, r3, r4, r5⟩ := hR5.facts
      have HH := Lib.hid (Holds_spec A1 l c1 rule ⟨qx, qy, qz⟩ wc (by unfold big; omega) hc1 hd5)
      have HCO := Lib.hid (fun (W : World) (h : Below wc.heap.size wc W) => Counts_spec A1 l c1 ⟨qx, qy, qz⟩ W (by unfold big; omega) hc1 (hd5.below h))
      have HAD := Lib.hid (fun (W : World) (h : Below wc.heap.size wc W) => Add_spec A1 l c1 ⟨ra, rb, rc, rd⟩ W (by omega) hc1 (hd5.below h))
      generalize Price.holdsOf l rule ⟨qx, qy, qz⟩ = ho at *
      generalize Price.countsOf l ⟨qx, qy, qz⟩ = co at *
      generalize Price.addOf l ⟨ra, rb, rc, rd⟩ = ad at *
      obtain ⟨ho1, ho2⟩ := ho
      obtain ⟨co1, co2⟩ := co
      obtain ⟨ad1, ad2⟩ := ad
      dsimp only at *
      clear ho16 ho17 hb5 hd4 hs4 hB4 hR4 hb04 hx4
      have e1 : (ho2 != ho2) = false := by simp
      have e2 : (co2 != co2) = false := by simp
      have e3 : (ad2 != ad2) = false := by simp
      have e4 : (ho1 != ho1) = false := by simp
      go_wp2_with fail
      refine HH.out.mono ?_
      rintro e w6 ⟨rfl, hb6⟩
      obtain ⟨p0, p1, p2, p3, p4, p5⟩ := (hB5.under hb6).facts
      obtain ⟨r0, r1, r2, r3, r4, r5⟩ := (hR5.under hb6).facts
      go_wp2_with fail
      refine (HCO.out _ hb6).mono ?_
      rintro e w7 ⟨v7, rfl, ho7, hb7⟩
      obtain ⟨A7, c7, rfl, _, _⟩ := ho7.form
      have hb57 := hb6.next hb7 (Nat.le_refl _)
      obtain ⟨r0, r1, r2, r3, r4, r5⟩ := (hR5.under hb57).facts
      have hs7 := ho7.sl
      clear ho7
      go_wp2_with fail
      refine (HAD.out _ hb57).mono ?_
      rintro e w8 ⟨v8, rfl, ho8, hb8⟩
      obtain ⟨A8, c8, rfl, _, _⟩ := ho8.form
      have hb58 := hb57.next hb8 (Nat.le_refl _)
      have hs8 := ho8.sl
      have HO8 := Lib.hid ho8
      have f1 := Lib.hid (eqI A7 co1 c7 A16 co1 c16 w8 (by unfold big; omega) (hs7.below hb8) (by unfold big; omega) (hs16.below hb58))
      rw [decide_eq_true (rfl : co1 = co1)] at f1
      clear ho8 p0 p1 p2 p3 p4 p5 r0 r1 r2 r3 r4 r5
      go_wp2_with fail
      refine f1.out.mono ?_
      rintro e w9 ⟨rfl, hb9⟩
      have hb59 := hb58.next hb9 (Nat.le_refl _)
      have f2 := Lib.hid (eqR A8 ad1 c8 A17 ad1 c17 w9 (by unfold big; omega) (hs8.below hb9) (by unfold big; omega) (hs17.below hb59))
      rw [decide_eq_true (rfl : ad1 = ad1)] at f2
      go_wp2_with fail
      refine f2.out.mono ?_
      rintro e w10 ⟨rfl, hb10⟩
      have hb510 := hb59.next hb10 (Nat.le_refl _)
      have ho10 := (HO8.out.below hb9).below hb10
      have hd10 := hd5.below hb510
      have hs10 := hs5.below hb510
      go_wp2_with (refine wpClear (o := ⟨none, _, _, _, _, _⟩) rfl (.tmp 133) rfl rfl ho10 ?_; intro w11 hb11)
      have hb511 := hb510.trans (hb11.mono hb57.size)
      have f3 := Lib.hid (eqR A1 l c1 A l c w11 (by unfold big; omega) (hd5.below hb511) (by unfold big; omega) (hs5.below hb511))
      rw [decide_eq_true (rfl : l = l)] at f3
      refine f3.out.mono ?_
      rintro e w12 ⟨rfl, hb12⟩
      have HAW := Lib.hid (awake_spec w12)
      go_wp2_with (go_at_call 14; refine HAW.out.mono ?_; rintro e w13 ⟨rfl, hb13⟩)
      go_ret
      exact ⟨rfl, ((hb05.next hb511 (Nat.le_refl _)).next hb12 (Nat.le_refl _)).next hb13 (Nat.le_refl _)⟩
  · have h12' : (12 : Int) < (l.length : Int) := by omega
    go_enter Tryz.func8, Tryz.ntmps8
    go_wp2_with (go_at_call 14; refine (awake_spec _).mono ?_; rintro e w11 ⟨rfl, hb11⟩)
    go_ret
    exact ⟨rfl, (((Below.refl _ w).alloc (Nat.le_refl _) _).alloc (by simp) _).trans (hb11.mono (by simp only [World.size_alloc]; omega))⟩
end Go.Proofs.YtkailkfiakagfaaGreat
