/- Idle of package price: the rules that count for no piece. Conditions: lengths are below a great bound. -/
import Derived.Test.YtkailkfiakagfaaGreatPriceP
import Derived.Test.YtkailkfiakagfaaGreatHoldsW
set_option linter.unusedVariables false
set_option linter.unusedSimpArgs false
namespace Go.Proofs.YtkailkfiakagfaaGreat
open Go.RowKit Go.Shelf
set_option maxRecDepth 100000
attribute [local go_sem] Oper.semAt_some
namespace Price
def markAll (bs : List Bool) (cs : List Int) : List Bool := cs.foldl (fun b i => b.set i.toNat true) bs
/-- Which rules count for some of the pieces. -/
def busyOf (l : List Rule) (qs : List Piece) : List Bool := qs.foldl (fun b p => markAll b (counts l p)) (List.replicate l.length false)
def idleFrom : List Bool → Int → List Int
  | [], _ => []
  | b :: bs, i => if b then idleFrom bs (i + 1) else i :: idleFrom bs (i + 1)
def idleOf (l : List Rule) : List Int × Int := if check l = 0 then (idleFrom (busyOf l allPieces) 0, 0) else ([], check l)
theorem markAll_length : ∀ (cs : List Int) (bs : List Bool), (markAll bs cs).length = bs.length := by
  intro cs
  induction cs with
  | nil => intro bs; rfl
  | cons c cs ih => intro bs; unfold markAll; rw [List.foldl_cons]; have := ih (bs.set c.toNat true); unfold markAll at this; rw [this, List.length_set]
theorem busyOf_length (l : List Rule) : ∀ (qs : List Piece), (busyOf l qs).length = l.length := by
  intro qs
  unfold busyOf
  have : ∀ (qs : List Piece) (bs : List Bool), (qs.foldl (fun b p => markAll b (counts l p)) bs).length = bs.length := by
    intro qs
    induction qs with
    | nil => intro bs; rfl
    | cons q qs ih => intro bs; rw [List.foldl_cons, ih, markAll_length]
  rw [this, List.length_replicate]
theorem busyOf_snoc (l : List Rule) (qs : List Piece) (q : Piece) : busyOf l (qs ++ [q]) = markAll (busyOf l qs) (counts l q) := by
  unfold busyOf; rw [List.foldl_append]; rfl
theorem markAll_snoc (bs : List Bool) (cs : List Int) (i : Int) : markAll bs (cs ++ [i]) = (markAll bs cs).set i.toNat true := by
  unfold markAll; rw [List.foldl_append]; rfl
theorem idleFrom_length : ∀ (bs : List Bool) (i : Int), (idleFrom bs i).length ≤ bs.length := by
  intro bs
  induction bs with
  | nil => intro i; exact Nat.le_refl _
  | cons b bs ih => intro i; simp only [idleFrom]; have := ih (i + 1); split <;> simp <;> omega
theorem idleFrom_snoc (b : Bool) : ∀ (bs : List Bool) (i : Int), idleFrom (bs ++ [b]) i = idleFrom bs i ++ (if b then [] else [i + bs.length]) := by
  intro bs
  induction bs with
  | nil => intro i; cases b <;> simp [idleFrom]
  | cons c bs ih =>
    intro i
    simp only [List.cons_append, idleFrom, ih]
    cases c <;> cases b <;> simp <;> omega
end Price
/-- wpMakeN within a fence. -/
theorem wpMakeNIn {F : Fence} {m : Nat} {α : Type} (E : Enc α) {P : Program} {t e : TypeId} (hT : SlTy P t e E.sz) (z0 : α) (hz0 : ∃ i z, P.info? e = some i ∧ i.zero = some z ∧ z.cells.toList = E.cells z0) {ops : Array Oper} {rest : List Oper} {o : Oper} {a : Act} {Q : Exit → Act → World → Prop} {w : World}
    (hgd : o.guard = none) (l c : Operand) (ho : o.op = .makeSlice t l c) (n : Nat) (hl : a.eval l = iv n) (hc : a.eval c = iv n) (hn : n ≤ big)
    (h : ∀ w', Own E e w.heap.size w' (.slice (some ⟨w.heap.size, 0, none⟩) n n) (List.replicate n z0) → Below w.heap.size w w' → wpListIn F m P ops Q rest (a.put o.dst (.slice (some ⟨w.heap.size, 0, none⟩) n n)) w') :
    wpListIn F m P ops Q (o :: rest) a w := by
  obtain ⟨i, z, hi, hz, hsz, hby, hzc⟩ := hT.info
  obtain ⟨i', z', hi', hz', hc'⟩ := hz0
  rw [hi] at hi'; injection hi' with hi'; subst hi'
  rw [hz] at hz'; injection hz' with hz'; subst hz'
  unfold big at hn
  refine wpListIn_plain hgd fun K hK' => ?_
  obtain ⟨w', hrun, r1, r2⟩ := run_make_full (P := P) w w.heap.size t e i z E.sz hT.ht hi hz hsz .i64 .i64 n (by have := Nat.mul_le_mul hby hn; omega) (by unfold maxLen; omega) (Nat.le_refl _)
  unfold Oper.wpIn
  refine ⟨?_, ?_⟩
  · simp [Oper.about, ho]
  · rw [Oper.semAt_plain F _ _ (by rw [ho]; intro c hc'; cases hc')]
    simp [execOp, ho, hl, hc, hrun, Result.andThen]
    refine hK' _ _ (h w' ?_ ((Below.refl _ w).grown r2 (Nat.le_refl _) (by simp)))
    unfold Own
    rw [List.length_replicate, ← madeCells_flat E z0 z.cells hc']
    exact r1
theorem tyBools : SlTy Tryz.prog 81 4 1 := slTy_of (z := .bool false) (bytes := 1) Tryz.underlying81 (by kernel_rfl) rfl (by decide)
theorem flat_bool (xs : List Bool) : xs.flatMap boolE.cells = xs.map Value.bool := by
  induction xs with
  | nil => rfl
  | cons x xs ih => rw [List.flatMap_cons, ih]; rfl
set_option maxHeartbeats 2000000 in
theorem idle_spec (A : Option Addr) (l : List Rule) (c : Nat) (w : World) (hm : l.length ≤ big) (hc : l.length ≤ c) (hs : Sl ruleE w A l) :
    Calls Tryz.prog 41 #[.slice A l.length c] w fun e w' => ∃ v, e = .returned (.tuple #[v, iv (Price.idleOf l).2]) ∧ Own intE 3 w.heap.size w' v (Price.idleOf l).1 ∧ Below w.heap.size w w' := by
  have hk2 := Blk.new w 23 #[.slice A l.length c]
  have hB1 : Below w.heap.size w (w.alloc (.cells #[.slice A l.length c] 23)) := (Below.refl _ w).alloc (Nat.le_refl _) _
  have hz1 : (w.alloc (.cells #[.slice A l.length c] 23)).heap.size = w.heap.size + 1 := by simp
  have c2 := hk2.cell
  refine (callsIn_wide (n := 20)).1 ?_
  refine callsIn_of_wp_marks Tryz.func41 rfl trivial ?_ rfl
  simp only [Tryz.ntmps41, List.size_toArray, List.length_cons, List.length_nil, Nat.reduceAdd, Nat.reduceSub, Array.replicate_succ, Array.replicate_zero, List.push_toArray, List.append_toArray, List.nil_append, List.cons_append]
  by_cases h0 : Price.check l = 0
  · have he : Price.idleOf l = (Price.idleFrom (Price.busyOf l Price.allPieces) 0, 0) := by simp [Price.idleOf, h0]
    rw [he]
    have hl8 := Price.check_length h0
    clear he
    gi_wp2_with fail
    generalize w.alloc (.cells #[.slice A l.length c] 23) = w1 at *
    refine ⟨trivial, ?_⟩
    refine (callsIn_wide.2 (check_spec A l c w1 hm hc (hs.below hB1))).mono ?_
    rintro e w2 ⟨rfl, hb2⟩
    rw [h0]
    have hk2b := hk2.under hb2
    have c2 := hk2b.cell
    have hlt2 := hk2b.lt
    gi_wp2_with (gi_at_make; refine wpMakeNIn boolE tyBools false ⟨_, _, rfl, rfl, rfl⟩ rfl _ _ rfl l.length rfl rfl hm ?_; intro w3 hown3 hb3)
    have hB3 := (hB1.next hb2 (by omega)).next hb3 (by omega)
    have hfull := hown3.full
    rw [flat_bool] at hfull
    obtain ⟨hBk3, _⟩ := hfull
    have hz2 := hb2.size
    have hz3 := hb3.size
    have k2 := (hk2b.under hb3).alloc (.cells #[.slice (some ⟨w2.heap.size, 0, none⟩) l.length l.length] 81)
    have k5 : Blk (w3.alloc (.cells #[.slice (some ⟨w2.heap.size, 0, none⟩) l.length l.length] 81)) w3.heap.size 81 #[.slice (some ⟨w2.heap.size, 0, none⟩) l.length l.length] := Blk.new _ _ _
    have kb := hBk3.alloc (.cells #[.slice (some ⟨w2.heap.size, 0, none⟩) l.length l.length] 81)
    have hB0 := hB3.alloc (by omega) (.cells #[.slice (some ⟨w2.heap.size, 0, none⟩) l.length l.length] 81)
    have hsz : (w3.alloc (.cells #[.slice (some ⟨w2.heap.size, 0, none⟩) l.length l.length] 81)).heap.size = w3.heap.size + 1 := by simp
    have hgb3 : w2.heap.size < w3.heap.size := hBk3.lt
    refine ⟨trivial, ?_⟩
    refine (pieces_in Fence.wide _ trivial rfl _).mono ?_
    rintro e w' ⟨rfl, rfl⟩
    gi_wp2_with fail
    clear hk2b hk2 c2 hb2 hB1 hown3 hB3 hBk3 hb3
    generalize hgg : w3.heap.size = g5 at *
    generalize hgh : w2.heap.size = gb at *
    generalize w3.alloc (.cells #[.slice (some ⟨gb, 0, none⟩) l.length l.length] 81) = W0 at *
    clear hgg hgh
    have hgbw : w.heap.size + 1 ≤ gb := by omega
    refine wpIn_rangeFunc_ownH (F := Fence.wide) rfl (by omega) (gf := 93) (lb := #[]) rfl trivial (enters_of Tryz.func93 (by kernel_rfl) rfl)
      (pieces_stops Fence.wide (20 - 1) trivial rfl (by omega) (Below w.heap.size) W0) belowK_t (belowK_b (by omega)) (Below.refl _ _) (fun _ => rfl)
      (fun pre W => ((Blk W g5 81 #[.slice (some ⟨gb, 0, none⟩) l.length l.length] ∧ Blk W gb 4 ((Price.busyOf l pre).map Value.bool).toArray) ∧ Blk W w.heap.size 23 #[.slice A l.length c]) ∧ Below w.heap.size w W)
      (fun _ _ _ => False)
      (OwnFrom.and (OwnFrom.and (OwnFrom.and (blk_ownF _ _ _ _) (blk_ownF _ _ _ _)) (blk_ownF _ _ _ _)) (ownFrom_below (Nat.le_refl _) (by omega)))
      (fun _ _ _ _ _ hs _ _ => hs)
      ⟨⟨⟨k5, kb⟩, k2⟩, hB0⟩
      (fun x a' W => ∃ Bx, g5 + 1 ≤ Bx ∧ Blk W Bx 26 #[iv x.b, iv x.s, iv x.e] ∧ a' = { tmps := #[.slice A l.length c, .pointer (some ⟨w.heap.size, 0, none⟩), .slice none 0 0, .int .i64 0, iv 0, .pointer (some ⟨g5, 0, none⟩), .pointer (some ⟨Bx, 0, none⟩), undef, undef, undef, undef, undef, .slice A l.length c, iv 0, iv 0, .bool false, undef, .slice A l.length c, .int .i64 (l.length : Int), .slice (some ⟨gb, 0, none⟩) l.length l.length, .func (.func 93) #[] #[], x.v, undef, undef, undef, undef, undef, undef, undef, undef, undef, undef, undef, undef, undef, undef, undef, undef, undef, undef, undef, undef, undef, undef, undef, undef, undef, undef, undef], defers := [] })
      (fun x a' _ X Y row hs hg hr => by obtain ⟨Bx, e1, e2, e3⟩ := hs; exact ⟨Bx, e1, blk_ownF (β := Unit) _ Bx _ (fun _ => #[iv x.b, iv x.s, iv x.e]) () X Y row e2 hg hr, e3⟩)
      ?assign ?body ?done ?stop
    case assign =>
      rintro l' pre ⟨x1, x2, x3⟩ W K ⟨⟨⟨b5, bb⟩, b2⟩, hB⟩ hK
      gi_wp2
      exact hK _ _ ((KeepsOthers.alloc _ _).from _) ((Below.refl _ W).alloc hB.size _) ⟨⟨⟨b5.alloc _, bb.alloc _⟩, b2.alloc _⟩, hB.alloc hB.size _⟩ ⟨W.heap.size, b5.lt, Blk.new _ _ _, rfl⟩
    case body =>
      rintro l' pre x a' W hl ⟨r, hr⟩ ⟨⟨⟨b5, bb⟩, b2⟩, hB⟩ ⟨Bx, hBx, bX, rfl⟩ hlt
      have c2 := b2.cell
      have cX := bX.cell
      have hsa := hs.below hB
      gi_wp2_with fail
      refine ⟨trivial, ?_⟩
      refine (CallsIn.inRound l' (callsIn_wide.2 (counts_spec A l c x W hm hsa))).mono ?_
      rintro e w3 ⟨v, rfl, hoc, hb3⟩
      have hmem : ∀ i ∈ Price.counts l x, 0 ≤ i ∧ i < l.length := fun i hi => Price.counts_mem hi
      have hcl8 := Price.counts_length l x
      obtain ⟨cl, hcl⟩ : ∃ cl, cl = Price.counts l x := ⟨_, rfl⟩
      rw [← hcl] at hoc hmem hcl8
      have HCL := Lib.hid hcl
      have HME := Lib.hid hmem
      obtain ⟨Ac, cc, rfl, _, _⟩ := hoc.form
      have hgbW := bb.lt
      have hbz := hB.size
      have b5' := b5.under hb3
      have bb' := bb.under hb3
      have b2' := b2.under hb3
      have HBW := Lib.hid hB
      have HB3 := Lib.hid hb3
      have hB3w := Lib.hid (hB.trans (hb3.mono hB.size))
      have hK3 : Hid (KeepsFrom W0.heap.size W w3) := keepsFrom_below _ hb3
      have hL3 : Hid (Below w.heap.size W w3) := hb3.mono hB.size
      clear hcl hmem c2 cX b5 bb b2 hB hb3 hsa
      gi_wp2_with fail
      gi_loopw [8, 26] (fun _ i wr => ∃ j : Nat, j ≤ cl.length ∧ i = iv j ∧ Blk wr g5 81 #[.slice (some ⟨gb, 0, none⟩) l.length l.length] ∧ Blk wr gb 4 ((Price.markAll (Price.busyOf l pre) (cl.take j)).map Value.bool).toArray ∧ Blk wr w.heap.size 23 #[.slice A l.length c] ∧ Own intE 3 W.heap.size wr (.slice Ac cl.length cc) cl ∧ Hid (Below w.heap.size w wr) ∧ Hid (KeepsFrom W0.heap.size W wr) ∧ Hid (Below w.heap.size W wr)) (fun _ i _ => cl.length - (intOf i).toNat)
      case atStart => exact ⟨0, by omega, rfl, b5', bb', b2', hoc, hB3w, hK3, hL3⟩
      case round =>
        obtain ⟨j, hj, rfl, b5, bb, b2, hoc2, hBr, hKr, hLr⟩ := hrel
        by_cases hlt2 : j < cl.length
        · obtain ⟨b, off, i, rfl, hb, hx, hci⟩ := hoc2.sl.atI hlt2
          have hib := HME.out i (mem_at hx)
          obtain ⟨jj, rfl⟩ := Int.eq_ofNat_of_zero_le hib.1
          have hjl : jj < l.length := by omega
          have hji : (jj : Int) < (l.length : Int) := by omega
          have HT : Hid (Price.markAll (Price.busyOf l pre) (cl.take (j + 1)) = (Price.markAll (Price.busyOf l pre) (cl.take j)).set jj true) := by
            show _ = _
            rw [take_at hx, Price.markAll_snoc, Int.toNat_natCast]
          have c5 := b5.cell
          have fb := bb.frozen
          have lb := bb.lt
          have HB5 := Lib.hid (b5.far (p := ⟨gb, jj, none⟩) (by simp; omega) (.bool true))
          have HBB := Lib.hid (bb.set_ jj (.bool true))
          have HB2 := Lib.hid (b2.far (p := ⟨gb, jj, none⟩) (by simp; omega) (.bool true))
          have HOC := Lib.hid (hoc2.setCell (p := ⟨gb, jj, none⟩) (by exact hgbW) (.bool true))
          have hex : ∃ v, wr.cell? ⟨gb, jj, none⟩ = some v := by
            have hs2 : jj < ((Price.markAll (Price.busyOf l pre) (cl.take j)).map Value.bool).toArray.size := by
              simp [Price.markAll_length, Price.busyOf_length]; exact hjl
            exact ⟨_, (bb.cell jj).trans (Array.getElem?_eq_getElem hs2)⟩
          obtain ⟨vv, hvv⟩ := hex
          clear bb b5 b2 hoc2 hx hib
          gi_wp2_with fail
          go_roundw
          case rel => exact ⟨j + 1, by omega, by go_num, HB5.out, by rw [HT.out]; (have h := HBB.out; simpa using h), HB2.out, HOC.out, hBr.out.setCell (p := ⟨gb, jj, none⟩) (show w.heap.size ≤ gb by omega) _, hKr.out.trans ((KeepsOthers.setCell _ _ _).from _), hLr.out.setCell (p := ⟨gb, jj, none⟩) (show w.heap.size ≤ gb by omega) _⟩
          case measure => simp [intOf]; omega
        · gi_wp2_with fail
          refine ⟨hKr.out, hLr.out, ⟨⟨b5, ?_⟩, b2⟩, hBr.out⟩
          rw [Price.busyOf_snoc, ← HCL.out]
          rw [List.take_of_length_le (by omega)] at bb
          exact bb
    case done =>
      rintro D ys W hD rfl ⟨⟨⟨b5, bb⟩, b2⟩, hB⟩ hK
      have c5 := b5.cell
      gi_wp2_with fail
      gi_loopw [9, 10, 11, 36] (fun v _ _ i wr => ∃ (j : Nat), j ≤ l.length ∧ i = iv j ∧ Own intE 3 W.heap.size wr v (Price.idleFrom ((Price.busyOf l Price.allPieces).take j) 0) ∧ Below W.heap.size W wr) (fun _ _ _ i _ => l.length - (intOf i).toNat)
      case atStart => exact ⟨0, by omega, rfl, Own.nil, Below.refl _ _⟩
      case round =>
        obtain ⟨j, hj, rfl, hown, hbw⟩ := hrel
        have hzr := hbw.size
        by_cases hlt2 : j < l.length
        · have hjb : j < (Price.busyOf l Price.allPieces).length := by rw [Price.busyOf_length]; exact hlt2
          obtain ⟨bv, hbv⟩ : ∃ bv, (Price.busyOf l Price.allPieces)[j]? = some bv := ⟨_, List.getElem?_eq_getElem hjb⟩
          have hcell : wr.cell? ⟨gb, j, none⟩ = some (.bool bv) := by
            rw [(bb.under hbw).cell j]
            simp [hbv]
          have HT : Hid (Price.idleFrom ((Price.busyOf l Price.allPieces).take (j + 1)) 0 = Price.idleFrom ((Price.busyOf l Price.allPieces).take j) 0 ++ (if bv then [] else [(j : Int)])) := by
            show _ = _
            rw [take_at hbv, Price.idleFrom_snoc, List.length_take, Nat.min_eq_left (by omega), Int.zero_add]
          have hil : (Price.idleFrom ((Price.busyOf l Price.allPieces).take j) 0).length ≤ 8 := by
            have h1 := Price.idleFrom_length ((Price.busyOf l Price.allPieces).take j) 0
            rw [List.length_take] at h1; omega
          have hji : (j : Int) < (l.length : Int) := by omega
          clear hbv
          cases bv
          · simp only [Bool.false_eq_true, if_false] at HT
            gi_wp2_with (gi_at_builtin; refine wpApp1InB intE tyInts rfl _ _ rfl hown (j : Int) rfl rfl rfl hzr (by unfold big; omega) ?_; intro v' w4 ho4 hb4 hk4)
            clear hk4
            go_roundw
            case rel => exact ⟨j + 1, by omega, by go_num, by rw [HT.out]; exact ho4, hbw.trans hb4⟩
            case measure => simp [intOf]; omega
          · simp only [if_true, List.append_nil] at HT
            gi_wp2_with fail
            go_roundw
            case rel => exact ⟨j + 1, by omega, by go_num, by rw [HT.out]; exact hown, hbw⟩
            case measure => simp [intOf]; omega
        · rw [List.take_of_length_le (by rw [Price.busyOf_length]; omega)] at hown
          have hDl : D < W.heap.size := (Array.getElem?_eq_some_iff.1 hK).1
          have hK2 := (hbw.block D hDl).trans hK
          have hBz := hB.size
          have hbw' := hB.trans (hbw.mono hBz)
          gi_wp2_with fail
          refine ⟨by simp, .inl ⟨_, _, rfl, run_takeDeferred hK2, ?_⟩⟩
          refine ⟨_, results_tmp2 rfl _ _ _, _, rfl, ?_, below_putObj hbw' (by omega) (Nat.le_refl _) _⟩
          refine (hown.base hBz).keep (grownBy_putObj' wr D _).size fun b hb => (grownBy_putObj' wr D _).block b (hown.lt b hb).2 fun e' => ?_
          cases e'
          have := (hown.lt _ hb).1
          omega
    case stop =>
      rintro D co pre W hD hpr h hK
      exact h.elim
  · have he : Price.idleOf l = ([], Price.check l) := by simp [Price.idleOf, h0]
    rw [he]
    clear he
    have h0' : (Price.check l != 0) = true := by simpa using h0
    gi_wp2_with fail
    refine ⟨trivial, ?_⟩
    refine (callsIn_wide.2 (check_spec A l c _ hm hc (hs.below hB1))).mono ?_
    rintro e w2 ⟨rfl, hb2⟩
    gi_wp2_with fail
    refine ⟨_, results_tmp2 rfl _ _ _, ?_⟩
    exact ⟨_, rfl, ⟨rfl, .inl ⟨rfl, rfl⟩⟩, hB1.next hb2 (Nat.le_refl _)⟩
end Go.Proofs.YtkailkfiakagfaaGreat
