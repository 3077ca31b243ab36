/- PriceSold returns true: the walk. Condition: the arguments read as bytes. -/
import Derived.Test.YtblmlpkjocbhpaaMadeW
import Derived.Test.YtblmlpkjocbhpaaOpen
set_option linter.unusedVariables false
set_option linter.unusedSimpArgs false
namespace Go.Proofs.Ytblmlpkjocbhpaa
open Go.RowKit Go.Shelf
set_option maxRecDepth 100000
/-- What the sale's functions are told, and where it lies. -/
structure Args3 (Al : Option Addr) (l : List Rule) (Ab : Option Addr) (bought : List Int) (As : Option Addr) (stock : List Piece) (W : World) : Prop where
  rl : Sl ruleE W Al l
  ri : Sl intE W Ab bought
  rp : Sl pieceE W As stock
theorem Args3.below {Al : Option Addr} {l : List Rule} {Ab : Option Addr} {bought : List Int} {As : Option Addr} {stock : List Piece} {W W' : World} (h : Args3 Al l Ab bought As stock W) (hb : Below W.heap.size W W') : Args3 Al l Ab bought As stock W' := ⟨h.rl.below hb, h.ri.below hb, h.rp.below hb⟩
theorem Args3.only {Al : Option Addr} {l : List Rule} {Ab : Option Addr} {bought : List Int} {As : Option Addr} {stock : List Piece} {W W' : World} {g : Nat} (h : Args3 Al l Ab bought As stock W) (h1 : Far g Al) (h2 : Far g Ab) (h3 : Far g As) (ho : Only g W W') : Args3 Al l Ab bought As stock W' := ⟨h.rl.only h1 ho, h.ri.only h2 ho, h.rp.only h3 ho⟩
/-- Two numbers that were found, and the error. -/
def Price.mv : Option (Nat × Nat) → Int × Int × Int
  | some (i, k) => ((i : Int), (k : Int), 0)
  | none => (0, 0, 6)
theorem isP_of {q : Piece} (h : (0 ≤ q.b ∧ q.b ≤ 3) ∧ (0 ≤ q.s ∧ q.s ≤ 2) ∧ (0 ≤ q.e ∧ q.e ≤ 2)) : Price.isP q = true := by
  simp only [Price.isP, Price.inB, Bool.and_eq_true, decide_eq_true_eq]
  omega
set_option maxHeartbeats 4000000 in
theorem sold_walk (A : Option Addr) (bs : List Int) (c : Nat) (A' : Option Addr) (bs' : List Int) (c' : Nat) (w : World) (hs : Sl byteE w A bs) (hs' : Sl byteE w A' bs') :
    Calls Try.prog 7 #[.slice A bs.length c, .slice A' bs'.length c'] w fun e w' => e = .returned (.bool true) ∧ Below w.heap.size w w' := by
  go_enter Try.func7, Try.ntmps7
  go_wp2_with fail
  refine (wound_spec A bs c w hs).mono ?_
  rintro e w1 ⟨g, rfl, rfl, hsp1, hb1⟩
  have hz1 := hsp1.2.1
  go_wp2_with fail
  refine (wound2_spec A' bs' c' w w1 hs' hb1).mono ?_
  rintro e w2 ⟨g2, rfl, rfl, hz2, hb2, HQ⟩
  have hsp2 := hsp1.below hb2 hz1
  have hb02 := hb1.next hb2 (Nat.le_refl _)
  clear hsp1 hb1 hb2
  go_wp2_with fail
  refine (made_spec _ w.heap.size 0 3 w2 hsp2 (by omega) (by omega)).mono ?_
  rintro e w3 ⟨vl, l0, k3, rfl, hol, hmk, hk3, hsp3, ho3⟩
  have hz3 := ho3.below.size
  have HMK := Lib.hid hmk
  have hl3 := hmk.len
  clear hmk hsp2
  go_wp2_with fail
  refine (from_spec _ w3 _ k3 15 30 hsp3 (by omega) (by omega) (by omega)).mono ?_
  rintro e w4 ⟨q, rfl, hq15, hq30, hsp4, ho4⟩
  have hol4 := hol.only (by omega) ho4
  have ho := ho3.trans ho4
  have hz4 := ho.below.size
  clear hol hsp3 ho3 ho4
  go_wp2_with (at_builtin; refine wpApp1 ruleE tyRules rfl _ _ rfl hol4 ⟨-1, -1, -1, (q : Int)⟩ rfl rfl rfl (by omega) (by unfold big; omega) ?_; intro v5 w5 hown5 hb5 hk5; have hck := HMK.out.last (by omega) (p := (q : Int)) (by omega); obtain ⟨l, hl⟩ : ∃ l, l = l0 ++ [(⟨-1, -1, -1, (q : Int)⟩ : Rule)] := ⟨_, rfl⟩; rw [← hl] at hown5 hck; have hll : l.length ≤ 4 := (by rw [hl, List.length_append]; exact Nat.add_le_add hl3 (Nat.le_refl 1)); clear hl; obtain ⟨Al, cl, rfl, hcl, hcm⟩ := hown5.form; have HCK := Lib.hid hck; clear hck)
  have hz5 := hb5.size
  have hsp5 := hsp4.below hb5 (by omega)
  have ho5 : Only w.heap.size w2 w5 := ho.next hb5 (by omega) (by omega)
  have hfar : Far w.heap.size Al := fun b off s h => by
    subst h
    have := (hown5.lt b (by simp [Value.ownBlock])).1
    omega
  have hfl : Far w1.heap.size Al := fun b off s h => by
    subst h
    have := (hown5.lt b (by simp [Value.ownBlock])).1
    omega
  have hsl5 := hown5.sl
  have H := Lib.hid (sold_spec Al l cl _ w.heap.size _ w5 (by unfold big; omega) hsl5 hfar hsp5 (by omega))
  clear hk5 hb5 ho hol4 HMK hsp4
  refine H.out.mono ?_
  rintro e w6 ⟨fall, bought, stock, vb, vs, k', rfl, hf0, hf1, hbl, hbl8, hbm, hsl, hsm, hob, hos, _, _, ho6⟩
  have ho26 := ho5.trans ho6
  have hl6 := hsl5.only hfar ho6
  obtain ⟨Ab, cb, rfl, hcb, hcbm⟩ := hob.form
  obtain ⟨As, cs, rfl, hcs, hcsm⟩ := hos.form
  have hsb := hob.sl
  have hss := hos.sl
  have hfb : Far w1.heap.size Ab := fun b off s h => by
    subst h
    have := (hob.lt b (by simp [Value.ownBlock])).1
    omega
  have hfs : Far w1.heap.size As := fun b off s h => by
    subst h
    have := (hos.lt b (by simp [Value.ownBlock])).1
    omega
  have hz6 := ho6.below.size
  have hb06 : Below w.heap.size w w6 := hb02.trans ho26.below
  have hg2 : w6.heap[w1.heap.size]? = w2.heap[w1.heap.size]? := ho26.other w1.heap.size (by omega) (by omega)
  have hbm9 : ∀ m ∈ bought, 0 ≤ m ∧ m ≤ 9 := fun m hm => by have := hbm m hm; omega
  have hopn := Price.open_clash HCK.out ⟨hf0, hf1⟩ ⟨hbl, hbl8⟩ hbm9 hsl fun p hp => ⟨isP_of ⟨(hsm p hp).1, (hsm p hp).2.1, (hsm p hp).2.2.1⟩, (hsm p hp).2.2.2⟩
  have HOPN := Lib.hid hopn
  have HBM := Lib.hid hbm9
  clear hown5 hsl5 hsp5 H ho6 hob hos ho5 ho26 hb02 hopn hbm hbm9 hsm
  go_wp2_with fail
  have hb7 : Below w6.heap.size w6 (w6.alloc (.cells #[iv fall, .slice Ab bought.length cb] 31)) := (Below.refl _ _).alloc (Nat.le_refl _) _
  have hB7 : Blk (w6.alloc (.cells #[iv fall, .slice Ab bought.length cb] 31)) w6.heap.size 31 #[iv fall, .slice Ab bought.length cb] := Blk.new _ _ _
  have hz7 : (w6.alloc (.cells #[iv fall, .slice Ab bought.length cb] 31)).heap.size = w6.heap.size + 1 := by simp
  generalize w6.alloc (.cells #[iv fall, .slice Ab bought.length cb] 31) = w7 at *
  have hl7 := hl6.below hb7
  have hsb7 := hsb.below hb7
  have hss7 := hss.below hb7
  have hb07 := hb06.next hb7 (Nat.le_refl _)
  have hq7 := HQ.out w7 (by omega) (fun b hb => hb07.block b hb) ((hb7.block _ (by omega)).trans hg2)
  clear hl6 hsb hss hb7 hb06 HQ hg2
  have HBE := Lib.hid (Best_spec Al l cl fall Ab bought cb As stock cs w7 (by unfold big; omega) hcl hl7 (by unfold big; omega) hsb7 (by unfold big; omega) hss7)
  rcases HOPN.out with hopn | hopn
  rotate_left
  · have hbest : Price.bestOf l fall bought stock = ([], 0, 7) := by unfold Price.bestOf; rw [if_neg (by omega), hopn]
    rw [hbest] at HBE
    clear hbest hopn HOPN
    refine HBE.out.mono ?_
    rintro e w8 ⟨v8, rfl, _, hb8⟩
    have HA := Lib.hid (awake_spec w8)
    go_wp2_with (go_at_call 20; refine HA.out.mono ?_; rintro e w9 ⟨rfl, hb9⟩)
    go_ret
    exact ⟨rfl, (hb07.next hb8 (Nat.le_refl _)).next hb9 (Nat.le_refl _)⟩
  · have hshop := Price.shop_of hopn
    obtain ⟨ps, hps⟩ : ∃ ps, ps = (Price.stocked l stock).1 := ⟨_, rfl⟩
    rw [← hps] at hshop
    obtain ⟨M, hM⟩ : ∃ M, M = Price.earns fall ps (Price.bestPlan ps bought) := ⟨_, rfl⟩
    have hbest : Price.bestOf l fall bought stock = (Price.bestPlan ps bought, M, 0) := by unfold Price.bestOf; rw [if_pos hopn, ← hps, hM]
    rw [hbest] at HBE
    have HPS := Lib.hid hps
    have HM := Lib.hid hM
    have HS := Lib.hid hshop
    have HO := Lib.hid hopn
    clear hbest hopn HOPN hps hM hshop
    have HPE : Hid (∀ pl : List Int, pl.length = stock.length → Price.Plan bought pl → Price.planErr l fall bought stock pl = 0) := fun pl h1 h2 => Price.planErr_plan HO.out h1 h2
    have HE : Hid (∀ (W : World) (App : Option Addr) (pl : List Int) (cpp : Nat), pl.length = stock.length → Price.Plan bought pl → Args3 Al l Ab bought As stock W → Sl intE W App pl → Calls Try.prog 42 #[.slice Al l.length cl, saleV fall Ab bought.length cb, .slice As stock.length cs, .slice App stock.length cpp] W fun e w' =>
        e = .returned (.tuple #[iv (Price.earns fall ps pl), iv 0]) ∧ Below W.heap.size W w') := fun W App pl cpp hn hP hb h4 => by
      have := Earns_spec Al l cl fall Ab bought cb As stock cs W (by unfold big; omega) hcl hb.rl (by unfold big; omega) hb.ri (by unfold big; omega) hb.rp App pl cpp (by unfold big; omega) h4
      unfold Price.earnsOf at this
      rw [if_pos (HPE.out pl hn hP), ← HPS.out, hn] at this
      exact this
    have HX : Hid (∀ (W : World) (App : Option Addr) (pl : List Int) (cpp : Nat) (o : Option (Nat × Nat)), pl.length = stock.length → Price.Plan bought pl → Args3 Al l Ab bought As stock W → Sl intE W App pl → Price.searchIK (Price.betterExch fall stock ps pl) stock.length 0 stock.length = o → Calls Try.prog 43 #[.slice Al l.length cl, saleV fall Ab bought.length cb, .slice As stock.length cs, .slice App stock.length cpp] W fun e w' =>
        e = .returned (.tuple #[iv (Price.mv o).1, iv (Price.mv o).2.1, iv (Price.mv o).2.2]) ∧ Below W.heap.size W w') := fun W App pl cpp o hn hP hb h4 ho => by
      have := Exchange_spec Al l cl fall Ab bought cb As stock cs W (by unfold big; omega) hcl hb.rl (by unfold big; omega) hb.ri (by unfold big; omega) hb.rp App pl cpp (by unfold big; omega) h4
      unfold Price.exchangeOf at this
      rw [if_pos (HPE.out pl hn hP), ← HPS.out, hn, ho] at this
      cases o <;> exact this
    have HV : Hid (∀ (W : World) (App : Option Addr) (pl : List Int) (cpp : Nat) (o : Option (Nat × Nat)), pl.length = stock.length → Price.Plan bought pl → Args3 Al l Ab bought As stock W → Sl intE W App pl → Price.searchIW (Price.betterMove fall bought ps pl) bought.length 0 stock.length = o → Calls Try.prog 44 #[.slice Al l.length cl, saleV fall Ab bought.length cb, .slice As stock.length cs, .slice App stock.length cpp] W fun e w' =>
        e = .returned (.tuple #[iv (Price.mv o).1, iv (Price.mv o).2.1, iv (Price.mv o).2.2]) ∧ Below W.heap.size W w') := fun W App pl cpp o hn hP hb h4 ho => by
      have := Move_spec Al l cl fall Ab bought cb As stock cs W (by unfold big; omega) hcl hb.rl (by unfold big; omega) hb.ri (by unfold big; omega) hb.rp App pl cpp (by unfold big; omega) h4
      unfold Price.moveOf at this
      rw [if_pos (HPE.out pl hn hP), ← HPS.out, hn, ho] at this
      cases o <;> exact this
    refine HBE.out.mono ?_
    rintro e w8 ⟨v8, rfl, ho8, hb8⟩
    obtain ⟨A8, c8, hv8, _, _⟩ := ho8.form
    rw [HS.out.best.2] at hv8
    subst hv8
    have hs8 := ho8.sl
    have hB8 := hB7.under hb8
    have f0 := hB8.cell 0
    have f1 := hB8.cell 1
    have f2 := hB8.lt
    have f3 := hB8.frozen
    have ha7 : Args3 Al l Ab bought As stock w7 := ⟨hl7, hsb7, hss7⟩
    have HE1 := Lib.hid (HE.out w8 A8 _ c8 HS.out.best.2 HS.out.best.1 (ha7.below hb8) hs8)
    rw [← HM.out] at HE1
    have hmm : (M != M) = false := by simp
    clear ho8 HBE
    go_wp2_with fail
    refine HE1.out.mono ?_
    rintro e w9 ⟨rfl, hb9⟩
    have hb79 := hb8.next hb9 (Nat.le_refl _)
    have HX1 := Lib.hid (HX.out w9 A8 _ c8 none HS.out.best.2 HS.out.best.1 (ha7.below hb79) (hs8.below hb9) HS.out.best_exch)
    have hB9 := hB7.under hb79
    have g0 := hB9.cell 0
    have g1 := hB9.cell 1
    have g2 := hB9.lt
    have g3 := hB9.frozen
    clear f0 f1 f2 f3 HE1 hB8
    go_wp2_with fail
    refine HX1.out.mono ?_
    rintro e w10 ⟨rfl, hb10⟩
    have hb710 := hb79.next hb10 (Nat.le_refl _)
    have HV1 := Lib.hid (HV.out w10 A8 _ c8 none HS.out.best.2 HS.out.best.1 (ha7.below hb710) ((hs8.below hb9).below hb10) HS.out.best_move)
    have hB10 := hB7.under hb710
    have f0 := hB10.cell 0
    have f1 := hB10.cell 1
    have f2 := hB10.lt
    have f3 := hB10.frozen
    clear g0 g1 g2 g3 HX1 hB9
    go_wp2_with fail
    refine HV1.out.mono ?_
    rintro e w11 ⟨rfl, hb11⟩
    have hb711 := hb710.next hb11 (Nat.le_refl _)
    have hB11 := hB7.under hb711
    have g0 := hB11.cell 0
    have g1 := hB11.cell 1
    have g2 := hB11.lt
    have g3 := hB11.frozen
    have hz11 := hb711.size
    have hnn : ((stock.length : Int) != (stock.length : Int)) = false := by simp
    have HT := Lib.hid (tried_spec fall Ab bought cb stock.length _ w1.heap.size 0 w11 (hsb7.below hb711) hfb HBM.out hbl hbl8 (by omega) (hq7.below hb711 (by omega)) (by omega))
    clear f0 f1 f2 f3 HV1 hB10 hs8 hb8 hb9 hb10 hb11 hb79 hb710
    go_wp2_with fail
    refine HT.out.mono ?_
    rintro e w12 ⟨v21, plan0, rfl, hop, hpl0, hP0, _, ho12⟩
    obtain ⟨Ap, cp, hv21, _, _⟩ := hop.form
    rw [hpl0] at hv21
    subst hv21
    have ha11 := ha7.below hb711
    have hb011 := hb07.next hb711 (Nat.le_refl _)
    have hPL := Lib.hid hpl0
    have hPP := Lib.hid hP0
    have hon0 := Lib.hid ho12
    clear HT hpl0 hP0 g0 g1 g2 g3 ho12 hl7 hsb7 hss7 hq7 ha7 hb711 hb07
    go_wp2_with fail
    go_loopw [22, 23, 24, 25, 26, 27, 28, 29, 30, 31, 117] (fun _ _ _ _ _ _ _ _ _ _ i wr => ∃ (j : Nat) (plan : List Int), j ≤ 2000 ∧ i = iv j ∧ Own intE 3 w11.heap.size wr (.slice Ap stock.length cp) plan ∧ Hid (plan.length = stock.length) ∧ Hid (Price.Plan bought plan) ∧ Hid ((j : Int) ≤ Price.pot fall bought.length ps plan) ∧ Hid (Only w1.heap.size w11 wr)) (fun _ _ _ _ _ _ _ _ _ _ i _ => 2000 - (intOf i).toNat)
    case atStart => exact ⟨0, plan0, by omega, rfl, hop, hPL, hPP, Lib.hid (Price.pot_bounds (by rw [← HS.out.len]; exact hsl) hbl8).1, hon0⟩
    case round =>
      obtain ⟨j, plan, hj, rfl, hown, hpl, hP, hpot, hon⟩ := hrel
      have hpb := Price.pot_bounds (fall := fall) (n := bought.length) (ps := ps) (plan := plan) (by rw [← HS.out.len]; exact hsl) hbl8
      have hlt : j < 2000 := by have := hpot.out; omega
      have hlt' : (j : Int) < 2000 := by omega
      obtain ⟨E, hE⟩ : ∃ E, E = Price.earns fall ps plan := ⟨_, rfl⟩
      have hle : E ≤ M := by rw [hE, HM.out]; exact HS.out.most hP.out hpl.out
      have hle' : ¬ M < E := by omega
      have HEr := Lib.hid (HE.out wr Ap plan cp hpl.out hP.out (ha11.only hfl hfb hfs hon.out) hown.sl)
      rw [← hE] at HEr
      have HEQ := Lib.hid hE
      have hBr := hB11.only (by omega) hon.out
      have f0 := hBr.cell 0
      have f1 := hBr.cell 1
      have f2 := hBr.lt
      have f3 := hBr.frozen
      have hzr := hon.out.below.size
      clear hE hpb
      go_wp2_with fail
      refine HEr.out.mono ?_
      rintro e x1 ⟨rfl, hbx1⟩
      have hon1 := Lib.hid (hon.out.next hbx1 (by omega) hzr)
      have hown1 := hown.below hbx1
      have hB1 := hB11.only (by omega) hon1.out
      have g0 := hB1.cell 0
      have g1 := hB1.cell 1
      have g2 := hB1.lt
      have g3 := hB1.frozen
      have hzr1 := hon1.out.below.size
      have ha1 := ha11.only hfl hfb hfs hon1.out
      obtain ⟨o2, ho2⟩ : ∃ o, o = Price.searchIW (Price.betterMove fall bought ps plan) bought.length 0 stock.length := ⟨_, rfl⟩
      have HOV := Lib.hid ho2
      have HVr : Hid (∀ x2, Below x1.heap.size x1 x2 → Calls Try.prog 44 #[.slice Al l.length cl, saleV fall Ab bought.length cb, .slice As stock.length cs, .slice Ap stock.length cp] x2 fun e w' =>
        e = .returned (.tuple #[iv (Price.mv o2).1, iv (Price.mv o2).2.1, iv (Price.mv o2).2.2]) ∧ Below x2.heap.size x2 w') := fun x2 hb => HV.out x2 Ap plan cp o2 hpl.out hP.out (ha1.below hb) (hown1.sl.below hb) ho2.symm
      clear ho2
      cases hx : Price.searchIK (Price.betterExch fall stock ps plan) stock.length 0 stock.length with
      | some ab =>
        obtain ⟨a, b⟩ := ab
        have HXr := Lib.hid (HX.out x1 Ap plan cp _ hpl.out hP.out ha1 hown1.sl hx)
        rw [show Price.mv (some (a, b)) = ((a : Int), (b : Int), 0) from rfl] at HXr
        obtain ⟨_, _, hab, hbn, hbe⟩ := Price.searchIK_some _ _ _ _ hx
        obtain ⟨hP', hl', hE', hpot'⟩ := HS.out.exch hP.out hpl.out hab hbn hbe
        clear hx f0 f1 f2 f3 hbx1 hown hBr hon HEr hbe
        go_wp2_with fail
        refine HXr.out.mono ?_
        rintro e x2 ⟨rfl, hbx2⟩
        have HVs := Lib.hid (HVr.out x2 hbx2)
        have hB2 := hB1.under hbx2
        have f0 := hB2.cell 0
        have f1 := hB2.cell 1
        have f2 := hB2.lt
        have f3 := hB2.frozen
        generalize Price.mv o2 = mm at HVs
        obtain ⟨m1, m2, m3⟩ := mm
        dsimp only at HVs
        clear g0 g1 g2 g3 HXr
        go_wp2_with fail
        refine HVs.out.mono ?_
        rintro e x3 ⟨rfl, hbx3⟩
        have hb13 := hbx2.next hbx3 (Nat.le_refl _)
        have hon3 := Lib.hid (hon1.out.next hb13 (by omega) hzr1)
        have hown3 := hown1.below hb13
        have hne : plan ≠ [] := fun e => by have := hpl.out; rw [e] at this; simp at this; omega
        obtain ⟨gp, cg, hv⟩ := hown3.some_ hne
        injection hv with hA hn hc
        subst hA hc
        have hap : a < plan.length := by rw [hpl.out]; omega
        have hbp : b < plan.length := by rw [hpl.out]; omega
        obtain ⟨pa, hpa⟩ : ∃ pa, pa = plan.getD a 0 := ⟨_, rfl⟩
        obtain ⟨pb, hpb⟩ : ∃ pb, pb = plan.getD b 0 := ⟨_, rfl⟩
        obtain ⟨fa, hBg, hgl, hca, hsa⟩ := hown3.store a hap pb
        obtain ⟨fb, _, _, hcb', _⟩ := hown3.store b hbp 0
        obtain ⟨_, _, _, _, hsb2⟩ := hsa.store b (by simpa using hbp) pa
        have hex : (plan.set a pb).set b pa = Price.exch plan a b := by rw [hpa, hpb]; rfl
        rw [hex] at hsb2
        rw [← hpa] at hca
        rw [← hpb] at hcb'
        have HS2 := Lib.hid hsb2
        have HEE := Lib.hid hE'
        have HPP' := Lib.hid hP'
        have HLL' := Lib.hid hl'
        have HPO' := Lib.hid hpot'
        have t1 : ¬ (a : Int) < 0 := by omega
        have t2 : ¬ (b : Int) ≤ (a : Int) := by omega
        have t3 : ¬ (stock.length : Int) ≤ (b : Int) := by omega
        have t4 : ¬ b ≤ a := by omega
        have t5 : ¬ stock.length ≤ b := by omega
        have t6 : a < stock.length := by omega
        have hzx3 := hon3.out.below.size
        have hB3 := hB1.under hb13
        have HB3 := Lib.hid hB3
        have hbx : b < stock.length := hbn
        clear hpa hpb hsb2 hsa hex hE' hP' hl' hpot' hn hown1 hown3 f0 f1 f2 f3 hB2 HVs hB3 hab
        go_wp2_with fail
        go_region
        have HS4 : Own intE 3 w11.heap.size (((x3.setCell ⟨gp, a, none⟩ (iv pb)).setCell ⟨gp, b, none⟩ (iv pa)).drew) (.slice (some ⟨gp, 0, none⟩) stock.length cp) (Price.exch plan a b) := HS2.out.keep (Nat.le_refl _) fun _ _ => rfl
        have hon4 : Only w1.heap.size w11 (((x3.setCell ⟨gp, a, none⟩ (iv pb)).setCell ⟨gp, b, none⟩ (iv pa)).drew) := ((hon3.out.setCell (p := ⟨gp, a, none⟩) (by simp; omega) hBg (iv pb)).setCell (p := ⟨gp, b, none⟩) (by simp; omega) hBg (iv pa)).drew
        generalize ((x3.setCell ⟨gp, a, none⟩ (iv pb)).setCell ⟨gp, b, none⟩ (iv pa)).drew = x4 at *
        have HE4 := Lib.hid (HE.out x4 _ _ cp HLL'.out HPP'.out (ha11.only hfl hfb hfs hon4) HS4.sl)
        obtain ⟨E4, hE4⟩ : ∃ E4, E4 = Price.earns fall ps (Price.exch plan a b) := ⟨_, rfl⟩
        rw [← hE4] at HE4
        have hle4 : ¬ E4 ≤ E := by have := HEE.out; rw [← hE4, ← HEQ.out] at this; omega
        have hB4 := hB11.only (by omega) hon4
        have f0 := hB4.cell 0
        have f1 := hB4.cell 1
        have f2 := hB4.lt
        have f3 := hB4.frozen
        have hzx4 := hon4.below.size
        have HON4 := Lib.hid hon4
        have HOW4 := Lib.hid HS4
        clear hE4 HS4 fa fb hca hcb' hgl hB4 hon4
        go_wp2_with fail
        refine HE4.out.mono ?_
        rintro e x5 ⟨rfl, hbx5⟩
        have hon5 := Lib.hid (HON4.out.next hbx5 (by omega) hzx4)
        have how5 := Lib.hid (HOW4.out.below hbx5)
        clear hbx5 f0 f1 f2 f3
        go_wp2_with fail
        go_roundw
        case rel => exact ⟨j + 1, Price.exch plan a b, by omega, by go_num, how5.out, HLL', HPP', Lib.hid (by have := hpot.out; have := HPO'.out; push_cast; omega), hon5⟩
        case measure => simp [intOf]; omega
      | none =>
        have HXr := Lib.hid (HX.out x1 Ap plan cp _ hpl.out hP.out ha1 hown1.sl hx)
        rw [show Price.mv none = ((0 : Int), (0 : Int), 6) from rfl] at HXr
        have HOX := Lib.hid hx
        clear hx f0 f1 f2 f3 hbx1 hown hBr hon HEr
        go_wp2_with fail
        refine HXr.out.mono ?_
        rintro e x2 ⟨rfl, hbx2⟩
        have HVs := Lib.hid (HVr.out x2 hbx2)
        have hB2 := hB1.under hbx2
        have f0 := hB2.cell 0
        have f1 := hB2.cell 1
        have f2 := hB2.lt
        have f3 := hB2.frozen
        clear g0 g1 g2 g3 HXr HVr
        cases o2 with
        | some pw =>
          obtain ⟨p, k⟩ := pw
          rw [show Price.mv (some (p, k)) = ((p : Int), (k : Int), 0) from rfl] at HVs
          obtain ⟨_, hpn, hkn, hbm⟩ := Price.searchIW_some _ _ _ _ HOV.out.symm
          obtain ⟨hP', hl', hE', hpot'⟩ := HS.out.move hP.out hpl.out (by omega) hkn hbm
          go_wp2_with fail
          refine HVs.out.mono ?_
          rintro e x3 ⟨rfl, hbx3⟩
          have hb13 := hbx2.next hbx3 (Nat.le_refl _)
          have hon3 := Lib.hid (hon1.out.next hb13 (by omega) hzr1)
          have hown3 := hown1.below hb13
          have hne : plan ≠ [] := fun e => by have := hpl.out; rw [e] at this; simp at this; omega
          obtain ⟨gp, cg, hv⟩ := hown3.some_ hne
          injection hv with hA hn hc
          subst hA hc
          obtain ⟨fa, hBg, hgl, hca, hsa⟩ := hown3.store p (by rw [hpl.out]; omega) (k : Int)
          have HS2 := Lib.hid hsa
          have HEE := Lib.hid hE'
          have HPP' := Lib.hid hP'
          have HLL' := Lib.hid hl'
          have HPO' := Lib.hid hpot'
          have t1 : ¬ (p : Int) < 0 := by omega
          have t2 : ¬ (k : Int) < 0 := by omega
          have t3 : ¬ (stock.length : Int) ≤ (p : Int) := by omega
          have t4 : ¬ (bought.length : Int) ≤ (k : Int) := by omega
          have t5 : ¬ stock.length ≤ p := by omega
          have t6 : p < stock.length := by omega
          have t7 : ¬ bought.length ≤ k := by omega
          have hzx3 := hon3.out.below.size
          have hB3 := hB1.under hb13
          have g0 := hB3.cell 0
          have g1 := hB3.cell 1
          have g2 := hB3.lt
          have g3 := hB3.frozen
          clear hsa hE' hP' hl' hpot' hn hown1 hown3 f0 f1 f2 f3 hB2 HVs hB3 hbm hkn hpn
          go_wp2_with fail
          have HS4 : Own intE 3 w11.heap.size (x3.setCell ⟨gp, p, none⟩ (iv k)) (.slice (some ⟨gp, 0, none⟩) stock.length cp) (plan.set p (k : Int)) := HS2.out
          have hon4 : Only w1.heap.size w11 (x3.setCell ⟨gp, p, none⟩ (iv k)) := hon3.out.setCell (p := ⟨gp, p, none⟩) (by simp; omega) hBg (iv k)
          generalize x3.setCell ⟨gp, p, none⟩ (iv k) = x4 at *
          have HE4 := Lib.hid (HE.out x4 _ _ cp HLL'.out HPP'.out (ha11.only hfl hfb hfs hon4) HS4.sl)
          obtain ⟨E4, hE4⟩ : ∃ E4, E4 = Price.earns fall ps (plan.set p (k : Int)) := ⟨_, rfl⟩
          rw [← hE4] at HE4
          have hle4 : ¬ E4 ≤ E := by have := HEE.out; rw [← hE4, ← HEQ.out] at this; omega
          have hzx4 := hon4.below.size
          have HON4 := Lib.hid hon4
          have HOW4 := Lib.hid HS4
          clear hE4 HS4 fa hca hgl hon4
          refine HE4.out.mono ?_
          rintro e x5 ⟨rfl, hbx5⟩
          have hon5 := Lib.hid (HON4.out.next hbx5 (by omega) hzx4)
          have how5 := Lib.hid (HOW4.out.below hbx5)
          clear hbx5
          go_wp2_with fail
          go_roundw
          case rel => exact ⟨j + 1, plan.set p (k : Int), by omega, by go_num, how5.out, HLL', HPP', Lib.hid (by have := hpot.out; have := HPO'.out; push_cast; omega), hon5⟩
          case measure => simp [intOf]; omega
        | none =>
          rw [show Price.mv none = ((0 : Int), (0 : Int), 6) from rfl] at HVs
          have hEM := HS.out.none_most hP.out hpl.out HOX.out HOV.out.symm
          rw [← HEQ.out, ← HM.out] at hEM
          have heq : (E == M) = true := by simpa using hEM
          clear hEM
          go_wp2_with fail
          refine HVs.out.mono ?_
          rintro e x3 ⟨rfl, hbx3⟩
          have hb13 := hbx2.next hbx3 (Nat.le_refl _)
          have hon3 := Lib.hid (hon1.out.next hb13 (by omega) hzr1)
          have HA := Lib.hid (awake_spec x3)
          clear f0 f1 f2 f3 hbx2 hbx3 hb13 hB2
          go_wp2_with (go_at_call 20; refine HA.out.mono ?_; rintro e x4 ⟨rfl, hbx4⟩)
          go_ret
          exact ⟨rfl, (hb011.trans (hon3.out.below.mono (by omega))).next hbx4 (Nat.le_refl _)⟩
end Go.Proofs.Ytblmlpkjocbhpaa
