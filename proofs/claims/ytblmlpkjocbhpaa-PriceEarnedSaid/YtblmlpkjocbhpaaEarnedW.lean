/- PriceEarned returns true. -/
import Derived.Test.YtblmlpkjocbhpaaEarnP
import Derived.Test.YtblmlpkjocbhpaaTriedW
import Derived.Test.YtblmlpkjocbhpaaOpen
import Derived.Deep.DeepCutAuto
set_option linter.unusedVariables false
set_option linter.unusedSimpArgs false
namespace Go.Proofs.Ytblmlpkjocbhpaa
open Go.RowKit Go.Shelf
set_option maxRecDepth 100000
theorem Sl.setFar {α : Type} {E : Enc α} {w : World} {A : Option Addr} {xs : List α} (h : Sl E w A xs) {p : Addr} (hf : Far p.block A) (u : Value) : Sl E (w.setCell p u) A xs := fun hx => by
  obtain ⟨b, off, hA, hb, hc⟩ := h hx
  refine ⟨b, off, hA, by simpa [World.setCell] using hb, fun i x hi j u' hu => ?_⟩
  rw [World.cell?_of_block (w := w) (Below.heap_setCell w p u b (hf b off none hA))]
  exact hc i x hi j u' hu
set_option maxHeartbeats 4000000 in
theorem earned_walk (A : Option Addr) (bs : List Int) (c : Nat) (A' : Option Addr) (bs' : List Int) (c' : Nat) (w : World) (hs : Sl byteE w A bs) (hs' : Sl byteE w A' bs') :
    Calls Try.prog 6 #[.slice A bs.length c, .slice A' bs'.length c'] w fun e w' => e = .returned (.bool true) ∧ Below w.heap.size w w' := by
  go_enter Try.func6, Try.ntmps6
  go_wp2_with fail
  refine (wound_spec A bs c w hs).mono ?_
  rintro e w1 ⟨g, rfl, rfl, hsp1, hb1⟩
  have hz1 := hsp1.2.1
  go_wp2_with fail
  refine (wound2_spec A' bs' c' w w1 hs' hb1).mono ?_
  rintro e w2 ⟨g2, rfl, rfl, hz2, hb2, HQ⟩
  have hsp2 := hsp1.below hb2 hz1
  have hb02 := hb1.next hb2 (Nat.le_refl _)
  clear hsp1 hb1 hb2
  go_wp2_with fail
  refine (upto_spec _ w2 _ 0 30 hsp2 (by omega) (by omega)).mono ?_
  rintro e w3 ⟨q0, rfl, hq0, hsp3, ho3⟩
  go_wp2_with fail
  refine (upto_spec _ w3 _ _ 60 hsp3 (by omega) (by omega)).mono ?_
  rintro e w4 ⟨q1, rfl, hq1, hsp4, ho4⟩
  have ho := ho3.trans ho4
  have hz4 := ho.below.size
  clear ho3 ho4 hsp2 hsp3
  go_wp2_with fail
  have hb5 : Below w4.heap.size w4 (w4.alloc (.cells #[iv (-1), iv (-1), iv (-1), iv q0, iv (-1), iv 1, iv (-1), iv q1] 27)) := (Below.refl _ _).alloc (Nat.le_refl _) _
  have hl5 : Sl ruleE (w4.alloc (.cells #[iv (-1), iv (-1), iv (-1), iv q0, iv (-1), iv 1, iv (-1), iv q1] 27)) (some ⟨w4.heap.size, 0, none⟩) (Price.earnList q0 q1) := Sl.fresh ruleE w4 _ _ _ rfl (by simp [Price.earnList, maxLen])
  have hz5 : (w4.alloc (.cells #[iv (-1), iv (-1), iv (-1), iv q0, iv (-1), iv 1, iv (-1), iv q1] 27)).heap.size = w4.heap.size + 1 := by simp
  generalize w4.alloc (.cells #[iv (-1), iv (-1), iv (-1), iv q0, iv (-1), iv 1, iv (-1), iv q1] 27) = w5 at *
  have hsp5 := hsp4.below hb5 (by omega)
  have H := sold_spec (some ⟨w4.heap.size, 0, none⟩) (Price.earnList q0 q1) 2 _ w.heap.size _ w5 (by simp [Price.earnList, big]) hl5 (fun b off s h => by cases h; omega) hsp5 (by omega)
  refine H.mono ?_
  rintro e w6 ⟨fall, bought, stock, vb, vs, k', rfl, hf0, hf1, hbl, hbl8, hbm, hsl, hsm, hob, hos, _, _, ho6⟩
  have hl6 := hl5.only (g := w.heap.size) (fun b off s h => by cases h; omega) ho6
  have ho26 := (ho.next hb5 (by omega) hz4).trans ho6
  obtain ⟨Ab, cb, rfl, hcb, hcbm⟩ := hob.form
  obtain ⟨As, cs, rfl, hcs, hcsm⟩ := hos.form
  have hsb := hob.sl
  have hss := hos.sl
  have hfb : Far w1.heap.size Ab := fun b off s h => by
    subst h
    have := (hob.lt b (by simp [Value.ownBlock])).1
    omega
  have hz6 := ho6.below.size
  have hF6b : Far w6.heap.size Ab := fun b off s h => by
    subst h
    have := (hob.lt b (by simp [Value.ownBlock])).2
    omega
  have hF6s : Far w6.heap.size As := fun b off s h => by
    subst h
    have := (hos.lt b (by simp [Value.ownBlock])).2
    omega
  have hfs0 : Far w1.heap.size As := fun b off s h => by
    subst h
    have := (hos.lt b (by simp [Value.ownBlock])).1
    omega
  have hb06 : Below w.heap.size w w6 := hb02.trans ho26.below
  have hg2 : w6.heap[w1.heap.size]? = w2.heap[w1.heap.size]? := ho26.other w1.heap.size (by omega) (by omega)
  clear hb5 hl5 hsp4 hsp5 H ho6 hob hos ho ho26 hb02
  go_wp2_with fail
  have hb7 : Below w6.heap.size w6 (w6.alloc (.cells #[iv fall, .slice Ab bought.length cb] 31)) := (Below.refl _ _).alloc (Nat.le_refl _) _
  have hB7 : Blk (w6.alloc (.cells #[iv fall, .slice Ab bought.length cb] 31)) w6.heap.size 31 #[iv fall, .slice Ab bought.length cb] := Blk.new _ _ _
  have hz7 : (w6.alloc (.cells #[iv fall, .slice Ab bought.length cb] 31)).heap.size = w6.heap.size + 1 := by simp
  generalize w6.alloc (.cells #[iv fall, .slice Ab bought.length cb] 31) = w7 at *
  have hl7 := hl6.below hb7
  have hsb7 := hsb.below hb7
  have hss7 := hss.below hb7
  have hb07 := hb06.next hb7 (Nat.le_refl _)
  have hq7 := HQ.out w7 (by omega) (fun b hb => hb07.block b hb) ((hb7.block _ (by omega)).trans hg2)
  have hfs : Far w1.heap.size As := hfs0
  have hbm9 : ∀ m ∈ bought, 0 ≤ m ∧ m ≤ 9 := fun m hm => by have := hbm m hm; omega
  clear hl6 hsb hss hb7 hb06 HQ hg2 hfs0
  obtain ⟨ps, hps⟩ : ∃ ps, ps = stock.map (Price.earnPrice q0 q1) := ⟨_, rfl⟩
  have hip : ∀ q ∈ stock, Price.isP q = true := fun q hq => by
    have := hsm q hq
    simp only [Price.isP, Price.inB, Bool.and_eq_true, decide_eq_true_eq]
    omega
  have hst : Price.stocked (Price.earnList q0 q1) stock = (ps, 0) := by rw [hps]; exact Price.earn_stocked (by omega) (by omega) stock hip
  have hopen : ∀ f, 0 ≤ f ∧ f ≤ 30 → Price.openErr (Price.earnList q0 q1) f bought stock = 0 := fun f hf => Price.earn_open (by omega) (by omega) hf ⟨hbl, hbl8⟩ hbm9 hsl hip
  have hpb : ∀ p ∈ ps, 0 ≤ p ∧ p ≤ 60 := fun p hp => by
    rw [hps] at hp
    obtain ⟨q, _, rfl⟩ := List.mem_map.1 hp
    exact Price.earn_bounds (by omega) (by omega) q
  have hpl : ps.length = stock.length := by rw [hps]; simp
  have HPS := Lib.hid hps
  have HIP := Lib.hid hip
  have HST := Lib.hid hst
  have HOPEN := Lib.hid hopen
  have HPB := Lib.hid hpb
  have HSM := Lib.hid hsm
  have HBM := Lib.hid hbm9
  have HPL := Lib.hid hpl
  clear hps hip hst hopen hpb hsm hbm9 hbm hpl
  have HT := Lib.hid (tried_spec fall Ab bought cb stock.length _ w1.heap.size 0 w7 hsb7 hfb HBM.out hbl hbl8 (by omega) hq7 (by omega))
  refine HT.out.mono ?_
  rintro e w8 ⟨v10, plan, rfl, hop, hplan, hP, _, ho8⟩
  obtain ⟨Ap, cp, rfl, hcp, hcpm⟩ := hop.form
  have hz8 := ho8.below.size
  have hl8 := hl7.only (g := w1.heap.size) (fun b off s h => by cases h; omega) ho8
  have hsb8 := hsb7.only hfb ho8
  have hss8 := hss7.only hfs ho8
  have hB8 := hB7.only (by omega) ho8
  have hsp8 := hop.sl
  have hF6p : Far w6.heap.size Ap := fun b off s h => by
    subst h
    have := (hop.lt b (by simp [Value.ownBlock])).1
    omega
  have hb08 : Below w.heap.size w w8 := hb07.trans (ho8.below.mono (by omega))
  have HP := Lib.hid hP
  have HPN := Lib.hid hplan
  clear HT hl7 hsb7 hss7 hb07 hq7 hB7 ho8 hop hP
  have HE : Hid (∀ (W : World) (f : Int) (App : Option Addr) (pl : List Int) (n cpp : Nat), n = pl.length → pl.length ≤ 1000 → Sl ruleE W (some ⟨w4.heap.size, 0, none⟩) (Price.earnList q0 q1) → Sl intE W Ab bought → Sl pieceE W As stock → Sl intE W App pl → Calls Try.prog 42 #[.slice (some ⟨w4.heap.size, 0, none⟩) 2 2, saleV f Ab bought.length cb, .slice As stock.length cs, .slice App n cpp] W fun e w' =>
      e = .returned (.tuple #[iv (Price.earnsOf (Price.earnList q0 q1) f bought stock pl).1, iv (Price.earnsOf (Price.earnList q0 q1) f bought stock pl).2]) ∧ Below W.heap.size W w') := fun W f App pl n cpp hn hle h1 h2 h3 h4 => by
    subst hn
    exact Earns_spec (some ⟨w4.heap.size, 0, none⟩) (Price.earnList q0 q1) 2 f Ab bought cb As stock cs W (by simp [Price.earnList, big]) (by simp [Price.earnList]) h1 (by unfold big; omega) h2 (by unfold big; omega) h3 App pl cpp (by unfold big; omega) h4
  have hval : ∀ f, 0 ≤ f ∧ f ≤ 30 → Price.earnsOf (Price.earnList q0 q1) f bought stock plan = (Price.earns f ps plan, 0) := fun f hf => by
    unfold Price.earnsOf
    rw [if_pos (Price.planErr_plan (HOPEN.out f hf) HPN.out HP.out), HST.out]
  have HV := Lib.hid hval
  clear hval
  have f0 := hB8.cell 0
  have f1 := hB8.cell 1
  have f2 := hB8.lt
  have f3 := hB8.frozen
  have H1 := Lib.hid (HE.out w8 fall Ap plan plan.length cp rfl (by omega) hl8 hsb8 hss8 hsp8)
  rw [HV.out fall ⟨hf0, hf1⟩] at H1
  rw [hplan] at H1
  go_wp2_with fail
  refine H1.out.mono ?_
  rintro e w9 ⟨rfl, hb9⟩
  have hB9 := hB8.under hb9
  have hb09 := hb08.next hb9 (Nat.le_refl _)
  have hl9 := hl8.below hb9
  have hss9 := hss8.below hb9
  have hsp9 := hsp8.below hb9
  have hsb9 := hsb8.below hb9
  have d0 := hB9.cell 0
  have d2 := hB9.lt
  obtain ⟨E, hE⟩ : ∃ E, E = Price.earns fall ps plan := ⟨_, rfl⟩
  obtain ⟨E0, hE0⟩ : ∃ E0, E0 = Price.earns 0 ps plan := ⟨_, rfl⟩
  rw [← hE]
  have HEE := Lib.hid hE
  have HE0 := Lib.hid hE0
  have hnn := hsl
  clear f0 f1 f2 f3 hb9 hb08 hl8 hss8 hsp8 hB8 H1 hE hE0 hplan
  go_wp2_with fail
  go_loopw [13, 14, 15, 16, 17, 18, 52] (fun v13 v14 _ _ _ _ i wr => ∃ (k : Nat) (wa so : Int), k ≤ stock.length ∧ i = iv k ∧ v13 = iv wa ∧ v14 = iv so ∧ 0 ≤ wa ∧ wa ≤ 6000 * k ∧ 0 ≤ so ∧ so ≤ 6000 * k ∧ Below w9.heap.size w9 wr ∧
    Hid (wa + Price.earns fall (ps.drop k) (plan.drop k) = E ∧ so + Price.earns 0 (ps.drop k) (plan.drop k) = E0)) (fun _ _ _ _ _ _ i _ => stock.length - (intOf i).toNat)
  case atStart => exact ⟨0, 0, 0, by omega, rfl, rfl, rfl, by omega, by omega, by omega, by omega, Below.refl _ _, by rw [HEE.out, HE0.out]; exact ⟨by simp, by simp⟩⟩
  case round =>
    obtain ⟨k, wa, so, hk, rfl, rfl, rfl, hwa0, hwa1, hso0, hso1, hbw, hf⟩ := hrel
    by_cases hlt : k < stock.length
    · obtain ⟨b, off, x, rfl, hb, hx, hc⟩ := (hsp9.below hbw).atI (k := k) (by rw [HPN.out]; exact hlt)
      obtain ⟨b2, off2, q, rfl, hb2, hq, hc0, hc1, hc2⟩ := (hss9.below hbw).atP hlt
      have hqs := HSM.out q (mem_at hq)
      have hqi := HIP.out q (mem_at hq)
      have hxb := HP.out.weeks x (mem_at hx)
      obtain ⟨p, hp⟩ : ∃ p, p = Price.earnPrice q0 q1 q := ⟨_, rfl⟩
      have hpx : ps[k]? = some p := by rw [HPS.out, List.getElem?_map, hq, hp]; rfl
      have hpb := HPB.out p (mem_at hpx)
      have e1 := Price.earns_drop (fall := fall) hpx hx
      have e2 := Price.earns_drop (fall := 0) hpx hx
      have hpr : Price.price (Price.earnList q0 q1) q = (p, 0) := by
        unfold Price.price
        rw [if_pos (Price.earn_check (by omega) (by omega)), if_pos hqi, hp]
        exact Price.earn_priced (by omega) (by omega) q
      have HPR := Lib.hid (fun (W : World) (h : Below w9.heap.size w9 W) => price_spec (some ⟨w4.heap.size, 0, none⟩) (Price.earnList q0 q1) 2 q W (by simp [Price.earnList, big]) (by simp [Price.earnList]) (hl9.below h))
      rw [hpr] at HPR
      have hB := hB9.under hbw
      have g0 := hB.cell 0
      have g2 := hB.lt
      have hbm9 := hbw
      have hf' := hf.out
      rw [e1, e2] at hf'
      have HF := Lib.hid hf'
      clear hf hf' e1 e2 hp hpr hqs hqi hx hq hpx hB
      obtain ⟨qa, qb, qc⟩ := q
      dsimp only at *
      have hpn : ¬ p < 0 := by omega
      by_cases hxn : x = -1
      · subst hxn
        rw [Price.rate_none, Price.rate_none] at HF
        go_wp2_with (go_at_call 28; refine (HPR.out _ hbw).mono ?_; rintro e w10 ⟨rfl, hb10⟩)
        go_roundw
        case rel => exact ⟨k + 1, wa, so, by omega, by go_num, rfl, rfl, by omega, by omega, by omega, by omega, hbw.next hb10 (Nat.le_refl _), by have := HF.out; exact ⟨by omega, by omega⟩⟩
        case measure => simp [intOf]; omega
      · have hxn' : (x != -1) = true := bne_iff_ne.2 hxn
        have hr : Price.rate fall x = max 0 (100 - fall * x) := by unfold Price.rate; rw [if_neg hxn]
        rw [hr, Price.rate_zero hxn] at HF
        have hm0 : 0 ≤ fall * x := Int.mul_nonneg hf0 (by omega)
        have hm1 : fall * x ≤ 30 * 8 := Int.mul_le_mul hf1 (by omega) (by omega) (by omega)
        have hm2 : 0 ≤ p * max 0 (100 - fall * x) := Int.mul_nonneg hpb.1 (by omega)
        have hm3 : p * max 0 (100 - fall * x) ≤ 60 * 100 := Int.mul_le_mul hpb.2 (by omega) (by omega) (by omega)
        clear hr
        go_wp2_with (go_at_call 28; refine (HPR.out _ hbw).mono ?_; rintro e w10 ⟨rfl, hb10⟩; obtain ⟨t, tf, tl, te, tn, tx⟩ := aft hb10 (w6.heap.size) (by (try simp [go_sem]); (try omega)); (try simp [go_sem] at t tf))
        go_roundw
        case rel => exact ⟨k + 1, wa + p * max 0 (100 - fall * x), so + 100 * p, by omega, by go_num, rfl, rfl, by omega, by omega, by omega, by omega, hbw.next hb10 (Nat.le_refl _), by have := HF.out; exact ⟨by omega, by omega⟩⟩
        case measure => simp [intOf]; omega
    · obtain rfl : k = stock.length := by omega
      have hf' := hf.out
      rw [List.drop_of_length_le (by rw [HPL.out]; exact Nat.le_refl _)] at hf'
      simp only [Price.earns, Int.add_zero] at hf'
      obtain ⟨rfl, rfl⟩ := hf'
      have hB := hB9.under hbw
      have g0 := hB.cell 0
      have g1 := hB.cell 1
      have g2 := hB.lt
      have g3 := hB.frozen
      have hne : (wa != wa) = false := by simp
      have hbr : Below w.heap.size w wr := hb09.next hbw (Nat.le_refl _)
      have hl10 := (hl9.below hbw).setFar (p := ⟨w6.heap.size, 0, none⟩) (fun b off s h => by cases h; simp; omega) (iv 0)
      have hsb10 := (hsb9.below hbw).setFar (p := ⟨w6.heap.size, 0, none⟩) hF6b (iv 0)
      have hss10 := (hss9.below hbw).setFar (p := ⟨w6.heap.size, 0, none⟩) hF6s (iv 0)
      have hsp10 := (hsp9.below hbw).setFar (p := ⟨w6.heap.size, 0, none⟩) hF6p (iv 0)
      have hB10 := hB.set_ 0 (iv 0)
      have hb10 : Below w.heap.size w (wr.setCell ⟨w6.heap.size, 0, none⟩ (iv 0)) := hbr.setCell (by simp; omega) _
      have H2 := Lib.hid (HE.out _ 0 Ap plan stock.length cp HPN.out.symm (by rw [HPN.out]; omega) hl10 hsb10 hss10 hsp10)
      rw [HV.out 0 (by omega)] at H2
      have HB10 := Lib.hid hB10
      rw [← HE0.out] at H2
      clear hB10 hbr
      go_wp2_with fail
      refine H2.out.mono ?_
      rintro e w11 ⟨rfl, hb11⟩
      have hl11 := hl10.below hb11
      have hsb11 := hsb10.below hb11
      have hss11 := hss10.below hb11
      have hsp11 := hsp10.below hb11
      have hB11 := HB10.out.under hb11
      have hb011 := hb10.next hb11 (Nat.le_refl _)
      have hnf : (so != so) = false := by simp
      clear hl10 hsb10 hss10 hsp10 hb11 hb10 g0 g1 g2 g3 H2 HB10
      have HC := cloneI Ap plan cp w11 (by rw [HPN.out]; unfold big; omega) hsp11
      rw [HPN.out] at HC
      go_wp2_with fail
      refine HC.mono ?_
      rintro e w12 ⟨v19, rfl, ho12, hb12⟩
      have HOW := Lib.hid ho12
      have hz12 := hb12.size
      clear HC hsp11
      have hn1 : IntKind.i64.wrap ((stock.length : Int) + 1) = (stock.length : Int) + 1 := IntWalk.i64_in _ (by omega)
      clear ho12
      go_wp2_with fail
      go_loopw [19, 117] (fun v i wr => ∃ (k : Nat) (fl : List Int), k ≤ stock.length + 1 ∧ i = iv k ∧ Own intE 3 w11.heap.size wr v fl ∧ fl.length = stock.length + k ∧ Below w11.heap.size w12 wr) (fun _ i _ => stock.length + 1 - (intOf i).toNat)
      case atStart => exact ⟨0, plan, by omega, rfl, HOW.out, HPN.out, Below.refl _ _⟩
      case round =>
        obtain ⟨k2, fl, hk2, rfl, hofl, hfl, hbw2⟩ := hrel
        have hzr := hbw2.size
        by_cases hlt2 : k2 < stock.length + 1
        · have hlt2' : (k2 : Int) < (stock.length : Int) + 1 := by omega
          have HFL := Lib.hid hfl
          have hfl20 : fl.length ≤ 30 := by omega
          clear hfl
          go_wp2_with (first
            | (at_builtin; refine wpApp1 intE tyInts rfl _ _ rfl hofl (-1) rfl rfl rfl (by omega) (by unfold big; omega) ?_; intro v' w13 hown13 hb13 hk13))
          clear hk13
          go_roundw
          case rel => exact ⟨k2 + 1, fl ++ [-1], by omega, by go_num, hown13, by have := HFL.out; simp; omega, hbw2.trans hb13⟩
          case measure => simp [intOf]; omega
        · have hlt2' : ¬ (k2 : Int) < (stock.length : Int) + 1 := by omega
          obtain ⟨Af, cf, rfl, _, _⟩ := hofl.form
          have hfne : fl.length ≠ stock.length := by omega
          have hfl30 : fl.length ≤ 1000 := by omega
          clear hfl
          have hbb := hb12.trans hbw2
          have hBw := hB11.under hbb
          have s0 := hBw.cell 0
          have s1 := hBw.cell 1
          have s2 := hBw.lt
          have hfe : Price.earnsOf (Price.earnList q0 q1) 0 bought stock fl = (0, 2) := by
            have h1 : Price.planErr (Price.earnList q0 q1) 0 bought stock fl = 2 := Price.planErr_long (HOPEN.out 0 (by omega)) hfne
            unfold Price.earnsOf
            rw [if_neg (by omega), h1]
          have H3 := Lib.hid (HE.out wr 0 Af fl fl.length cf rfl hfl30 (hl11.below hbb) (hsb11.below hbb) (hss11.below hbb) hofl.sl)
          rw [hfe] at H3
          have hbwr := hb011.next hbb (Nat.le_refl _)
          clear hfne hfe hofl hBw hB11 hl11 hsb11 hss11 hb011 hb12 hbw2 hbb
          go_wp2_with fail
          with_reducible refine H3.out.mono ?_
          rintro e w14 ⟨rfl, hb14⟩
          have HAW := Lib.hid (awake_spec w14)
          go_wp2_with (go_at_call 20; refine HAW.out.mono ?_; rintro e w15 ⟨rfl, hb15⟩)
          go_ret
          exact ⟨rfl, (hbwr.next hb14 (Nat.le_refl _)).next hb15 (Nat.le_refl _)⟩
end Go.Proofs.Ytblmlpkjocbhpaa
