/- PriceLater returns true. -/
import Derived.Test.YtblmlpkjocbhpaaLaterP
import Derived.Test.YtblmlpkjocbhpaaSoldW
import Derived.Test.YtblmlpkjocbhpaaOpen
import Derived.Deep.DeepCutAuto
set_option linter.unusedVariables false
set_option linter.unusedSimpArgs false
namespace Go.Proofs.Ytblmlpkjocbhpaa
open Go.RowKit Go.Shelf
set_option maxRecDepth 100000
theorem Own.ne_blk {α : Type} {E : Enc α} {e t : TypeId} {B : Nat} {w : World} {v : Value} {xs : List α} {g : Nat} {cs : Array Value} (h : Own E e B w v xs) (hb : Blk w g t cs) (ht : t ≠ e) : v.ownBlock ≠ some g := fun hv => by
  rcases h.2 with ⟨rfl, _⟩ | ⟨g', cap, cur, rfl, _, hg, _⟩
  · cases hv
  · have hg' : g' = g := by simpa [Value.ownBlock] using hv
    unfold Blk at hb
    rw [hg', hb] at hg
    injection hg with hg
    injection hg with _ h2 _
    exact ht h2
/-- What a wider sale buys. -/
structure Wider (bought b3 : List Int) : Prop where
  len : b3.length ≤ 8
  more : bought.length ≤ b3.length
  le : ∀ k, (hk : k < bought.length) → (hk' : k < b3.length) → bought[k] ≤ b3[k]
  bnd : ∀ m ∈ b3, 0 ≤ m ∧ m ≤ 9
theorem wider_set {bought : List Int} (hl : bought.length ≤ 8) (hb : ∀ m ∈ bought, 0 ≤ m ∧ m ≤ 3) (j d : Nat) (hd : d ≤ 2) : Wider bought (bought.set j (bought.getD j 0 + d)) := by
  refine ⟨by simpa using hl, by simp, fun k hk hk' => ?_, fun m hm => ?_⟩
  · rw [List.getElem_set]
    split
    · rename_i e
      subst e
      simp [List.getD_eq_getElem?_getD, List.getElem?_eq_getElem hk]; omega
    · omega
  · rcases List.mem_or_eq_of_mem_set hm with hm | rfl
    · have := hb m hm; omega
    · by_cases hj : j < bought.length
      · have := hb _ (List.getElem_mem hj)
        simp only [List.getD_eq_getElem?_getD, List.getElem?_eq_getElem hj, Option.getD_some]; omega
      · simp only [List.getD_eq_getElem?_getD, List.getElem?_eq_none (Nat.le_of_not_lt hj), Option.getD_none]; omega
theorem Wider.snoc {bought b3 : List Int} (h : Wider bought b3) (hl : b3.length < 8) (d : Nat) (hd : d ≤ 4) : Wider bought (b3 ++ [(d : Int)]) := by
  refine ⟨by simp; omega, by have := h.more; simp; omega, fun k hk hk' => ?_, fun m hm => ?_⟩
  · have hk3 : k < b3.length := Nat.lt_of_lt_of_le hk h.more
    rw [List.getElem_append_left hk3]
    exact h.le k hk hk3
  · rcases List.mem_append.1 hm with hm | hm
    · exact h.bnd m hm
    · rw [List.mem_singleton.1 hm]; omega
set_option maxHeartbeats 4000000 in
theorem later_walk (A : Option Addr) (bs : List Int) (c : Nat) (m : Int) (w : World) (hs : Sl byteE w A bs) (hm : 0 ≤ m ∧ m ≤ 255) :
    Calls Try.prog 3 #[.slice A bs.length c, .int .u8 m] w fun e w' => e = .returned (.bool true) ∧ Below w.heap.size w w' := by
  obtain ⟨mn, rfl⟩ := Int.eq_ofNat_of_zero_le hm.1
  go_enter Try.func3, Try.ntmps3
  go_wp2_with fail
  refine (wound_spec A bs c w hs).mono ?_
  rintro e w1 ⟨g, rfl, rfl, hsp1, hb1⟩
  go_wp2_with fail
  refine (upto_spec _ w1 _ 0 20 hsp1 (by omega) (by omega)).mono ?_
  rintro e w2 ⟨p0, rfl, hp0, hsp2, ho2⟩
  go_wp2_with fail
  refine (upto_spec _ w2 _ _ 40 hsp2 (by omega) (by omega)).mono ?_
  rintro e w3 ⟨p1, rfl, hp1, hsp3, ho3⟩
  go_wp2_with fail
  refine (upto_spec _ w3 _ _ 40 hsp3 (by omega) (by omega)).mono ?_
  rintro e w4 ⟨p2, rfl, hp2, hsp4, ho4⟩
  have ho := (ho2.trans ho3).trans ho4
  have hb4 : Below w.heap.size w w4 := hb1.trans ho.below
  have hgl := hsp4.2.1
  clear hb1 ho ho2 ho3 ho4 hsp1 hsp2 hsp3
  go_wp2_with fail
  have hb5 : Below w4.heap.size w4 (w4.alloc (.cells #[iv (-1), iv (-1), iv (-1), iv p0, iv 1, iv (-1), iv (-1), iv p1, iv 2, iv (-1), iv (-1), iv p2] 27)) := (Below.refl _ _).alloc (Nat.le_refl _) _
  have hl5 : Sl ruleE (w4.alloc (.cells #[iv (-1), iv (-1), iv (-1), iv p0, iv 1, iv (-1), iv (-1), iv p1, iv 2, iv (-1), iv (-1), iv p2] 27)) (some ⟨w4.heap.size, 0, none⟩) (Price.laterList p0 p1 p2) := Sl.fresh ruleE w4 _ _ _ rfl (by simp [Price.laterList, maxLen])
  have hz5 : (w4.alloc (.cells #[iv (-1), iv (-1), iv (-1), iv p0, iv 1, iv (-1), iv (-1), iv p1, iv 2, iv (-1), iv (-1), iv p2] 27)).heap.size = w4.heap.size + 1 := by simp
  generalize w4.alloc (.cells #[iv (-1), iv (-1), iv (-1), iv p0, iv 1, iv (-1), iv (-1), iv p1, iv 2, iv (-1), iv (-1), iv p2] 27) = w5 at *
  have hsp5 := hsp4.below hb5 hgl
  have hb05 : Below w.heap.size w w5 := hb4.next hb5 (Nat.le_refl _)
  have H := sold_spec (some ⟨w4.heap.size, 0, none⟩) (Price.laterList p0 p1 p2) 3 _ w.heap.size _ w5 (by simp [Price.laterList, big]) hl5 (fun b off s h => by cases h; omega) hsp5 (by omega)
  refine H.mono ?_
  rintro e w6 ⟨fall, bought, stock, vb, vs, k', rfl, hf0, hf1, hbl, hbl8, hbm, hsl, hsm, hob, hos, _, _, ho6⟩
  have hl6 := hl5.only (g := w.heap.size) (fun b off s h => by cases h; omega) ho6
  have hb06 : Below w.heap.size w w6 := hb05.trans ho6.below
  obtain ⟨Ab, cb, rfl, hcb, hcbm⟩ := hob.form
  obtain ⟨As, cs, rfl, hcs, hcsm⟩ := hos.form
  have hsb := hob.sl
  have hss := hos.sl
  have hz6 := ho6.below.size
  clear hb4 hb5 hl5 hsp4 hsp5 hb05 H ho6 hob hos
  go_wp2_with fail
  have hb7 : Below w6.heap.size w6 (w6.alloc (.cells #[iv fall, .slice Ab bought.length cb] 31)) := (Below.refl _ _).alloc (Nat.le_refl _) _
  have hB7 : Blk (w6.alloc (.cells #[iv fall, .slice Ab bought.length cb] 31)) w6.heap.size 31 #[iv fall, .slice Ab bought.length cb] := Blk.new _ _ _
  generalize w6.alloc (.cells #[iv fall, .slice Ab bought.length cb] 31) = w7 at *
  have hl7 := hl6.below hb7
  have hsb7 := hsb.below hb7
  have hss7 := hss.below hb7
  have hb07 := hb06.next hb7 (Nat.le_refl _)
  clear hl6 hsb hss hb7 hb06
  obtain ⟨ps, hps⟩ : ∃ ps, ps = stock.map (Price.laterPrice p0 p1 p2) := ⟨_, rfl⟩
  have hip : ∀ q ∈ stock, Price.isP q = true := fun q hq => by
    have := hsm q hq
    simp only [Price.isP, Price.inB, Bool.and_eq_true, decide_eq_true_eq]
    omega
  have hst : Price.stocked (Price.laterList p0 p1 p2) stock = (ps, 0) := by rw [hps]; exact Price.later_stocked (by omega) (by omega) (by omega) stock hip
  obtain ⟨E1, hE1⟩ : ∃ E1, E1 = Price.earns fall ps (Price.bestPlan ps bought) := ⟨_, rfl⟩
  have hbest : Price.bestOf (Price.laterList p0 p1 p2) fall bought stock = (Price.bestPlan ps bought, E1, 0) := by
    unfold Price.bestOf
    rw [if_pos (Price.later_open (by omega) (by omega) (by omega) ⟨hf0, hf1⟩ ⟨hbl, hbl8⟩ (fun m hm => by have := hbm m hm; omega) hsl hip), hst, hE1]
  have H := Best_spec (some ⟨w4.heap.size, 0, none⟩) (Price.laterList p0 p1 p2) 3 fall Ab bought cb As stock cs w7 (by simp [Price.laterList, big]) (by simp [Price.laterList]) hl7 (by unfold big; omega) hsb7 (by unfold big; omega) hss7
  rw [hbest] at H
  have HPS := Lib.hid hps
  have HIP := Lib.hid hip
  have HE1 := Lib.hid hE1
  have HSM := Lib.hid hsm
  have HBM := Lib.hid hbm
  clear hps hip hst hE1 hbest hsm hbm
  refine H.mono ?_
  rintro e w8 ⟨v8, rfl, _, hb8⟩
  have hB8 := hB7.under hb8
  have hl8 := hl7.below hb8
  have hsb8 := hsb7.below hb8
  have hss8 := hss7.below hb8
  have hb08 := hb07.next hb8 (Nat.le_refl _)
  clear H hB7 hl7 hsb7 hss7 hb07 hb8
  have f0 := hB8.cell 0
  have f1 := hB8.cell 1
  have f2 := hB8.lt
  go_upto_region 7 with fail
  go_cut [12] (fun s wx => ∃ (g2 : Nat) (vb2 : Value), s = .pointer (some ⟨g2, 0, none⟩) ∧ Blk wx g2 31 #[iv (max 0 (fall - (mn : Int) % 4)), vb2] ∧ Own intE 3 w8.heap.size wx vb2 bought ∧ w8.heap.size ≤ g2 ∧ vb2.ownBlock ≠ some g2 ∧ Below w8.heap.size w8 wx)
  case first =>
    have HC : Hid (∀ W, Below w8.heap.size w8 W → Calls Try.prog 19 #[.slice Ab bought.length cb] W fun e w' => ∃ v, e = .returned v ∧ Own intE 3 W.heap.size w' v bought ∧ Below W.heap.size W w') := fun W hW => cloneI Ab bought cb W (by unfold big; omega) (hsb8.below hW)
    have HS : Hid (∀ a : World, Below w8.heap.size w8 a → Below w8.heap.size w8 a ∧ (a.cell? ⟨w6.heap.size, 0, none⟩ = some (iv fall) ∧ a.cell? ⟨w6.heap.size, 1, none⟩ = some (.slice Ab bought.length cb))) := fun a h => ⟨h, (hB8.under h).cell 0, (hB8.under h).cell 1⟩
    have HK0 : Hid (Below w8.heap.size w8 w8.drew ∧ (w8.drew.cell? ⟨w6.heap.size, 0, none⟩ = some (iv fall) ∧ w8.drew.cell? ⟨w6.heap.size, 1, none⟩ = some (.slice Ab bought.length cb))) := ⟨(Below.refl _ _).drew, f0, f1⟩
    have hwm : IntKind.i64.wrap (mn : Int) = (mn : Int) := IntWalk.i64_in _ (by omega)
    have hmm : (mn : Int).tmod 4 = (mn : Int) % 4 := Int.tmod_eq_emod_of_nonneg hm.1
    have hwf : IntKind.i64.wrap (fall - (mn : Int) % 4) = fall - (mn : Int) % 4 := IntWalk.i64_in _ (by omega)
    go_region_held3 (fun a => Below w8.heap.size w8 a ∧ (a.cell? ⟨w6.heap.size, 0, none⟩ = some (iv fall) ∧ a.cell? ⟨w6.heap.size, 1, none⟩ = some (.slice Ab bought.length cb))) (first | assumption | exact HK0.out | exact HS.out _ ((Below.refl _ w8).drew.alloc (Nat.le_refl _) _) | exact HS.out _ HX'.out | exact HS.out _ (HX'.out.alloc HX'.out.size _) | exact HS.out _ ((HX'.out.setCell (Nat.le_refl _) _).setCell (Nat.le_refl _) _))
      (first
        | (go_at_call 19; refine (HC.out _ (And.left ‹Below w8.heap.size w8 _ ∧ _›)).mono ?_; rintro e w' ⟨v, rfl, hown, hbx⟩; have HX' := Lib.hid ((And.left ‹Below w8.heap.size w8 _ ∧ _›).next hbx (Nat.le_refl _)); obtain ⟨A', c', rfl, _, _⟩ := hown.form; (try (have hB9 := Blk.under (Blk.new_ w8.drew 31 #[iv 0, .slice none 0 0] (g := w8.heap.size) rfl) hbx; have HB9 := Lib.hid hB9; obtain ⟨n0, n1, n2, n3, n4, n5⟩ := hB9.facts; clear hB9))))
    all_goals
      go_wp2_with fail
      go_meet
      first
        | exact ⟨w'.heap.size, _, rfl, Blk.new _ _ _, (hown.below ((Below.refl _ _).alloc (Nat.le_refl _) _)).base (by first | exact Nat.le_refl _ | (simp only [World.size_alloc]; exact Nat.le_succ _)), HX'.out.size, fun e => Nat.lt_irrefl _ ((hown.lt _ e).2), HX'.out.alloc HX'.out.size _⟩
        | exact ⟨w8.heap.size, _, rfl, (HB9.out.set_ 0 _).set_ 1 _, ((hown.setCell (p := ⟨w8.heap.size, 0, none⟩) (by simp) _).setCell (p := ⟨w8.heap.size, 1, none⟩) (by simp) _).base (by simp), Nat.le_refl _, fun e => by (have := (hown.lt _ e).1; simp at this; omega), (HX'.out.setCell (Nat.le_refl _) _).setCell (Nat.le_refl _) _⟩
  case rest =>
    obtain ⟨g2, vb2, rfl, hB9, how9, hg2, hne9, hb9⟩ := hcut
    have hne : bought ≠ [] := fun e => by rw [e] at hbl; simp at hbl
    obtain ⟨gb, c9, rfl⟩ := how9.some_ hne
    have hgb : gb ≠ g2 := fun e => hne9 (by rw [e]; rfl)
    obtain ⟨jj, hjj⟩ : ∃ jj, jj = mn % bought.length := ⟨_, rfl⟩
    have hjl : jj < bought.length := by rw [hjj]; exact Nat.mod_lt _ (by omega)
    obtain ⟨d3, hd3⟩ : ∃ d3, d3 = mn % 3 := ⟨_, rfl⟩
    obtain ⟨d5, hd5⟩ : ∃ d5, d5 = mn % 5 := ⟨_, rfl⟩
    have hd3' : d3 ≤ 2 := by omega
    have hd5' : d5 ≤ 4 := by omega
    obtain ⟨x, hx⟩ : ∃ x, x = bought.getD jj 0 := ⟨_, rfl⟩
    have hxb : 0 ≤ x ∧ x ≤ 3 := by
      rw [hx, List.getD_eq_getElem?_getD, List.getElem?_eq_getElem hjl]
      exact HBM.out _ (List.getElem_mem hjl)
    obtain ⟨fz, hBg, hgl9, hce, hst⟩ := how9.store jj hjl (x + d3)
    rw [← hx] at hce
    have HX := Lib.hid hx
    have hwm : IntKind.i64.wrap (mn : Int) = (mn : Int) := IntWalk.i64_in _ (by omega)
    have htl : (mn : Int).tmod (bought.length : Int) = (jj : Int) := by rw [Int.tmod_eq_emod_of_nonneg (by omega), hjj]; rfl
    have ht3 : (mn : Int).tmod 3 = (d3 : Int) := by rw [Int.tmod_eq_emod_of_nonneg (by omega), hd3]; rfl
    have hml : (mn : Int) % (bought.length : Int) = (jj : Int) := by rw [hjj]; rfl
    have hm3 : (mn : Int) % 3 = (d3 : Int) := by rw [hd3]; rfl
    have hws : IntKind.i64.wrap (x + d3) = x + d3 := IntWalk.i64_in _ (by omega)
    have hn0 : ¬ (bought.length : Int) = 0 := by omega
    have hn0' : ((bought.length : Int) == 0) = false := by simp; omega
    have hji : (jj : Int) < (bought.length : Int) := by omega
    have q0 := hB9.cell 0
    have q1 := hB9.cell 1
    have q2 := hB9.lt
    have q3 := hB9.frozen
    have hb09 := hb08.next hb9 (Nat.le_refl _)
    have HB9 := Lib.hid hB9
    have HST := Lib.hid hst
    have HD5 := Lib.hid hd5
    clear how9 hB9 hx hst hjj f0 f1 f2 hd3 hd5
    go_wp2_with fail
    go_region
    have hW9 : Wider bought (bought.set jj (x + d3)) := by rw [HX.out]; exact wider_set hbl8 HBM.out jj d3 hd3'
    have hl9 : (bought.set jj (x + d3)).length = bought.length := by simp
    have hb10 : Below w8.heap.size w8 ((wc.setCell ⟨gb, jj, none⟩ (iv (x + d3))).drew) := (hb9.setCell hBg _).drew
    have hB10 : Blk ((wc.setCell ⟨gb, jj, none⟩ (iv (x + d3))).drew) g2 31 #[iv (max 0 (fall - (mn : Int) % 4)), .slice (some ⟨gb, 0, none⟩) bought.length c9] := HB9.out.far (p := ⟨gb, jj, none⟩) (fun e => hgb e.symm) _
    have hO10 : Own intE 3 w8.heap.size ((wc.setCell ⟨gb, jj, none⟩ (iv (x + d3))).drew) (.slice (some ⟨gb, 0, none⟩) bought.length c9) (bought.set jj (x + d3)) := HST.out.keep (Nat.le_refl _) fun _ _ => rfl
    generalize (wc.setCell ⟨gb, jj, none⟩ (iv (x + d3))).drew = w10 at *
    generalize bought.set jj (x + d3) = b9 at *
    clear hb9 HB9 HST fz hgl9 hce q0 q1 q2 q3 hws hji hml hm3 htl ht3 hb09
    have q0 := hB10.cell 0
    have q1 := hB10.cell 1
    have q2 := hB10.lt
    have q3 := hB10.frozen
    have HB10 := Lib.hid hB10
    have HO10 := Lib.hid hO10
    have HL9 := Lib.hid hl9
    clear hB10 hO10 hl9
    go_upto_if 74 with fail
    go_cut [] (fun wx => ∃ (vb3 : Value) (b3 : List Int), Blk wx g2 31 #[iv (max 0 (fall - (mn : Int) % 4)), vb3] ∧ Own intE 3 w8.heap.size wx vb3 b3 ∧ Wider bought b3 ∧ Below w8.heap.size w8 wx)
    case first =>
      have hwm : IntKind.i64.wrap (mn : Int) = (mn : Int) := IntWalk.i64_in _ (by omega)
      have ht5 : (mn : Int).tmod 5 = (d5 : Int) := by rw [Int.tmod_eq_emod_of_nonneg (by omega), HD5.out]; rfl
      have hm5 : (mn : Int) % 5 = (d5 : Int) := by rw [HD5.out]; rfl
      by_cases h8 : bought.length < 8
      · go_wp2_with (first
          | (at_builtin; refine wpApp1 intE tyInts rfl _ _ rfl HO10.out (d5 : Int) rfl rfl rfl hb10.size (by rw [HL9.out]; unfold big; omega) ?_; intro v' w11 hown11 hb11 hk11; obtain ⟨A11, c11, rfl, _, _⟩ := hown11.form; have B11 : Blk w11 g2 _ _ := (hk11 g2 q2 (fun e => hgb (by simpa [Value.ownBlock] using e))).trans HB10.out; have r0 := B11.cell 1; have r1 := B11.frozen; have r2 := B11.lt; have HB11 := Lib.hid B11; clear B11 hk11; simp only [List.length_append, List.length_cons, List.length_nil, Nat.zero_add] at hown11; have HO11 := Lib.hid (hown11.keep (w' := w11.setCell ⟨g2, 1, none⟩ (.slice A11 (b9.length + 1) c11)) (by simp [World.setCell]) (fun b hb => Below.heap_setCell w11 ⟨g2, 1, none⟩ _ b (fun e => hown11.ne_blk HB11.out (by decide) (by rw [hb, e]))))))
        go_meet
        exact ⟨_, b9 ++ [(d5 : Int)], HB11.out.set_ 1 _, HO11.out, hW9.snoc (by rw [HL9.out]; exact h8) d5 hd5', (hb10.trans hb11).setCell (by exact hg2) _⟩
      · go_wp2_with fail
        go_meet
        exact ⟨_, b9, HB10.out, HO10.out, hW9, hb10⟩
    case rest =>
      obtain ⟨vb3, b3, hB11, hO11, hW, hb11⟩ := hcut
      obtain ⟨Ab3, cb3, rfl, hcb3, _⟩ := hO11.form
      obtain ⟨F2, hF2⟩ : ∃ F2, F2 = max 0 (fall - (mn : Int) % 4) := ⟨_, rfl⟩
      have hF2b : 0 ≤ F2 ∧ F2 ≤ fall := by omega
      rw [← hF2] at hB11
      have hsb3 := hO11.sl
      have hb011 := hb08.next hb11 (Nat.le_refl _)
      have hl11 := hl8.below hb11
      have hss11 := hss8.below hb11
      have hbn : ∀ m ∈ bought, 0 ≤ m := fun m hm => (HBM.out m hm).1
      have hpb : ∀ p ∈ ps, 0 ≤ p ∧ p ≤ 40 := fun p hp => by
        rw [HPS.out] at hp
        obtain ⟨q, _, rfl⟩ := List.mem_map.1 hp
        exact Price.later_bounds (by omega) (by omega) (by omega) q
      have hst : Price.stocked (Price.laterList p0 p1 p2) stock = (ps, 0) := by rw [HPS.out]; exact Price.later_stocked (by omega) (by omega) (by omega) stock HIP.out
      obtain ⟨E2, hE2⟩ : ∃ E2, E2 = Price.earns F2 ps (Price.bestPlan ps b3) := ⟨_, rfl⟩
      have h12 : E1 ≤ E2 := by
        rw [hE2, HE1.out]
        exact Price.later_wider hF2b.1 hF2b.2 hbn (fun m hm => (hW.bnd m hm).1) (fun p hp => by have := hpb p hp; omega) hW.more hW.le
      have hlen3 : 1 ≤ b3.length ∧ b3.length ≤ 8 := ⟨Nat.le_trans hbl hW.more, hW.len⟩
      have hbest : Price.bestOf (Price.laterList p0 p1 p2) F2 b3 stock = (Price.bestPlan ps b3, E2, 0) := by
        unfold Price.bestOf
        rw [if_pos (Price.later_open (by omega) (by omega) (by omega) ⟨hF2b.1, by omega⟩ hlen3 hW.bnd hsl HIP.out), hst, hE2]
      have HBB := Lib.hid (Best_spec (some ⟨w4.heap.size, 0, none⟩) (Price.laterList p0 p1 p2) 3 F2 Ab3 b3 cb3 As stock cs wc (by simp [Price.laterList, big]) (by simp [Price.laterList]) hl11 (by unfold big; omega) hsb3 (by unfold big; omega) hss11)
      rw [hbest] at HBB
      have HF2 := Lib.hid hF2
      have HE2 := Lib.hid hE2
      have HW := Lib.hid hW
      have HPB := Lib.hid hpb
      have HBN := Lib.hid hbn
      have hnlt : ¬ E2 < E1 := by omega
      have r0 := hB11.cell 0
      have r1 := hB11.cell 1
      have r2 := hB11.lt
      clear hF2 hE2 hbest hst hW hpb hbn
      go_wp2_with fail
      refine HBB.out.mono ?_
      rintro e w12 ⟨v12, rfl, _, hb12⟩
      have hB12 := hB11.under hb12
      have hl12 := hl11.below hb12
      have hss12 := hss11.below hb12
      have hsb12 := hsb3.below hb12
      have hb012 := hb011.next hb12 (Nat.le_refl _)
      have s0 := hB12.cell 0
      have s1 := hB12.cell 1
      have s2 := hB12.lt
      clear r0 r1 r2 hB11 hl11 hss11 hsb3 hb12 hb11 hb011 hO11 hl8 hsb8 hss8 hB8 HBB
      by_cases h10 : stock.length = 10
      · have h10' : ((stock.length : Int) == 10) = true := by simp; omega
        have HA := Lib.hid (awake_spec w12)
        have H10 := Lib.hid h10
        clear h10
        go_wp2_with (go_at_call 20; refine HA.out.mono ?_; rintro e w13 ⟨rfl, hb13⟩)
        go_ret
        exact ⟨rfl, hb012.next hb13 (Nat.le_refl _)⟩
      · have h10' : ((stock.length : Int) == 10) = false := by simp; omega
        obtain ⟨d4, hd4⟩ : ∃ d4, d4 = mn % 4 := ⟨_, rfl⟩
        have hd4' : d4 ≤ 3 := by omega
        have hwm : IntKind.i64.wrap (mn : Int) = (mn : Int) := IntWalk.i64_in _ (by omega)
        have ht4 : (mn : Int).tmod 4 = (d4 : Int) := by rw [Int.tmod_eq_emod_of_nonneg (by omega), hd4]; rfl
        have hm4 : (mn : Int) % 4 = (d4 : Int) := by rw [hd4]; rfl
        clear hd4
        have hip' : ∀ q ∈ stock ++ [(⟨d4, 0, 0⟩ : Piece)], Price.isP q = true := fun q hq => by
          rcases List.mem_append.1 hq with hq | hq
          · exact HIP.out q hq
          · rw [List.mem_singleton.1 hq]
            simp only [Price.isP, Price.inB, Bool.and_eq_true, decide_eq_true_eq]
            omega
        have hlen' : (stock ++ [(⟨d4, 0, 0⟩ : Piece)]).length = stock.length + 1 := by simp
        obtain ⟨px, hpx⟩ : ∃ px, px = Price.laterPrice p0 p1 p2 ⟨d4, 0, 0⟩ := ⟨_, rfl⟩
        have hpxb : 0 ≤ px ∧ px ≤ 40 := by rw [hpx]; exact Price.later_bounds (by omega) (by omega) (by omega) _
        have hst : Price.stocked (Price.laterList p0 p1 p2) (stock ++ [⟨d4, 0, 0⟩]) = (ps ++ [px], 0) := by
          rw [Price.later_stocked (by omega) (by omega) (by omega) _ hip', HPS.out, hpx]; simp
        obtain ⟨E3, hE3⟩ : ∃ E3, E3 = Price.earns F2 (ps ++ [px]) (Price.bestPlan (ps ++ [px]) b3) := ⟨_, rfl⟩
        have hbest : Price.bestOf (Price.laterList p0 p1 p2) F2 b3 (stock ++ [⟨d4, 0, 0⟩]) = (Price.bestPlan (ps ++ [px]) b3, E3, 0) := by
          unfold Price.bestOf
          rw [if_pos (Price.later_open (by omega) (by omega) (by omega) ⟨hF2b.1, by omega⟩ hlen3 HW.out.bnd (by omega) hip'), hst, hE3]
        have h23 : E2 ≤ E3 ∧ E3 ≤ E2 + px * 100 := by
          rw [hE3, HE2.out]
          exact Price.later_more hF2b.1 (fun m hm => (HW.out.bnd m hm).1) (fun p hp => by have := HPB.out p hp; omega) ⟨hpxb.1, by omega⟩
        have h24 : E3 ≤ E2 + 4000 := by omega
        have hE0 : 0 ≤ E2 ∧ E2 ≤ 1000000 := by
          obtain ⟨k1, k2, _⟩ := Price.best_ok hF2b.1 (prices := ps) (fun m hm => (HW.out.bnd m hm).1)
          have k3 := Price.earns_bounds hF2b.1 (by omega) ps (Price.bestPlan ps b3) (fun p hp => by have := HPB.out p hp; omega) (fun x hx => by have := k2.weeks x hx; omega)
          have k4 : ps.length = stock.length := by rw [HPS.out]; simp
          rw [← HE2.out, k1, k4] at k3
          omega
        have h23a := h23.1
        have HBB : Hid (∀ W A' c', Below w12.heap.size w12 W → Sl pieceE W A' (stock ++ [⟨d4, 0, 0⟩]) → Calls Try.prog 18 #[.slice (some ⟨w4.heap.size, 0, none⟩) 3 3, saleV F2 Ab3 b3.length cb3, .slice A' (stock.length + 1) c'] W fun e w' => ∃ v, e = .returned (.tuple #[v, iv E3, iv 0]) ∧ Below W.heap.size W w') := fun W A' c' hW hA => by
          have := Best_spec (some ⟨w4.heap.size, 0, none⟩) (Price.laterList p0 p1 p2) 3 F2 Ab3 b3 cb3 A' (stock ++ [⟨d4, 0, 0⟩]) c' W (by simp [Price.laterList, big]) (by simp [Price.laterList]) (hl12.below hW) (by unfold big; omega) (hsb12.below hW) (by unfold big; omega) hA
          rw [hbest, hlen'] at this
          exact this.mono fun e w' ⟨v, he, _, hb⟩ => ⟨v, he, hb⟩
        have HC : Hid (∀ W, Below w12.heap.size w12 W → Calls Try.prog 21 #[.slice As stock.length cs] W fun e w' => ∃ v, e = .returned v ∧ Own pieceE 42 W.heap.size w' v stock ∧ Below W.heap.size W w') := fun W hW => cloneP As stock cs W (by unfold big; omega) (hss12.below hW)
        have HSS : Hid (∀ a : World, Below w12.heap.size w12 a → Below w12.heap.size w12 a ∧ (a.cell? ⟨g2, 0, none⟩ = some (iv F2) ∧ a.cell? ⟨g2, 1, none⟩ = some (.slice Ab3 b3.length cb3))) := fun a h => ⟨h, (hB12.under h).cell 0, (hB12.under h).cell 1⟩
        have HK0 := Lib.hid (HSS.out w12.drew (Below.refl _ _).drew)
        have hsl9 : stock.length ≤ 9 := by omega
        have HX0 := Lib.hid hst
        clear hst hbest hE3 hpx hip' hl12 hss12 hsb12 h10 hlen'
        go_wp2_with fail
        go_region_held3 (fun a => Below w12.heap.size w12 a ∧ (a.cell? ⟨g2, 0, none⟩ = some (iv F2) ∧ a.cell? ⟨g2, 1, none⟩ = some (.slice Ab3 b3.length cb3)))
          (first | assumption | exact HK0.out | exact HSS.out _ ((Below.refl _ w12).drew.alloc (Nat.le_refl _) _) | exact HSS.out _ HX3.out | exact HSS.out _ HX2.out | exact HSS.out _ HX1.out | exact HSS.out _ (HX1.out.alloc HX1.out.size _))
          (first
            | (go_at_call 21; refine (HC.out _ (And.left ‹Below w12.heap.size w12 _ ∧ _›)).mono ?_; rintro e x1 ⟨v, rfl, hown, hbx⟩; have HX1 := Lib.hid ((And.left ‹Below w12.heap.size w12 _ ∧ _›).next hbx (Nat.le_refl _)); obtain ⟨A', c', rfl, _, _⟩ := hown.form)
            | (refine stepAppS pieceE tyPieces (by rfl) _ _ (by rfl) hown ((Sl.fresh pieceE w12.drew 42 #[iv d4, iv 0, iv 0] [⟨d4, 0, 0⟩] rfl (by simp [maxLen])).below hbx) rfl (by rfl) (by rfl) (by rfl) hbx.size (by unfold big; simp; omega) ?_; intro v' x2 hown2 hbx2 _; have HX2 := Lib.hid (HX1.out.trans (hbx2.mono (by simp))); obtain ⟨A2, c2, rfl, _, _⟩ := hown2.form; have hsl2 := hown2.sl)
            | (refine stepAppS pieceE tyPieces (by rfl) _ _ (by rfl) (hown.below ((Below.refl _ x1).alloc (Nat.le_refl _) _)) (Sl.fresh pieceE x1 42 #[iv d4, iv 0, iv 0] [⟨d4, 0, 0⟩] rfl (by simp [maxLen])) rfl (by rfl) (by rfl) (by rfl) (Nat.le_trans hbx.size (by simp)) (by unfold big; simp; omega) ?_; intro v' x2 hown2 hbx2 _; have HX2 := Lib.hid ((HX1.out.alloc HX1.out.size _).trans hbx2); obtain ⟨A2, c2, rfl, _, _⟩ := hown2.form; have hsl2 := hown2.sl)
            | (go_at_call 18; refine (HBB.out _ _ _ (And.left ‹Below w12.heap.size w12 _ ∧ _›) hsl2).mono ?_; rintro e x3 ⟨v3, rfl, hbx3⟩; have HX3 := Lib.hid ((And.left ‹Below w12.heap.size w12 _ ∧ _›).next hbx3 (Nat.le_refl _))))
        all_goals
          have HA := Lib.hid (awake_spec x3)
          go_wp2_with (go_at_call 20; refine HA.out.mono ?_; rintro e x4 ⟨rfl, hb4⟩)
          go_ret
          exact ⟨rfl, (hb012.trans (HX3.out.mono hb012.size)).next hb4 (Nat.le_refl _)⟩
end Go.Proofs.Ytblmlpkjocbhpaa
