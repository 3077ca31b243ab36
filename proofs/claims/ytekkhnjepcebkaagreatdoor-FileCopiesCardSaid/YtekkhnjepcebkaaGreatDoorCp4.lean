/- FileCopies holds. Condition of the walk: the library's table of powers of ten lies as the program's text lays it. -/
import Derived.WalkKit
import Derived.WalkSpells
import Derived.WalkLawsBesides
import Derived.WalkSmall
import Derived.Lib.Hide
import Derived.Laws.OwnMore
import Derived.Laws.CopyOwn
import Derived.Deep.Draws
import Derived.Laws.AppendOwnNone
import Derived.Test.YtekkhnjepcebkaaGreatDoorProg
import Derived.Outline
import Derived.BigQuiet
import Derived.Deep.QuietTactic
import Derived.Lib.OthersKept
import Derived.Laws.EntriesVeiled
import Derived.Shelf.Strings.Builder1
import Derived.Shelf.LaysM
import Derived.Shelf.Strconv.Itoa3
import Derived.Orders
import Derived.RegionTactic
import Derived.BigRegion
import Derived.Deep.DeepCutAuto
import Derived.Maps.OwnRows
import Derived.Maps.GroupsBeside
import Derived.Deep.RegionHeld3
import Derived.Lib.SliceRun
import Derived.RangeFuncNested
import Derived.RangeFuncBound
import Derived.RangeFuncCalls
import Derived.RangeFuncLeaves
import Derived.Shelf.Abstract
import Derived.Shelf.RegionOpen
import Derived.OwnWalkIn
import Derived.TacticsInMore
import Derived.LoopNIn
import Derived.LoopIn
import Derived.Sort.QuietIn
import Derived.Deep.Quiet
import Derived.Maps.AppendAt
import Derived.Shelf.Bits.Mul64
import Derived.ArgAppend
import Derived.Lib.MinMax
import Derived.ChangeKeysEq
import Derived.WalkMore
import Derived.Deep.CutBlock
import Derived.Laws.BytesArg
import Derived.Laws.IdiomStrings
import Derived.Shelf.Spec.SlicesInsert
import Derived.Shelf.Spec.SlicesInsertGrow
import Derived.Deep.RegionLaw
import Derived.Test.YtekkhnjepcebkaaGreatDoorCards
import Derived.Test.YtekkhnjepcebkaaGreatDoorTie
import Derived.ProofKit
import Derived.Deep.DeepHandedRow
import Derived.Lib.LaidTab
import Derived.Stop.LaidErr
import Derived.ChangeSame
import Derived.RowKit3
import Derived.ReadAgain
import Derived.OpenShut
import Derived.ChangeSlices
import Derived.SliceStrings
import Derived.Deep.Slices
import Derived.Deep.Fields
import Derived.Test.YtekkhnjepcebkaaGreatDoorCp3
set_option linter.unusedVariables false
set_option linter.unusedSimpArgs false
section
namespace Go.Proofs.YtekkhnjepcebkaaGreatDoor
namespace Fl
open Go.RowKit
set_option maxRecDepth 100000
def SinceOk (n : Nat) : Prop := ∀ (A : Option Addr) (rs : List (Rw ByteArray)) (c : Nat) (w : World), rs.length = n + 1 → n ≤ 100 → rs.length ≤ c → Sl (rwE ByteArray) w A rs → RowsR strE w rs → (∀ r ∈ rs, Good r.xs) →
    Calls Tryz.prog 15 #[.slice A rs.length c] w fun e w' => ∃ v, e = .returned v ∧ Own intE 3 w.heap.size w' v (File.sinceAt (rs.map Rw.xs) n) ∧ Below w.heap.size w w'
theorem fill_set {N k : Nat} (hk : k < N) (z : Int) : (List.replicate k z ++ List.replicate (N - k) 0).set k z = List.replicate (k + 1) z ++ List.replicate (N - (k + 1)) 0 := by
  rw [List.set_append_right k z (by simp)]
  rw [List.length_replicate, Nat.sub_self, show N - k = (N - (k + 1)) + 1 by omega, List.replicate_succ, List.set_cons_zero, List.replicate_succ', List.append_assoc]
  rfl
theorem tyStrss : SlTy Tryz.prog 23 22 1 := slTy_of (z := .slice none 0 0) (bytes := 24) Tryz.underlying23 (by kernel_rfl) rfl (by decide)
set_option maxHeartbeats 8000000 in
theorem rsince_step (n : Nat) (IH : ∀ m, n = m + 1 → SinceOk m) : SinceOk n := by
  intro A rs c w hn hm hc hs hr hg
  obtain ⟨V, hV⟩ : ∃ V, V = rs.map Rw.xs := ⟨_, rfl⟩
  rw [← hV]
  obtain ⟨bv, ov, fr, eA, hbv, hfr, hc0⟩ := Sl.atRw hs (show n < rs.length by omega)
  have hfg := hg fr (mem_at hfr)
  have hf24 : fr.xs.length ≤ 24 := hfg.many
  have hVn : V.getD n [] = fr.xs := by rw [hV, List.getD_eq_getElem?_getD, List.getElem?_map, hfr]; rfl
  have ew1 : IntKind.i64.wrap ((rs.length : Int) - 1) = (n : Int) := by rw [show (rs.length : Int) - 1 = (n : Int) by omega]; exact IntWalk.i64_in _ (by omega)
  have hni : (n : Int) < (rs.length : Int) := by omega
  have HN := Lib.hid hn
  have HRR := Lib.hid hr
  have HGG := Lib.hid hg
  have HFR := Lib.hid hfr
  have HV := Lib.hid hV
  have HVN := Lib.hid hVn
  have HFG := Lib.hid hfg
  have HS := Lib.hid hs
  have HIH := Lib.hid IH
  subst eA
  clear hn hr hg hfr hV hVn hfg hs IH
  go_enter Tryz.func15, Tryz.ntmps15
  go_wp2_with (at_make; refine wpMakeN intE tyInts 0 zero_int rfl _ _ rfl fr.xs.length rfl rfl (by unfold big; omega) ?_; intro w1 hown1 hb1)
  have HO1 : Hid (Own intE 3 w.heap.size w1 (.slice (some ⟨w.heap.size, 0, none⟩) fr.xs.length fr.xs.length) (List.replicate 0 (n : Int) ++ List.replicate (fr.xs.length - 0) 0)) := Lib.hid (by simpa using hown1)
  have hgO := (Own.lt hown1 w.heap.size rfl).2
  clear hown1
  go_loopw [5] (fun v wr => ∃ k : Nat, k ≤ fr.xs.length ∧ v = iv (k : Int) ∧ Hid (Own intE 3 w.heap.size wr (.slice (some ⟨w.heap.size, 0, none⟩) fr.xs.length fr.xs.length) (List.replicate k (n : Int) ++ List.replicate (fr.xs.length - k) 0)) ∧ Below w.heap.size w wr) (fun v _ => fr.xs.length - (intOf v).toNat)
  case atStart => exact ⟨0, Nat.zero_le _, rfl, HO1, hb1⟩
  case round =>
    clear HO1 hgO hb1
    obtain ⟨k, hk, rfl, HO, hbr⟩ := hrel
    by_cases hlt : k < fr.xs.length
    · have hki : (k : Int) < (fr.xs.length : Int) := by omega
      have hln : (List.replicate k (n : Int) ++ List.replicate (fr.xs.length - k) 0).length = fr.xs.length := by simp; omega
      obtain ⟨g, cc, x0, e1, hgB, hgl, hx0, hcx, hfz⟩ := ownI HO.out (k := k) (by rw [hln]; exact hlt)
      injection e1 with e1 e2 e3
      injection e1 with e1
      injection e1 with e1 _ _
      clear e2
      subst e1
      have hset := setI HO.out (k := k) (by rw [hln]; exact hlt) (n : Int)
      rw [fill_set hlt] at hset
      have HO2 := Lib.hid hset
      have hfk := hfz k
      have hb2 : Below w.heap.size w (wr.setCell ⟨w.heap.size, k, none⟩ (iv (n : Int))) := hbr.setCell (p := ⟨w.heap.size, k, none⟩) (Nat.le_refl _) _
      clear hset hln HO hfz e3 hx0 hgB
      go_wp2_with fail
      go_roundw
      case rel => exact ⟨k + 1, by omega, by go_num, HO2, hb2⟩
      case measure => simp [intOf]; omega
    · have hki : ¬ (k : Int) < (fr.xs.length : Int) := by omega
      have HO2 : Hid (Own intE 3 w.heap.size wr (.slice (some ⟨w.heap.size, 0, none⟩) fr.xs.length fr.xs.length) (List.replicate fr.xs.length (n : Int))) := Lib.hid (by
        have := HO.out
        rw [show k = fr.xs.length by omega, Nat.sub_self] at this
        simpa using this)
      clear HO
      generalize wr = w2 at *
      by_cases hn0 : n = 0
      · have ht0 : ((n : Int) == 0) = true := by simp [hn0]
        have HSN : Hid (List.replicate fr.xs.length (n : Int) = File.sinceAt V n) := Lib.hid (by have h := HVN.out; rw [hn0] at h ⊢; unfold File.sinceAt; rw [h]; rfl)
        clear hn0
        go_wp2_with fail
        go_ret
        exact ⟨_, rfl, by rw [← HSN.out]; exact HO2.out, hbr⟩
      · have ht0 : ((n : Int) == 0) = false := by simp; omega
        obtain ⟨m, hnm⟩ : ∃ m, n = m + 1 := ⟨n - 1, by omega⟩
        have hgO := (Own.lt HO2.out w.heap.size rfl).2
        have hfl : (rs.take n).length = n := by rw [List.length_take]; have := HN.out; omega
        have hrl := HN.out
        have HIH2 : Hid (Calls Tryz.prog 15 #[.slice (some ⟨bv, ov, none⟩) n c] w2 fun e w' => ∃ v, e = .returned v ∧ Own intE 3 w2.heap.size w' v (File.sinceAt V m) ∧ Below w2.heap.size w2 w') := Lib.hid (by
          have h := HIH.out m hnm (some ⟨bv, ov, none⟩) (rs.take n) c w2 (by rw [hfl]; exact hnm) (by omega) (by omega) (Sl.take (HS.out.below hbr) n) (fun r hr => ⟨((HRR.out r (List.mem_of_mem_take hr)).1).below hbr, (HRR.out r (List.mem_of_mem_take hr)).2⟩) (fun r hr => HGG.out r (List.mem_of_mem_take hr))
          rw [hfl, List.map_take, ← HV.out, File.since_take V n m (by omega)] at h
          exact h)
        have RT := run_cutTo (rwE ByteArray) tyStrss (some ⟨bv, ov, none⟩) rs.length c n (by omega)
        obtain ⟨b', o', fq, eQ, hbq, hfq, hcq⟩ := Sl.atRw (HS.out.below hbr) (show m < rs.length by omega)
        injection eQ with eQ
        injection eQ with e1 e2 _
        subst e1 e2
        have HCQ : Hid (∀ W, Below w2.heap.size w2 W → W.cell? ⟨bv, ov + m, none⟩ = some (.slice fq.A fq.xs.length fq.c) ∧ W.cell? ⟨bv, ov + n, none⟩ = some (.slice fr.A fr.xs.length fr.c) ∧ bv < W.heap.size) := Lib.hid fun W h => ⟨(h.cell (p := ⟨bv, ov + m, none⟩) hbq).trans hcq, ((hbr.next h (Nat.le_refl _)).cell (p := ⟨bv, ov + n, none⟩) hbv).trans hc0, Nat.lt_of_lt_of_le hbq h.size⟩
        have hgq := HGG.out fq (mem_at hfq)
        have HVQ : Hid (V.getD m [] = fq.xs) := Lib.hid (by rw [HV.out, List.getD_eq_getElem?_getD, List.getElem?_map, hfq]; rfl)
        have HRC : Hid (∀ W, Below w2.heap.size w2 W → Calls Tryz.prog 80 #[.slice fq.A fq.xs.length fq.c, .slice fr.A fr.xs.length fr.c] W fun e w' => ∃ v, e = .returned v ∧ Own pairE 83 W.heap.size w' v (File.common fq.xs fr.xs) ∧ Below W.heap.size W w') := Lib.hid fun W h =>
          rcommon_spec fq.A fq.xs fq.c fr.A fr.xs fr.c W hgq.many hf24 (HRR.out fq (mem_at hfq)).2 (HRR.out fr (mem_at HFR.out)).2 ((HRR.out fq (mem_at hfq)).1.below (hbr.next h (Nat.le_refl _))) ((HRR.out fr (mem_at HFR.out)).1.below (hbr.next h (Nat.le_refl _)))
        have hpr := File.common_pairs fq.xs fr.xs
        obtain ⟨L, hL⟩ : ∃ L, L = File.common fq.xs fr.xs := ⟨_, rfl⟩
        have hLl : L.length ≤ 24 := by rw [hL, File.common_length]; exact Nat.le_trans (File.lcs_most _ _) hgq.many
        rw [← hL] at HRC hpr
        have HPR : Hid (∀ p ∈ L, p.1 < fq.xs.length ∧ p.2 < fr.xs.length) := Lib.hid fun p hp => by
          obtain ⟨k, hk⟩ := List.getElem?_of_mem hp
          obtain ⟨_, _, h1, h2, _⟩ := File.pairs_at hpr hk
          exact ⟨h1, h2⟩
        obtain ⟨S0, hS0⟩ : ∃ S0, S0 = File.sinceAt V m := ⟨_, rfl⟩
        have hSl : S0.length = fq.xs.length := by rw [hS0, File.since_len, HVQ.out]
        have HSS : Hid (File.sinceAt V n = File.putGo S0 (List.replicate fr.xs.length (n : Int)) L) := Lib.hid (by
          have h := HVN.out
          rw [hnm] at h ⊢
          rw [hS0, hL, ← HVQ.out, ← h]; rfl)
        rw [← hS0] at HIH2
        have HSL := Lib.hid hSl
        have ewm : IntKind.i64.wrap ((n : Int) - 1) = (m : Int) := by rw [show (n : Int) - 1 = (m : Int) by omega]; exact IntWalk.i64_in _ (by omega)
        have hmi : (m : Int) < (rs.length : Int) := by omega
        have hq24 : fq.xs.length ≤ 24 := hgq.many
        clear hS0 hL hgq hfq hpr hfl hcq hc0 HVQ HVN HFG HIH hSl hrl hnm hn0
        go_wp2_with fail
        refine HIH2.out.mono ?_
        rintro e w3 ⟨v, rfl, ho3, hb3⟩
        obtain ⟨A3, c3, rfl, _, _⟩ := ho3.form
        have hb03 := hbr.next hb3 (Nat.le_refl _)
        have HO3 := Lib.hid (HO2.out.below hb3)
        have HS3 := Lib.hid ho3
        have hz23 := hb3.size
        clear ho3 HO2 HIH2 RT
        go_upto_region 10 with fail
        refine wp_free_lit (by kernel_rfl) 10 (by kernel_rfl) (by kernel_rfl) (by decide) (fun nR x => Below w3.heap.size w3 x) (fun x x' => Below x.heap.size x x')
          [fun _ u _ => u = .slice (some ⟨bv, ov, none⟩) rs.length c,
           fun _ u _ => u = iv (n : Int),
           fun _ u _ => u = iv (m : Int),
           fun _ u _ => u = .pointer (some ⟨bv, ov + m, none⟩),
           fun _ u _ => u = .slice fq.A fq.xs.length fq.c,
           fun _ u _ => u = .slice (some ⟨bv, ov, none⟩) rs.length c,
           fun _ u _ => u = iv (n : Int),
           fun _ u _ => u = .pointer (some ⟨bv, ov + n, none⟩),
           fun _ u _ => u = .slice fr.A fr.xs.length fr.c,
           fun _ u x => ∃ A1 c1, u = .slice A1 L.length c1 ∧ Own pairE 83 w3.heap.size x (.slice A1 L.length c1) L]
          (Below.refl _ w3).drew ?_ ?_
        · simp only [List.take_succ_cons, List.take_zero, HopL]
          refine ⟨?_, ?_, ?_, ?_, ?_, ?_, ?_, ?_, ?_, ?_, trivial⟩
          · refine ⟨fun _ _ _ _ _ h => h, fun _ _ _ _ h _ => h, fun v nR x hnR hR hk => ?_⟩
            simp only [List.take_succ_cons, List.take_zero, frameF, Act.put, List.setIfInBounds_toArray, List.set_cons_zero, List.set_cons_succ]
            exact stepF_val (by first | rfl | simp [Region.wanted, yielded, *]) (by go_simp <;> omega) ⟨rfl, Below.refl _ _, hR⟩
          · refine ⟨fun _ _ _ _ _ h => h, fun _ _ _ _ h _ => h, fun v nR x hnR hR hk => ?_⟩
            simp only [List.take_succ_cons, List.take_zero, frameF, Act.put, List.setIfInBounds_toArray, List.set_cons_zero, List.set_cons_succ]
            exact stepF_val (by first | rfl | simp [Region.wanted, yielded, *]) (by go_simp <;> omega) ⟨rfl, Below.refl _ _, hR⟩
          · refine ⟨fun _ _ _ _ _ h => h, fun _ _ _ _ h _ => h, fun v nR x hnR hR hk => ?_⟩
            have h1 : v 1 = iv (n : Int) := hk 1 (by kernel_rfl)
            simp only [List.take_succ_cons, List.take_zero, frameF, Act.put, List.setIfInBounds_toArray, List.set_cons_zero, List.set_cons_succ]
            exact stepF_val (by first | rfl | simp [Region.wanted, yielded, *]) (by go_simp <;> omega) ⟨rfl, Below.refl _ _, hR⟩
          · refine ⟨fun _ _ _ _ _ h => h, fun _ _ _ _ h _ => h, fun v nR x hnR hR hk => ?_⟩
            have h0 : v 0 = .slice (some ⟨bv, ov, none⟩) rs.length c := hk 0 (by kernel_rfl)
            have h2 : v 2 = iv (m : Int) := hk 2 (by kernel_rfl)
            have g1 := (HCQ.out x (hb3.next hR (Nat.le_refl _))).2.2
            simp only [List.take_succ_cons, List.take_zero, frameF, Act.put, List.setIfInBounds_toArray, List.set_cons_zero, List.set_cons_succ]
            exact stepF_val (by first | rfl | simp [Region.wanted, yielded, *]) (by go_simp <;> omega) ⟨rfl, Below.refl _ _, hR⟩
          · refine ⟨fun _ _ _ _ _ h => h, fun _ _ _ _ h _ => h, fun v nR x hnR hR hk => ?_⟩
            have h3 : v 3 = .pointer (some ⟨bv, ov + m, none⟩) := hk 3 (by kernel_rfl)
            have g1 := (HCQ.out x (hb3.next hR (Nat.le_refl _))).1
            simp only [List.take_succ_cons, List.take_zero, frameF, Act.put, List.setIfInBounds_toArray, List.set_cons_zero, List.set_cons_succ]
            exact stepF_val (by first | rfl | simp [Region.wanted, yielded, *]) (by go_simp <;> omega) ⟨rfl, Below.refl _ _, hR⟩
          · refine ⟨fun _ _ _ _ _ h => h, fun _ _ _ _ h _ => h, fun v nR x hnR hR hk => ?_⟩
            simp only [List.take_succ_cons, List.take_zero, frameF, Act.put, List.setIfInBounds_toArray, List.set_cons_zero, List.set_cons_succ]
            exact stepF_val (by first | rfl | simp [Region.wanted, yielded, *]) (by go_simp <;> omega) ⟨rfl, Below.refl _ _, hR⟩
          · refine ⟨fun _ _ _ _ _ h => h, fun _ _ _ _ h _ => h, fun v nR x hnR hR hk => ?_⟩
            simp only [List.take_succ_cons, List.take_zero, frameF, Act.put, List.setIfInBounds_toArray, List.set_cons_zero, List.set_cons_succ]
            exact stepF_val (by first | rfl | simp [Region.wanted, yielded, *]) (by go_simp <;> omega) ⟨rfl, Below.refl _ _, hR⟩
          · refine ⟨fun _ _ _ _ _ h => h, fun _ _ _ _ h _ => h, fun v nR x hnR hR hk => ?_⟩
            have h5 : v 5 = .slice (some ⟨bv, ov, none⟩) rs.length c := hk 5 (by kernel_rfl)
            have h6 : v 6 = iv (n : Int) := hk 6 (by kernel_rfl)
            have g1 := (HCQ.out x (hb3.next hR (Nat.le_refl _))).2.2
            simp only [List.take_succ_cons, List.take_zero, frameF, Act.put, List.setIfInBounds_toArray, List.set_cons_zero, List.set_cons_succ]
            exact stepF_val (by first | rfl | simp [Region.wanted, yielded, *]) (by go_simp <;> omega) ⟨rfl, Below.refl _ _, hR⟩
          · refine ⟨fun _ _ _ _ _ h => h, fun _ _ _ _ h _ => h, fun v nR x hnR hR hk => ?_⟩
            have h7 : v 7 = .pointer (some ⟨bv, ov + n, none⟩) := hk 7 (by kernel_rfl)
            have g1 := (HCQ.out x (hb3.next hR (Nat.le_refl _))).2.1
            simp only [List.take_succ_cons, List.take_zero, frameF, Act.put, List.setIfInBounds_toArray, List.set_cons_zero, List.set_cons_succ]
            exact stepF_val (by first | rfl | simp [Region.wanted, yielded, *]) (by go_simp <;> omega) ⟨rfl, Below.refl _ _, hR⟩
          · refine ⟨fun _ _ _ _ _ h => h, fun _ _ _ _ h hS => (by obtain ⟨A4, c4, e0, o4⟩ := h; exact ⟨A4, c4, e0, o4.below hS⟩), fun v nR x hnR hR hk => ?_⟩
            have h4 : v 4 = .slice fq.A fq.xs.length fq.c := hk 4 (by kernel_rfl)
            have h8 : v 8 = .slice fr.A fr.xs.length fr.c := hk 8 (by kernel_rfl)
            simp only [List.take_succ_cons, List.take_zero, frameF, Act.put, List.setIfInBounds_toArray, List.set_cons_zero, List.set_cons_succ]
            refine stepF_call (by rfl) (by go_simp) (HRC.out x (hb3.next hR (Nat.le_refl _))) ?_
            rintro e x' ⟨u, rfl, ho, hb⟩
            obtain ⟨A1, c1, rfl, _, _⟩ := ho.form
            exact ⟨_, rfl, ⟨A1, c1, rfl, ho.base hR.size⟩, hb, hR.next hb (Nat.le_refl _)⟩
        · intro v nR x4 hnR hR hall
          obtain ⟨A4, c4, h9, o4⟩ := hall 9 (by decide)
          clear hall hnR
          simp only [List.drop_succ_cons, List.drop_zero, List.take_succ_cons, List.take_zero, frameF, Act.put, List.setIfInBounds_toArray, List.set_cons_zero, List.set_cons_succ, Nat.zero_add, Nat.reduceAdd, h9]
          have hb34 := hR
          have hb04 := hb03.next hR (Nat.le_refl _)
          have HO4 : Hid (Own intE 3 w.heap.size x4 (.slice (some ⟨w.heap.size, 0, none⟩) fr.xs.length fr.xs.length) (File.putGo S0 (List.replicate fr.xs.length (n : Int)) (L.take 0))) := Lib.hid (HO3.out.below hR)
          have HS4 := Lib.hid (HS3.out.below hR)
          have HL4 := Lib.hid o4
          clear o4 HO3 HS3 hR HCQ HRC
          go_wp2_with fail
          go_loopw [8] (fun v wr => ∃ k : Nat, k ≤ L.length ∧ v = iv (k : Int) ∧ Hid (Own intE 3 w.heap.size wr (.slice (some ⟨w.heap.size, 0, none⟩) fr.xs.length fr.xs.length) (File.putGo S0 (List.replicate fr.xs.length (n : Int)) (L.take k))) ∧ Hid (Own intE 3 w2.heap.size wr (.slice A3 S0.length c3) S0) ∧ Hid (Own pairE 83 w3.heap.size wr (.slice A4 L.length c4) L) ∧ Below w.heap.size w wr) (fun v _ => L.length - (intOf v).toNat)
          case atStart => exact ⟨0, Nat.zero_le _, rfl, HO4, HS4, HL4, hb04⟩
          case round =>
            clear HO4 HS4 HL4 hb04 hb34
            obtain ⟨k, hk, rfl, HO, HS5, HL, hbx⟩ := hrel
            by_cases hlt2 : k < L.length
            · have hkL : (k : Int) < (L.length : Int) := by omega
              obtain ⟨bp, op_, pp, eA4, hbp, hpx, _, _⟩ := Sl.atPr HL.out.sl hlt2
              subst eA4
              have HCP := Lib.hid (Sl.cellPr HL.out.sl hpx)
              obtain ⟨hp1, hp2⟩ := HPR.out pp (mem_at hpx)
              have HTK := Lib.hid (take_at hpx)
              obtain ⟨p1, p2⟩ := pp
              simp only at hp1 hp2 HCP
              have hol : (File.putGo S0 (List.replicate fr.xs.length (n : Int)) (L.take k)).length = fr.xs.length := by rw [File.put_len, List.length_replicate]
              obtain ⟨go_, co, ov0, eo, hgoB, hgol, hov, hcov, hfov⟩ := ownI HS5.out (k := p1) (by rw [HSL.out]; exact hp1)
              injection eo with eo1 eo2 eo3
              subst eo1
              obtain ⟨gn, cn, x0, en, hgnB, hgnl, hx0, hcx, hfz⟩ := ownI HO.out (k := p2) (by rw [hol]; exact hp2)
              injection en with en1 en2 en3
              injection en1 with en1
              injection en1 with en1 _ _
              clear eo2 en2 en3 eo3
              subst en1
              have hset := setI HO.out (k := p2) (by rw [hol]; exact hp2) ov0
              have hput : (File.putGo S0 (List.replicate fr.xs.length (n : Int)) (L.take k)).set p2 ov0 = File.putGo S0 (List.replicate fr.xs.length (n : Int)) (L.take (k + 1)) := by
                rw [HTK.out]
                unfold File.putGo
                rw [List.foldl_append]
                show _ = List.set _ p2 (S0.getD p1 0)
                rw [List.getD_eq_getElem?_getD, hov]
                rfl
              have HPUT := Lib.hid hput
              have hfp := hfz p2
              have hp1i : (p1 : Int) < (S0.length : Int) := by have := HSL.out; omega
              have hp2i : (p2 : Int) < (fr.xs.length : Int) := by omega
              have hne : go_ ≠ w.heap.size := by omega
              have HX : Hid (∀ x, Below wr.heap.size wr x → x.cell? ⟨go_, p1, none⟩ = some (iv ov0) ∧ x.cell? ⟨w.heap.size, p2, none⟩ = some (iv x0) ∧ x.frozen? ⟨w.heap.size, p2, none⟩ = false ∧ go_ < x.heap.size ∧ w.heap.size < x.heap.size) := Lib.hid fun x h => by
                refine ⟨(h.cell (p := ⟨go_, p1, none⟩) hgol).trans hcov, (h.cell (p := ⟨w.heap.size, p2, none⟩) hgnl).trans hcx, ?_, Nat.lt_of_lt_of_le hgol h.size, Nat.lt_of_lt_of_le hgnl h.size⟩
                have := h.block w.heap.size hgnl
                have h2 := hfp
                unfold World.frozen? at h2 ⊢
                simp only [this]
                exact h2
              have HNB := Lib.hid hne
              clear hset hput hol hov hx0 hcov hcx hfov hfz hpx hne hfp
              go_upto_region 14 with fail
              refine wp_free_lit (by kernel_rfl) 14 (by kernel_rfl) (by kernel_rfl) (by decide) (fun nR x => Below wr.heap.size wr x) (fun x x' => Below x.heap.size x x')
                [fun _ u _ => u = .slice (some ⟨w.heap.size, 0, none⟩) fr.xs.length fr.xs.length,
                 fun _ u _ => u = .slice (some ⟨bp, op_, none⟩) L.length c4,
                 fun _ u _ => u = iv (k : Int),
                 fun _ u _ => u = .pointer (some ⟨bp, op_ + k * 2, none⟩),
                 fun _ u _ => u = .pointer (some ⟨bp, op_ + k * 2 + 1, none⟩),
                 fun _ u _ => u = iv (p2 : Int),
                 fun _ u _ => u = .slice (some ⟨go_, 0, none⟩) S0.length c3,
                 fun _ u _ => u = .slice (some ⟨bp, op_, none⟩) L.length c4,
                 fun _ u _ => u = iv (k : Int),
                 fun _ u _ => u = .pointer (some ⟨bp, op_ + k * 2, none⟩),
                 fun _ u _ => u = .pointer (some ⟨bp, op_ + k * 2, none⟩),
                 fun _ u _ => u = iv (p1 : Int),
                 fun _ u _ => u = .pointer (some ⟨go_, p1, none⟩),
                 fun _ u _ => u = iv ov0]
                (Below.refl _ wr).drew ?_ ?_
              · simp only [List.take_succ_cons, List.take_zero, HopL]
                refine ⟨?_, ?_, ?_, ?_, ?_, ?_, ?_, ?_, ?_, ?_, ?_, ?_, ?_, ?_, trivial⟩
                · refine ⟨fun _ _ _ _ _ h => h, fun _ _ _ _ h _ => h, fun v nR x hnR hR hk => ?_⟩
                  simp only [List.take_succ_cons, List.take_zero, frameF, Act.put, List.setIfInBounds_toArray, List.set_cons_zero, List.set_cons_succ]
                  exact stepF_val (by first | rfl | simp [Region.wanted, yielded, *]) (by go_simp <;> omega) ⟨rfl, Below.refl _ _, hR⟩
                · refine ⟨fun _ _ _ _ _ h => h, fun _ _ _ _ h _ => h, fun v nR x hnR hR hk => ?_⟩
                  simp only [List.take_succ_cons, List.take_zero, frameF, Act.put, List.setIfInBounds_toArray, List.set_cons_zero, List.set_cons_succ]
                  exact stepF_val (by first | rfl | simp [Region.wanted, yielded, *]) (by go_simp <;> omega) ⟨rfl, Below.refl _ _, hR⟩
                · refine ⟨fun _ _ _ _ _ h => h, fun _ _ _ _ h _ => h, fun v nR x hnR hR hk => ?_⟩
                  simp only [List.take_succ_cons, List.take_zero, frameF, Act.put, List.setIfInBounds_toArray, List.set_cons_zero, List.set_cons_succ]
                  exact stepF_val (by first | rfl | simp [Region.wanted, yielded, *]) (by go_simp <;> omega) ⟨rfl, Below.refl _ _, hR⟩
                · refine ⟨fun _ _ _ _ _ h => h, fun _ _ _ _ h _ => h, fun v nR x hnR hR hk => ?_⟩
                  have h1 : v 1 = .slice (some ⟨bp, op_, none⟩) L.length c4 := hk 1 (by kernel_rfl)
                  have h2 : v 2 = iv (k : Int) := hk 2 (by kernel_rfl)
                  simp only [List.take_succ_cons, List.take_zero, frameF, Act.put, List.setIfInBounds_toArray, List.set_cons_zero, List.set_cons_succ]
                  exact stepF_val (by first | rfl | simp [Region.wanted, yielded, *]) (by go_simp <;> omega) ⟨rfl, Below.refl _ _, hR⟩
                · refine ⟨fun _ _ _ _ _ h => h, fun _ _ _ _ h _ => h, fun v nR x hnR hR hk => ?_⟩
                  have h3 : v 3 = .pointer (some ⟨bp, op_ + k * 2, none⟩) := hk 3 (by kernel_rfl)
                  simp only [List.take_succ_cons, List.take_zero, frameF, Act.put, List.setIfInBounds_toArray, List.set_cons_zero, List.set_cons_succ]
                  exact stepF_val (by first | rfl | simp [Region.wanted, yielded, *]) (by go_simp <;> omega) ⟨rfl, Below.refl _ _, hR⟩
                · refine ⟨fun _ _ _ _ _ h => h, fun _ _ _ _ h _ => h, fun v nR x hnR hR hk => ?_⟩
                  have h4 : v 4 = .pointer (some ⟨bp, op_ + k * 2 + 1, none⟩) := hk 4 (by kernel_rfl)
                  have g1 := (HCP.out x hR).2
                  simp only [List.take_succ_cons, List.take_zero, frameF, Act.put, List.setIfInBounds_toArray, List.set_cons_zero, List.set_cons_succ]
                  exact stepF_val (by first | rfl | simp [Region.wanted, yielded, *]) (by go_simp <;> omega) ⟨rfl, Below.refl _ _, hR⟩
                · refine ⟨fun _ _ _ _ _ h => h, fun _ _ _ _ h _ => h, fun v nR x hnR hR hk => ?_⟩
                  simp only [List.take_succ_cons, List.take_zero, frameF, Act.put, List.setIfInBounds_toArray, List.set_cons_zero, List.set_cons_succ]
                  exact stepF_val (by first | rfl | simp [Region.wanted, yielded, *]) (by go_simp <;> omega) ⟨rfl, Below.refl _ _, hR⟩
                · refine ⟨fun _ _ _ _ _ h => h, fun _ _ _ _ h _ => h, fun v nR x hnR hR hk => ?_⟩
                  simp only [List.take_succ_cons, List.take_zero, frameF, Act.put, List.setIfInBounds_toArray, List.set_cons_zero, List.set_cons_succ]
                  exact stepF_val (by first | rfl | simp [Region.wanted, yielded, *]) (by go_simp <;> omega) ⟨rfl, Below.refl _ _, hR⟩
                · refine ⟨fun _ _ _ _ _ h => h, fun _ _ _ _ h _ => h, fun v nR x hnR hR hk => ?_⟩
                  simp only [List.take_succ_cons, List.take_zero, frameF, Act.put, List.setIfInBounds_toArray, List.set_cons_zero, List.set_cons_succ]
                  exact stepF_val (by first | rfl | simp [Region.wanted, yielded, *]) (by go_simp <;> omega) ⟨rfl, Below.refl _ _, hR⟩
                · refine ⟨fun _ _ _ _ _ h => h, fun _ _ _ _ h _ => h, fun v nR x hnR hR hk => ?_⟩
                  have h7 : v 7 = .slice (some ⟨bp, op_, none⟩) L.length c4 := hk 7 (by kernel_rfl)
                  have h8 : v 8 = iv (k : Int) := hk 8 (by kernel_rfl)
                  simp only [List.take_succ_cons, List.take_zero, frameF, Act.put, List.setIfInBounds_toArray, List.set_cons_zero, List.set_cons_succ]
                  exact stepF_val (by first | rfl | simp [Region.wanted, yielded, *]) (by go_simp <;> omega) ⟨rfl, Below.refl _ _, hR⟩
                · refine ⟨fun _ _ _ _ _ h => h, fun _ _ _ _ h _ => h, fun v nR x hnR hR hk => ?_⟩
                  have h9 : v 9 = .pointer (some ⟨bp, op_ + k * 2, none⟩) := hk 9 (by kernel_rfl)
                  simp only [List.take_succ_cons, List.take_zero, frameF, Act.put, List.setIfInBounds_toArray, List.set_cons_zero, List.set_cons_succ]
                  exact stepF_val (by first | rfl | simp [Region.wanted, yielded, *]) (by go_simp <;> omega) ⟨rfl, Below.refl _ _, hR⟩
                · refine ⟨fun _ _ _ _ _ h => h, fun _ _ _ _ h _ => h, fun v nR x hnR hR hk => ?_⟩
                  have h10 : v 10 = .pointer (some ⟨bp, op_ + k * 2, none⟩) := hk 10 (by kernel_rfl)
                  have g1 := (HCP.out x hR).1
                  simp only [List.take_succ_cons, List.take_zero, frameF, Act.put, List.setIfInBounds_toArray, List.set_cons_zero, List.set_cons_succ]
                  exact stepF_val (by first | rfl | simp [Region.wanted, yielded, *]) (by go_simp <;> omega) ⟨rfl, Below.refl _ _, hR⟩
                · refine ⟨fun _ _ _ _ _ h => h, fun _ _ _ _ h _ => h, fun v nR x hnR hR hk => ?_⟩
                  have h6 : v 6 = .slice (some ⟨go_, 0, none⟩) S0.length c3 := hk 6 (by kernel_rfl)
                  have h11 : v 11 = iv (p1 : Int) := hk 11 (by kernel_rfl)
                  simp only [List.take_succ_cons, List.take_zero, frameF, Act.put, List.setIfInBounds_toArray, List.set_cons_zero, List.set_cons_succ]
                  exact stepF_val (by first | rfl | simp [Region.wanted, yielded, *]) (by go_simp <;> omega) ⟨rfl, Below.refl _ _, hR⟩
                · refine ⟨fun _ _ _ _ _ h => h, fun _ _ _ _ h _ => h, fun v nR x hnR hR hk => ?_⟩
                  have h12 : v 12 = .pointer (some ⟨go_, p1, none⟩) := hk 12 (by kernel_rfl)
                  have g1 := (HX.out x hR).1
                  simp only [List.take_succ_cons, List.take_zero, frameF, Act.put, List.setIfInBounds_toArray, List.set_cons_zero, List.set_cons_succ]
                  exact stepF_val (by first | rfl | simp [Region.wanted, yielded, *]) (by go_simp <;> omega) ⟨rfl, Below.refl _ _, hR⟩
              · intro v nR x5 hnR hR hall
                have h0 : v 0 = .slice (some ⟨w.heap.size, 0, none⟩) fr.xs.length fr.xs.length := hall 0 (by decide)
                have h5 : v 5 = iv (p2 : Int) := hall 5 (by decide)
                have h13 : v 13 = iv ov0 := hall 13 (by decide)
                clear hall hnR
                simp only [List.drop_succ_cons, List.drop_zero, List.take_succ_cons, List.take_zero, frameF, Act.put, List.setIfInBounds_toArray, List.set_cons_zero, List.set_cons_succ, Nat.zero_add, Nat.reduceAdd, h0, h5, h13]
                obtain ⟨y1, y2, y3, y4, y5⟩ := HX.out x5 hR
                have hO5 := HO.out.below hR
                have HO6 : Hid (Own intE 3 w.heap.size (x5.setCell ⟨w.heap.size, p2, none⟩ (iv ov0)) (.slice (some ⟨w.heap.size, 0, none⟩) fr.xs.length fr.xs.length) (File.putGo S0 (List.replicate fr.xs.length (n : Int)) (L.take (k + 1)))) := Lib.hid (by
                  have hol : (File.putGo S0 (List.replicate fr.xs.length (n : Int)) (L.take k)).length = fr.xs.length := by rw [File.put_len, List.length_replicate]
                  have h1 := setI hO5 (k := p2) (by rw [hol]; exact hp2) ov0
                  have h3 : (File.putGo S0 (List.replicate fr.xs.length (n : Int)) (L.take k)).set p2 ov0 = File.putGo S0 (List.replicate fr.xs.length (n : Int)) (L.take (k + 1)) := HPUT.out
                  rw [h3] at h1
                  exact h1)
                have HS6 : Hid (Own intE 3 w2.heap.size (x5.setCell ⟨w.heap.size, p2, none⟩ (iv ov0)) (.slice (some ⟨go_, 0, none⟩) S0.length c3) S0) := Lib.hid ((HS5.out.below hR).setCell (p := ⟨w.heap.size, p2, none⟩) hgO _)
                have HL6 : Hid (Own pairE 83 w3.heap.size (x5.setCell ⟨w.heap.size, p2, none⟩ (iv ov0)) (.slice (some ⟨bp, op_, none⟩) L.length c4) L) := Lib.hid ((HL.out.below hR).setCell (p := ⟨w.heap.size, p2, none⟩) (Nat.lt_of_lt_of_le hgO hz23) _)
                have hb06 : Below w.heap.size w (x5.setCell ⟨w.heap.size, p2, none⟩ (iv ov0)) := (hbx.next hR (Nat.le_refl _)).setCell (p := ⟨w.heap.size, p2, none⟩) (Nat.le_refl _) _
                clear hO5 HO HS5 HL hR hbx
                go_wp2_with fail
                go_roundw
                case rel => exact ⟨k + 1, by omega, by go_num, HO6, HS6, HL6, hb06⟩
                case measure => simp [intOf]; omega
            · have hkL : ¬ (k : Int) < (L.length : Int) := by omega
              have HO7 : Hid (Own intE 3 w.heap.size wr (.slice (some ⟨w.heap.size, 0, none⟩) fr.xs.length fr.xs.length) (File.sinceAt V n)) := Lib.hid (by
                have := HO.out
                rw [List.take_of_length_le (by omega), ← HSS.out] at this
                exact this)
              clear HO
              go_wp2_with fail
              go_ret
              exact ⟨_, rfl, HO7.out, hbx⟩
theorem rsince_spec : ∀ n, SinceOk n
  | 0 => rsince_step 0 fun m h => by cases h
  | n + 1 => rsince_step (n + 1) fun m h => by injection h with h; subst h; exact rsince_spec n
end Fl
end Go.Proofs.YtekkhnjepcebkaaGreatDoor
end
section
namespace Go.Proofs.YtekkhnjepcebkaaGreatDoor
namespace File
/-- The first error of some files. -/
def firstErr : List (List ByteArray) → Int
  | [] => 0
  | f :: r => if check f = 0 then firstErr r else check f
def sinceAns (V : List (List ByteArray)) : List Int × Int := if firstErr V = 0 then (if V = [] then ([], 6) else (sinceAt V (V.length - 1), 0)) else ([], firstErr V)
theorem first_good : ∀ {V : List (List ByteArray)}, firstErr V = 0 → ∀ f ∈ V, check f = 0
  | [], _, _, h => by cases h
  | g :: r, h, f, hf => by
    unfold firstErr at h
    by_cases hg : check g = 0
    · rw [if_pos hg] at h
      rcases List.mem_cons.1 hf with rfl | hf
      · exact hg
      · exact first_good h f hf
    · rw [if_neg hg] at h; exact absurd h hg
end File
namespace Fl
open Go.RowKit
set_option maxRecDepth 100000
set_option maxHeartbeats 2000000 in
theorem since_bad (A : Option Addr) (rs : List (Rw ByteArray)) (c : Nat) (w : World) (hm : rs.length ≤ 1000) (hs : Sl (rwE ByteArray) w A rs) (hr : RowsR strE w rs) (hb : ∀ r ∈ rs, r.xs.length ≤ big) (hne : File.firstErr (rs.map Rw.xs) ≠ 0) :
    Calls Tryz.prog 17 #[.slice A rs.length c] w fun e w' => e = .returned (.tuple #[.slice none 0 0, iv (File.firstErr (rs.map Rw.xs))]) ∧ Below w.heap.size w w' := by
  obtain ⟨U, hU⟩ : ∃ U, U = File.firstErr (rs.map Rw.xs) := ⟨_, rfl⟩
  rw [← hU] at hne
  rw [← hU]
  have HU : Hid (File.firstErr ((rs.map Rw.xs).drop 0) = U) := Lib.hid (by rw [hU, List.drop_zero])
  have HNE := Lib.hid hne
  have HR := Lib.hid hr
  have HB := Lib.hid hb
  clear hU hne hr hb
  go_enter Tryz.func17, Tryz.ntmps17
  go_wp2_with fail
  go_loopw [5, 6, 15] (fun _ _ i wr => ∃ k : Nat, k ≤ rs.length ∧ i = iv (k : Int) ∧ Hid (File.firstErr ((rs.map Rw.xs).drop k) = U) ∧ Below w.heap.size w wr) (fun _ _ i _ => rs.length - (intOf i).toNat)
  case atStart => exact ⟨0, Nat.zero_le _, rfl, HU, Below.refl _ _⟩
  case round =>
    clear HU
    obtain ⟨k, hk, rfl, HK, hbr⟩ := hrel
    by_cases hlt : k < rs.length
    · have hki : (k : Int) < (rs.length : Int) := by omega
      obtain ⟨bv, ov, f, eA, hbv, hf, hc0⟩ := Sl.atRw (hs.below hbr) hlt
      have HCK := Lib.hid (check_spec f.A f.xs f.c wr (HB.out f (mem_at hf)) ((HR.out f (mem_at hf)).1.below hbr))
      have hd := HK.out
      rw [drop_at (show (rs.map Rw.xs)[k]? = some f.xs by rw [List.getElem?_map, hf]; rfl), File.firstErr] at hd
      obtain ⟨e, he⟩ : ∃ e, e = File.check f.xs := ⟨_, rfl⟩
      rw [← he] at hd HCK
      subst eA
      clear he hf HK
      by_cases h0 : e = 0
      · rw [if_pos h0] at hd
        have HD := Lib.hid hd
        have hn : (e != 0) = false := by simp [h0]
        clear hd h0
        go_wp2_with fail
        refine HCK.out.mono ?_
        rintro _ w2 ⟨rfl, hb2⟩
        go_wp2_with fail
        go_roundw
        case rel => exact ⟨k + 1, by omega, by go_num, HD, hbr.next hb2 (Nat.le_refl _)⟩
        case measure => simp [intOf]; omega
      · rw [if_neg h0] at hd
        have HD := Lib.hid hd
        have hn : (e != 0) = true := by simpa using h0
        clear hd h0
        go_wp2_with fail
        refine HCK.out.mono ?_
        rintro _ w2 ⟨rfl, hb2⟩
        go_wp2_with fail
        go_ret2
        exact ⟨by rw [← HD.out]; rfl, hbr.next hb2 (Nat.le_refl _)⟩
    · exfalso
      have := HK.out
      rw [List.drop_eq_nil_of_le (by rw [List.length_map]; omega)] at this
      exact HNE.out this.symm
set_option maxHeartbeats 2000000 in
theorem since_none (A : Option Addr) (c : Nat) (w : World) : Calls Tryz.prog 17 #[.slice A 0 c] w fun e w' => e = .returned (.tuple #[.slice none 0 0, iv 6]) ∧ Below w.heap.size w w' := by
  go_enter Tryz.func17, Tryz.ntmps17
  go_wp2_with fail
  go_loopw [5, 6, 15] (fun _ _ i wr => i = iv 0 ∧ wr = w) (fun _ _ _ _ => 0)
  case atStart => exact ⟨rfl, rfl⟩
  case round =>
    obtain ⟨rfl, rfl⟩ := hrel
    go_wp2_with fail
    go_ret2
    exact ⟨rfl, Below.refl _ _⟩
theorem since_any (A : Option Addr) (rs : List (Rw ByteArray)) (c : Nat) (w : World) (hm : rs.length ≤ 100) (hs : Sl (rwE ByteArray) w A rs) (hr : RowsR strE w rs) (hb : ∀ r ∈ rs, r.xs.length ≤ big) :
    Calls Tryz.prog 17 #[.slice A rs.length c] w fun e w' => ∃ v, e = .returned (.tuple #[v, iv (File.sinceAns (rs.map Rw.xs)).2]) ∧ Own intE 3 w.heap.size w' v (File.sinceAns (rs.map Rw.xs)).1 ∧ Below w.heap.size w w' := by
  unfold File.sinceAns
  by_cases h0 : File.firstErr (rs.map Rw.xs) = 0
  · rw [if_pos h0]
    by_cases hn : rs = []
    · subst hn
      refine (since_none A c w).mono ?_
      rintro _ w' ⟨rfl, hb⟩
      exact ⟨.slice none 0 0, rfl, Own.nil, hb⟩
    · rw [if_neg (by simpa using hn)]
      have hl := List.length_pos_iff.2 hn
      have := since_spec A rs c w (rs.length - 1) (by omega) (by omega) hs hr (fun r hr => good_of_check (File.first_good h0 _ (List.mem_map_of_mem hr)))
      rw [List.length_map]
      exact this
  · rw [if_neg h0]
    refine (since_bad A rs c w (by omega) hs hr hb h0).mono ?_
    rintro _ w' ⟨rfl, hb⟩
    exact ⟨_, rfl, Own.nil, hb⟩
end Fl
end Go.Proofs.YtekkhnjepcebkaaGreatDoor
end
section
namespace Go.Proofs.YtekkhnjepcebkaaGreatDoor
open Go.ChangeShapes Go.WideShapes Go.RowKit Go.Deep
section
variable {H : Type} {enc : TypeId × Value → H} {W : World} {spare : Nat → Bool} {held : Bool} {b0 : Nat}
set_option maxRecDepth 100000
theorem rowS_cell (fuel : Nat) (cs : List Value) (x : DataW H × List MemPlace) (hl : cs.length = (Fl.rwE ByteArray).sz) (h : DataW.trod enc Tryz.prog W b0 spare held fuel 22 cs = some x) : ∃ y : Fl.Rw ByteArray, (Fl.rwE ByteArray).cells y = cs ∧ (Sl Fl.strE W y.A y.xs ∧ y.xs.length ≤ y.c ∧ y.xs.length ≤ maxLen) := by
  match cs, hl with
  | [u], _ =>
    obtain ⟨A, n, c, rfl⟩ := slice_cell Tryz.underlying22 h
    obtain ⟨xs, rfl, h2, h3, h4⟩ := strs_cell h
    exact ⟨⟨A, c, xs⟩, rfl, h4, h2, h3⟩
theorem openRowsS {v : Value} {d : DataW H} {ps : List MemPlace} {b1 : Nat} (hval : Value.okWide Tryz.prog W .any b1 23 v) (h : DataW.Trod enc Tryz.prog W b0 spare held 23 v d ps) :
    ∃ (A : Option Addr) (rs : List (Fl.Rw ByteArray)) (c : Nat), v = .slice A rs.length c ∧ rs.length ≤ c ∧ rs.length ≤ maxLen ∧ Sl (Fl.rwE ByteArray) W A rs ∧ Fl.RowsR Fl.strE W rs ∧ ∀ r ∈ rs, r.xs.length ≤ maxLen := by
  obtain ⟨A, len, cap, rfl⟩ := okWide_slice Tryz.underlying23 hval
  obtain ⟨fuel, hf⟩ := h
  obtain ⟨rs, rfl, h2, h3, h4, h5⟩ := openG (Fl.rwE ByteArray) _ (e := 22) rowS_cell Tryz.underlying23 cellsStrs hf
  exact ⟨A, rs, cap, rfl, h2, h3, h4, fun r hr => ⟨(h5 r hr).1, (h5 r hr).2.1⟩, fun r hr => (h5 r hr).2.2⟩
end
end Go.Proofs.YtekkhnjepcebkaaGreatDoor
end
section
namespace Go.Proofs.YtekkhnjepcebkaaGreatDoor
namespace Fl
open Go.RowKit Go.Shelf
set_option maxRecDepth 100000
theorem great3row (A : Option Addr) (f : List ByteArray) (c : Nat) (A' : Option Addr) (g : List ByteArray) (c' : Nat) (A2 : Option Addr) (h : List ByteArray) (c2 : Nat) (w : World) (hfc : f.length ≤ c) (hgc : g.length ≤ c') (hhc : h.length ≤ c2) (hs : Sl strE w A f) (hs' : Sl strE w A' g) (hs2 : Sl strE w A2 h) :
    Calls Tryz.prog 9 #[.slice (some ⟨w.heap.size, 0, none⟩) 3 3] (w.alloc (.cells #[.slice A f.length c, .slice A' g.length c', .slice A2 h.length c2] 22)) fun e w' => e = .returned (.bool (G.greatF f || (G.greatF g || G.greatF h))) ∧ Below w.heap.size w w' := by
  have hb : Below w.heap.size w (w.alloc (.cells #[.slice A f.length c, .slice A' g.length c', .slice A2 h.length c2] 22)) := (Below.refl _ _).alloc (Nat.le_refl _) _
  have h1 := Sl.fresh (rwE ByteArray) w 22 #[.slice A f.length c, .slice A' g.length c', .slice A2 h.length c2] [⟨A, c, f⟩, ⟨A', c', g⟩, ⟨A2, c2, h⟩] rfl (by simp [maxLen])
  have := great_spec (some ⟨w.heap.size, 0, none⟩) [⟨A, c, f⟩, ⟨A', c', g⟩, ⟨A2, c2, h⟩] 3 (w.alloc (.cells #[.slice A f.length c, .slice A' g.length c', .slice A2 h.length c2] 22)) (by simp [big]) h1 (fun r hr => by
    simp only [List.mem_cons, List.not_mem_nil, or_false] at hr
    rcases hr with rfl | rfl | rfl
    · exact ⟨hs.below hb, hfc⟩
    · exact ⟨hs'.below hb, hgc⟩
    · exact ⟨hs2.below hb, hhc⟩)
  refine this.mono ?_
  rintro e w' ⟨rfl, hb'⟩
  exact ⟨by simp, hb.next hb' (Nat.le_refl _)⟩
theorem joinAns_bnd (base a b : List ByteArray) : (File.joinAns base a b).2.1.length ≤ 24 ∧ (File.joinAns base a b).2.2.length ≤ 25 := by
  by_cases h : File.check base = 0
  · by_cases h2 : errOf a b = 0
    · obtain ⟨e1, e2⟩ := err_good h2
      exact File.joinAns_small (good_of_check h) (good_of_check e1) (good_of_check e2)
    · unfold File.joinAns; rw [if_neg (by simp [h]), if_pos h2]; simp
  · unfold File.joinAns; rw [if_pos h]; simp
theorem sinceAns_bnd {V : List (List ByteArray)} {K : Nat} (h : ∀ f ∈ V, f.length ≤ K) : (File.sinceAns V).1.length ≤ K := by
  unfold File.sinceAns
  split
  · split
    · simp
    · show (File.sinceAt V (V.length - 1)).length ≤ K
      rw [File.since_len, List.getD_eq_getElem?_getD]
      cases hv : V[V.length - 1]? with
      | none => simp
      | some f => exact h f (List.mem_of_getElem? hv)
  · simp
set_option maxHeartbeats 16000000 in
theorem copies_law (A : Option Addr) (base : List ByteArray) (c : Nat) (A1 : Option Addr) (a : List ByteArray) (c1 : Nat) (A2 : Option Addr) (b : List ByteArray) (c2 : Nat) (V : Option Addr) (rs : List (Rw ByteArray)) (d : Nat) (w : World) (hc : base.length ≤ c) (hc1 : a.length ≤ c1) (hc2 : b.length ≤ c2) (hrd : rs.length ≤ d)
    (hs : Sl strE w A base) (hs1 : Sl strE w A1 a) (hs2 : Sl strE w A2 b) (hsr : Sl (rwE ByteArray) w V rs) (hrr : RowsR strE w rs) (ht : Tab w) :
    Calls Tryz.prog 3 #[.slice A base.length c, .slice A1 a.length c1, .slice A2 b.length c2, .slice V rs.length d] w fun e w' => e = .returned (.bool true) ∧ Below w.heap.size w w' := by
  have HT := Lib.hid ht
  have HAW : Hid (∀ W, Below w.heap.size w W → Calls Tryz.prog 10 #[] W fun e w' => e = .returned (.bool true) ∧ Below W.heap.size W w') := Lib.hid fun W h => awake_spec W (HT.out.below h)
  have HGR := Lib.hid (great3row A base c A1 a c1 A2 b c2 w hc hc1 hc2 hs hs1 hs2)
  clear ht
  obtain ⟨gr, hgr⟩ : ∃ gr, gr = (G.greatF base || (G.greatF a || G.greatF b)) := ⟨_, rfl⟩
  rw [← hgr] at HGR
  cases gr
  rotate_left
  · clear hgr
    go_enter Tryz.func3, Tryz.ntmps3
    go_wp2_with fail
    refine HGR.out.mono ?_
    rintro e w1 ⟨rfl, hb1⟩
    go_wp2_with fail
    refine (HAW.out _ hb1).mono ?_
    rintro _ wz ⟨rfl, hbz⟩
    go_wp2_with fail
    go_ret
    exact ⟨rfl, (hb1).next hbz (Nat.le_refl _)⟩
  by_cases h6 : 6 < rs.length
  · have h6i : (rs.length : Int) > 6 := by omega
    clear hgr h6
    go_enter Tryz.func3, Tryz.ntmps3
    go_wp2_with fail
    refine HGR.out.mono ?_
    rintro e w1 ⟨rfl, hb1⟩
    go_wp2_with fail
    refine (HAW.out _ hb1).mono ?_
    rintro _ wz ⟨rfl, hbz⟩
    go_wp2_with fail
    go_ret
    exact ⟨rfl, (hb1).next hbz (Nat.le_refl _)⟩
  have h6i : ¬ (rs.length : Int) > 6 := by omega
  have HLG := Lib.hid fun W (h : Below w.heap.size w W) => great_spec V rs d W (by unfold big; omega) (hsr.below h) (hrr.below h)
  obtain ⟨lg, hlg⟩ : ∃ lg, lg = (rs.any fun r => G.greatF r.xs) := ⟨_, rfl⟩
  rw [← hlg] at HLG
  cases lg
  rotate_left
  · clear hgr hlg h6
    go_enter Tryz.func3, Tryz.ntmps3
    go_wp2_with fail
    refine HGR.out.mono ?_
    rintro e w1 ⟨rfl, hb1⟩
    go_wp2_with fail
    refine (HLG.out w1 hb1).mono ?_
    rintro e w2 ⟨rfl, hb2⟩
    have hb02 := hb1.next hb2 (Nat.le_refl _)
    go_wp2_with fail
    refine (HAW.out _ hb02).mono ?_
    rintro _ wz ⟨rfl, hbz⟩
    go_wp2_with fail
    go_ret
    exact ⟨rfl, (hb02).next hbz (Nat.le_refl _)⟩
  obtain ⟨hgB, hg2⟩ := Bool.or_eq_false_iff.1 hgr.symm
  obtain ⟨hga, hgb⟩ := Bool.or_eq_false_iff.1 hg2
  have hB30 := (great_no hgB).1
  have ha30 := (great_no hga).1
  have hb30 := (great_no hgb).1
  have hv30 : ∀ r ∈ rs, r.xs.length ≤ 30 := fun r hr => by
    have h := List.any_eq_false.1 hlg.symm r hr
    exact (great_no (by simpa using h)).1
  have hBb : base.length ≤ big := by unfold big; omega
  have hba : a.length ≤ big := by unfold big; omega
  have hbb : b.length ≤ big := by unfold big; omega
  have hvb : ∀ r ∈ rs, r.xs.length ≤ big := fun r hr => by have := hv30 r hr; unfold big; omega
  clear hgr hlg hgB hg2 hga hgb
  go_enter Tryz.func3, Tryz.ntmps3
  go_wp2_with fail
  refine HGR.out.mono ?_
  rintro e w1 ⟨rfl, hb1⟩
  go_wp2_with fail
  refine (HLG.out w1 hb1).mono ?_
  rintro e w2 ⟨rfl, hb2⟩
  have hb02 := hb1.next hb2 (Nat.le_refl _)
  clear HGR HLG
  go_wp2_with fail
  refine (dupS A base c w2 hBb (hs.below hb02)).mono ?_
  rintro e w3 ⟨v, rfl, ho0, hb3⟩
  obtain ⟨M0, m0, rfl, hm0, _⟩ := ho0.form
  have hb03 := hb02.next hb3 (Nat.le_refl _)
  go_wp2_with fail
  refine (dupS A1 a c1 w3 hba (hs1.below hb03)).mono ?_
  rintro e w4 ⟨v, rfl, ho1, hb4⟩
  obtain ⟨M1, m1, rfl, hm1, _⟩ := ho1.form
  have hb04 := hb03.next hb4 (Nat.le_refl _)
  go_wp2_with fail
  refine (dupS A2 b c2 w4 hbb (hs2.below hb04)).mono ?_
  rintro e w5' ⟨v, rfl, ho2, hb5'⟩
  obtain ⟨M2, m2, rfl, hm2, _⟩ := ho2.form
  have hb05' := hb04.next hb5' (Nat.le_refl _)
  go_wp2_with fail
  refine (dupRowsS V rs d w5' (by unfold big; omega) (hsr.below hb05') (fun r hr => ⟨(hrr r hr).1.below hb05', hvb r hr⟩)).mono ?_
  rintro e w5 ⟨v, us, rfl, ho3, hus, hur, hb5⟩
  obtain ⟨M3, m3, rfl, hm3, _⟩ := ho3.form
  have hb05 := hb05'.next hb5 (Nat.le_refl _)
  have hul6 : us.length ≤ 6 := by have := congrArg List.length hus; rw [List.length_map, List.length_map] at this; omega
  have hub : ∀ r ∈ us, r.xs.length ≤ big := fun r hr => by
    have h1 : r.xs ∈ rs.map Rw.xs := by rw [← hus]; exact List.mem_map_of_mem hr
    obtain ⟨z, hz, he⟩ := List.mem_map.1 h1
    rw [← he]; exact hvb z hz
  have HS0 := Lib.hid fun W (h : Below w5.heap.size w5 W) => ho0.sl.below (hb4.next (hb5'.next (hb5.next h (Nat.le_refl _)) (Nat.le_refl _)) (Nat.le_refl _))
  have HS1 := Lib.hid fun W (h : Below w5.heap.size w5 W) => ho1.sl.below (hb5'.next (hb5.next h (Nat.le_refl _)) (Nat.le_refl _))
  have HS2 := Lib.hid fun W (h : Below w5.heap.size w5 W) => ho2.sl.below (hb5.next h (Nat.le_refl _))
  have HS3 := Lib.hid fun W (h : Below w5.heap.size w5 W) => ho3.sl.below h
  have HR3 : Hid (∀ W, Below w5.heap.size w5 W → RowsR strE W us) := Lib.hid fun W h r hr => ⟨(hur r hr).1.sl.below h, (hur r hr).2⟩
  have HSB := Lib.hid fun W (h : Below w5.heap.size w5 W) => hs.below (hb05.next h (Nat.le_refl _))
  have HSA := Lib.hid fun W (h : Below w5.heap.size w5 W) => hs1.below (hb05.next h (Nat.le_refl _))
  have HSC := Lib.hid fun W (h : Below w5.heap.size w5 W) => hs2.below (hb05.next h (Nat.le_refl _))
  have HSV := Lib.hid fun W (h : Below w5.heap.size w5 W) => hsr.below (hb05.next h (Nat.le_refl _))
  have HRV : Hid (∀ W, Below w5.heap.size w5 W → RowsR strE W rs) := Lib.hid fun W h => hrr.below (hb05.next h (Nat.le_refl _))
  have HE0 : Hid (∀ W, Below w5.heap.size w5 W → Calls Tryz.prog 18 #[.slice M0 base.length m0, .slice A base.length c] W fun e w' => e = .returned (.bool true) ∧ Below W.heap.size W w') := Lib.hid fun W h => by
    have := equalS M0 base m0 A base c W hBb (HS0.out W h) hBb (HSB.out W h)
    rwa [decide_eq_true rfl] at this
  have HE1 : Hid (∀ W, Below w5.heap.size w5 W → Calls Tryz.prog 18 #[.slice M1 a.length m1, .slice A1 a.length c1] W fun e w' => e = .returned (.bool true) ∧ Below W.heap.size W w') := Lib.hid fun W h => by
    have := equalS M1 a m1 A1 a c1 W hba (HS1.out W h) hba (HSA.out W h)
    rwa [decide_eq_true rfl] at this
  have HE2 : Hid (∀ W, Below w5.heap.size w5 W → Calls Tryz.prog 18 #[.slice M2 b.length m2, .slice A2 b.length c2] W fun e w' => e = .returned (.bool true) ∧ Below W.heap.size W w') := Lib.hid fun W h => by
    have := equalS M2 b m2 A2 b c2 W hbb (HS2.out W h) hbb (HSC.out W h)
    rwa [decide_eq_true rfl] at this
  have HE3 : Hid (∀ W, Below w5.heap.size w5 W → Calls Tryz.prog 21 #[.slice M3 us.length m3, .slice V rs.length d] W fun e w' => e = .returned (.bool true) ∧ Below W.heap.size W w') := Lib.hid fun W h => by
    have := eqRowsS M3 us m3 V rs d W (by unfold big; omega) (HS3.out W h) (by unfold big; omega) (HSV.out W h) (fun r hr => ⟨(HR3.out W h r hr).1, hub r hr⟩) (fun r hr => ⟨(HRV.out W h r hr).1, hvb r hr⟩)
    rwa [decide_eq_true hus] at this
  have HCB := Lib.hid fun W (h : Below w5.heap.size w5 W) => rcheck_spec A base c W hBb (HSB.out W h)
  have HCA := Lib.hid fun W (h : Below w5.heap.size w5 W) => rcheck_spec A1 a c1 W hba (HSA.out W h)
  have HCC := Lib.hid fun W (h : Below w5.heap.size w5 W) => rcheck_spec A2 b c2 W hbb (HSC.out W h)
  have HCV := Lib.hid fun W (h : Below w5.heap.size w5 W) (r : Rw ByteArray) (hr : r ∈ rs) => rcheck_spec r.A r.xs r.c W (hvb r hr) (HRV.out W h r hr).1
  have HJN := Lib.hid fun W (h : Below w5.heap.size w5 W) => Join_spec M0 base m0 M1 a m1 M2 b m2 W hBb hba hbb hm0 hm1 hm2 (HS0.out W h) (HS1.out W h) (HS2.out W h)
  have HSN := Lib.hid fun W (h : Below w5.heap.size w5 W) => since_any M3 us m3 W (by omega) (HS3.out W h) (HR3.out W h) hub
  rw [hus] at HSN
  clear hs hs1 hs2 hsr hrr ho0 ho1 ho2 ho3 hur hb1 hb2 hb3 hb4 hb5 hb5' hb02 hb03 hb04 hb05' hub hus
  obtain ⟨cB, hcB⟩ : ∃ cB, cB = File.check base := ⟨_, rfl⟩
  obtain ⟨cA, hcA⟩ : ∃ cA, cA = File.check a := ⟨_, rfl⟩
  obtain ⟨cC, hcC⟩ : ∃ cC, cC = File.check b := ⟨_, rfl⟩
  rw [← hcB] at HCB
  rw [← hcA] at HCA
  rw [← hcC] at HCC
  have HcB := Lib.hid hcB
  have HcA := Lib.hid hcA
  have HcC := Lib.hid hcC
  clear hcB hcA hcC
  go_wp2_with fail
  refine (HCB.out w5 (Below.refl _ _)).mono ?_
  rintro e w6 ⟨rfl, hb6⟩
  have hbL : Below w6.heap.size w6 (w6.alloc (.cells #[.slice A1 a.length c1, .slice A2 b.length c2] 22)) := (Below.refl _ _).alloc (Nat.le_refl _) _
  have hL : Blk (w6.alloc (.cells #[.slice A1 a.length c1, .slice A2 b.length c2] 22)) w6.heap.size 22 #[.slice A1 a.length c1, .slice A2 b.length c2] := Blk.new _ _ _
  have hb57 := hb6.next hbL (Nat.le_refl _)
  go_wp2_with fail
  generalize w6.alloc (.cells #[.slice A1 a.length c1, .slice A2 b.length c2] 22) = w7 at *
  generalize w6.heap.size = gL at *
  clear hbL hb6
  go_loopw [13, 15, 56] (fun e _ i wr => ∃ (t : Nat) (x : Int), t ≤ 2 ∧ i = iv (t : Int) ∧ e = iv x ∧ Hid ((t = 0 → x = cB) ∧ (t = 1 → x = if cB = 0 then cA else cB) ∧ (t = 2 → x = if cB = 0 then (if cA = 0 then cC else cA) else cB)) ∧ Below w5.heap.size w5 wr ∧ Blk wr gL 22 #[.slice A1 a.length c1, .slice A2 b.length c2]) (fun _ _ i _ => 2 - (intOf i).toNat)
  case atStart => exact ⟨0, cB, by omega, rfl, rfl, Lib.hid ⟨fun _ => rfl, fun h => by omega, fun h => by omega⟩, hb57, hL⟩
  case round =>
    clear hL hb57
    obtain ⟨t, x, ht, rfl, rfl, HX, hbr, hL⟩ := hrel
    have ll := hL.lt
    by_cases h0 : t = 0
    · have l0 : wr.cell? ⟨gL, t, none⟩ = some (.slice A1 a.length c1) := by rw [hL.cell t, h0]; rfl
      have ti : (t : Int) < 2 := by omega
      have HT1 : Hid (t + 1 = 1) := Lib.hid (by omega)
      have ht2 : t + 1 ≤ 2 := by omega
      clear h0
      -- the file A1 (a lines, cap c1), its error cA by HCA; t stays
      by_cases hx0 : x = 0
      · have hq : (x == 0) = true := by simp [hx0]
        have HX2 : Hid ((t + 1 = 0 → cA = cB) ∧ (t + 1 = 1 → cA = if cB = 0 then cA else cB) ∧ (t + 1 = 2 → cA = if cB = 0 then (if cA = 0 then cC else cA) else cB)) := Lib.hid (by
          have h := HX.out
          have ht1 := HT1.out
          rw [hx0] at h
          obtain ⟨h1, h2, h3⟩ := h
          refine ⟨fun h => by omega, fun h => ?_, fun h => ?_⟩
          all_goals first
            | (rw [if_pos (h1 (by omega)).symm]; done)
            | (have e := h2 (by omega); by_cases hc : cB = 0 <;> simp_all)
            | omega)
        clear hx0
        go_wp2_with fail
        refine ((HCA).out wr hbr).mono ?_
        rintro _ wn ⟨rfl, hbn⟩
        go_wp2_with fail
        go_roundw
        case rel => exact ⟨t + 1, cA, ht2, by go_num, rfl, HX2, hbr.next hbn (Nat.le_refl _), hL.under hbn⟩
        case measure => simp [intOf]; omega
      · have hq : (x == 0) = false := by simpa using hx0
        have HX2 : Hid ((t + 1 = 0 → x = cB) ∧ (t + 1 = 1 → x = if cB = 0 then cA else cB) ∧ (t + 1 = 2 → x = if cB = 0 then (if cA = 0 then cC else cA) else cB)) := Lib.hid (by
          obtain ⟨h1, h2, h3⟩ := HX.out
          have ht1 := HT1.out
          refine ⟨fun h => by omega, fun h => ?_, fun h => ?_⟩
          all_goals first
            | (have e := h1 (by omega); rw [if_neg (by rw [← e]; exact hx0)]; exact e)
            | (have e := h2 (by omega); by_cases hc : cB = 0 <;> simp_all)
            | omega)
        clear hx0
        go_wp2_with fail
        go_roundw
        case rel => exact ⟨t + 1, x, ht2, by go_num, rfl, HX2, hbr, hL⟩
        case measure => simp [intOf]; omega
    · by_cases h1 : t = 1
      · have l0 : wr.cell? ⟨gL, t, none⟩ = some (.slice A2 b.length c2) := by rw [hL.cell t, h1]; rfl
        have ti : (t : Int) < 2 := by omega
        have HT1 : Hid (t + 1 = 2) := Lib.hid (by omega)
        have ht2 : t + 1 ≤ 2 := by omega
        clear h0 h1
        -- the file A2 (b lines, cap c2), its error cC by HCC; t stays
        by_cases hx0 : x = 0
        · have hq : (x == 0) = true := by simp [hx0]
          have HX2 : Hid ((t + 1 = 0 → cC = cB) ∧ (t + 1 = 1 → cC = if cB = 0 then cA else cB) ∧ (t + 1 = 2 → cC = if cB = 0 then (if cA = 0 then cC else cA) else cB)) := Lib.hid (by
            have h := HX.out
            have ht1 := HT1.out
            rw [hx0] at h
            obtain ⟨h1, h2, h3⟩ := h
            refine ⟨fun h => by omega, fun h => ?_, fun h => ?_⟩
            all_goals first
              | (rw [if_pos (h1 (by omega)).symm]; done)
              | (have e := h2 (by omega); by_cases hc : cB = 0 <;> simp_all)
              | omega)
          clear hx0
          go_wp2_with fail
          refine ((HCC).out wr hbr).mono ?_
          rintro _ wn ⟨rfl, hbn⟩
          go_wp2_with fail
          go_roundw
          case rel => exact ⟨t + 1, cC, ht2, by go_num, rfl, HX2, hbr.next hbn (Nat.le_refl _), hL.under hbn⟩
          case measure => simp [intOf]; omega
        · have hq : (x == 0) = false := by simpa using hx0
          have HX2 : Hid ((t + 1 = 0 → x = cB) ∧ (t + 1 = 1 → x = if cB = 0 then cA else cB) ∧ (t + 1 = 2 → x = if cB = 0 then (if cA = 0 then cC else cA) else cB)) := Lib.hid (by
            obtain ⟨h1, h2, h3⟩ := HX.out
            have ht1 := HT1.out
            refine ⟨fun h => by omega, fun h => ?_, fun h => ?_⟩
            all_goals first
              | (have e := h1 (by omega); rw [if_neg (by rw [← e]; exact hx0)]; exact e)
              | (have e := h2 (by omega); by_cases hc : cB = 0 <;> simp_all)
              | omega)
          clear hx0
          go_wp2_with fail
          go_roundw
          case rel => exact ⟨t + 1, x, ht2, by go_num, rfl, HX2, hbr, hL⟩
          case measure => simp [intOf]; omega
      · have ti : ¬ (t : Int) < 2 := by omega
        have hxe := HX.out.2.2 (by omega)
        have HXE := Lib.hid hxe
        clear hL ll h0 h1 HX hxe
        generalize wr = w8 at *
        obtain ⟨JA, hJA⟩ : ∃ JA, JA = File.joinAns base a b := ⟨_, rfl⟩
        have HJA := Lib.hid hJA
        rw [← hJA] at HJN
        clear hJA
        go_upto_if 66 with fail
        go_cut [13, 16, 17] (fun v13 v16 v17 wx => v13 = iv JA.1 ∧ (∃ (D : Option Addr) (n : Nat), v16 = .slice D JA.2.1.length n ∧ Hid (Sl strE wx D JA.2.1)) ∧ (∃ (D : Option Addr) (n : Nat), v17 = .slice D JA.2.2.length n ∧ Hid (Sl pairE wx D JA.2.2)) ∧ Below w8.heap.size w8 wx)
        case first =>
          by_cases hx0 : x = 0
          · have hq : (x == 0) = true := by simp [hx0]
            have hall : cB = 0 ∧ cA = 0 ∧ cC = 0 := by
              have h := HXE.out
              rw [hx0] at h
              by_cases h1 : cB = 0
              · rw [if_pos h1] at h
                by_cases h2 : cA = 0
                · rw [if_pos h2] at h; exact ⟨h1, h2, h.symm⟩
                · rw [if_neg h2] at h; exact absurd h.symm h2
              · rw [if_neg h1] at h; exact absurd h.symm h1
            have HRJ := Lib.hid (rjoin_spec A base c A1 a c1 A2 b c2 w8 (good_of_check (HcB.out.symm.trans hall.1)) (good_of_check (HcA.out.symm.trans hall.2.1)) (good_of_check (HcC.out.symm.trans hall.2.2)) hc hc1 hc2 (HSB.out w8 hbr) (HSA.out w8 hbr) (HSC.out w8 hbr))
            rw [← HJA.out] at HRJ
            clear hall hx0
            go_wp2_with fail
            refine HRJ.out.mono ?_
            rintro e w9 ⟨v0, v1, rfl, ho0, ho1, hb9⟩
            obtain ⟨D0, n0, rfl, _, _⟩ := ho0.form
            obtain ⟨D1, n1, rfl, _, _⟩ := ho1.form
            go_wp2_with fail
            go_meet
            exact ⟨rfl, ⟨D0, n0, rfl, Lib.hid ho0.sl⟩, ⟨D1, n1, rfl, Lib.hid ho1.sl⟩, hb9⟩
          · have hq : (x == 0) = false := by simpa using hx0
            have HJE : Hid (JA = (x, [], [])) := Lib.hid (by
              rw [HJA.out]
              unfold File.joinAns errOf
              rw [← HcB.out, ← HcA.out, ← HcC.out]
              have h := HXE.out
              by_cases h1 : cB = 0
              · rw [if_pos h1] at h
                rw [if_neg (by simp [h1]), ← h, if_pos hx0]
              · rw [if_neg h1] at h
                rw [if_pos h1, h])
            clear hx0
            go_wp2_with fail
            go_meet
            exact ⟨by rw [HJE.out], ⟨none, 0, by rw [HJE.out]; rfl, Lib.hid (by rw [HJE.out]; exact Sl.nil)⟩, ⟨none, 0, by rw [HJE.out]; rfl, Lib.hid (by rw [HJE.out]; exact Sl.nil)⟩, Below.refl _ _⟩
        case rest =>
        obtain ⟨rfl, ⟨D16, n16, rfl, HP16⟩, ⟨D17, n17, rfl, HP17⟩, hb89⟩ := hcut
        generalize wc = w9 at *
        have hb59 := hbr.next hb89 (Nat.le_refl _)
        clear hbr hb89 HXE
        obtain ⟨W0, hW0⟩ : ∃ W0, W0 = rs.map Rw.xs := ⟨_, rfl⟩
        rw [← hW0] at HSN
        have HW0 := Lib.hid hW0
        obtain ⟨U, hU⟩ : ∃ U, U = File.firstErr W0 := ⟨_, rfl⟩
        have HU := Lib.hid hU
        obtain ⟨SA, hSA⟩ : ∃ SA, SA = File.sinceAns W0 := ⟨_, rfl⟩
        have HSA2 := Lib.hid hSA
        rw [← hSA] at HSN
        clear hW0 hU hSA
        go_wp2_with fail
        go_loopw [18, 21, 77] (fun e _ i wr => ∃ (k : Nat) (x : Int), k ≤ rs.length ∧ i = iv (k : Int) ∧ e = iv x ∧ Hid ((x = 0 → File.firstErr (W0.drop k) = U) ∧ (x ≠ 0 → x = U)) ∧ Below w9.heap.size w9 wr) (fun _ _ i _ => rs.length - (intOf i).toNat)
        case atStart => exact ⟨0, 0, Nat.zero_le _, rfl, rfl, Lib.hid ⟨fun _ => by rw [List.drop_zero, HU.out], fun h => absurd rfl h⟩, Below.refl _ _⟩
        case round =>
          obtain ⟨k, x, hk, rfl, rfl, HX, hbr⟩ := hrel
          have hb5r := hb59.next hbr (Nat.le_refl _)
          by_cases hlt : k < rs.length
          · have hki : (k : Int) < (rs.length : Int) := by omega
            obtain ⟨bv, ov, f, eA, hbv, hf, hc0⟩ := Sl.atRw (HSV.out wr hb5r) hlt
            have HCF := Lib.hid (HCV.out wr hb5r f (mem_at hf))
            have hdr : W0.drop k = f.xs :: W0.drop (k + 1) := by rw [HW0.out]; exact drop_at (by rw [List.getElem?_map, hf]; rfl)
            have HDR := Lib.hid hdr
            obtain ⟨cf, hcf⟩ : ∃ cf, cf = File.check f.xs := ⟨_, rfl⟩
            rw [← hcf] at HCF
            have HcF := Lib.hid hcf
            subst eA
            clear hf hdr hcf
            by_cases hx0 : x = 0
            · have hq : (x == 0) = true := by simp [hx0]
              have HX2 : Hid ((cf = 0 → File.firstErr (W0.drop (k + 1)) = U) ∧ (cf ≠ 0 → cf = U)) := Lib.hid (by
                have h := HX.out.1 hx0
                rw [HDR.out, File.firstErr, ← HcF.out] at h
                refine ⟨fun h0 => ?_, fun h0 => ?_⟩
                · rw [if_pos h0] at h; exact h
                · rw [if_neg h0] at h; exact h)
              clear hx0 HX
              go_wp2_with fail
              refine HCF.out.mono ?_
              rintro _ wn ⟨rfl, hbn⟩
              go_wp2_with fail
              go_roundw
              case rel => exact ⟨k + 1, cf, by omega, by go_num, rfl, HX2, hbr.next hbn (Nat.le_refl _)⟩
              case measure => simp [intOf]; omega
            · have hq : (x == 0) = false := by simpa using hx0
              have HX2 : Hid ((x = 0 → File.firstErr (W0.drop (k + 1)) = U) ∧ (x ≠ 0 → x = U)) := Lib.hid ⟨fun h => absurd h hx0, HX.out.2⟩
              clear hx0 HX
              go_wp2_with fail
              go_roundw
              case rel => exact ⟨k + 1, x, by omega, by go_num, rfl, HX2, hbr⟩
              case measure => simp [intOf]; omega
          · have hki : ¬ (k : Int) < (rs.length : Int) := by omega
            have hxU : x = U := by
              by_cases hx0 : x = 0
              · have h := HX.out.1 hx0
                rw [List.drop_eq_nil_of_le (by rw [HW0.out, List.length_map]; omega)] at h
                rw [hx0]; exact h
              · exact HX.out.2 hx0
            subst hxU
            clear HX hk hlt
            generalize wr = w10 at *
            go_upto_if 87 with fail
            go_cut [18, 19] (fun v18 v19 wx => v18 = iv SA.2 ∧ (∃ (D : Option Addr) (n : Nat), v19 = .slice D SA.1.length n ∧ Hid (Sl intE wx D SA.1)) ∧ Below w10.heap.size w10 wx)
            case first =>
              by_cases hx0 : x = 0
              · have hq : (x == 0) = true := by simp [hx0]
                have HFE : Hid (File.firstErr W0 = 0) := Lib.hid (by rw [← HU.out]; exact hx0)
                by_cases hrl : 0 < rs.length
                · have hri : (rs.length : Int) > 0 := by omega
                  have HRS := Lib.hid (rsince_spec (rs.length - 1) V rs d w10 (by omega) (by omega) hrd (HSV.out w10 hb5r) (HRV.out w10 hb5r) (fun r hr => good_of_check (File.first_good HFE.out _ (by rw [HW0.out]; exact List.mem_map_of_mem hr))))
                  have HSE : Hid (SA = (File.sinceAt (rs.map Rw.xs) (rs.length - 1), 0)) := Lib.hid (by
                    rw [HSA2.out]
                    unfold File.sinceAns
                    rw [if_pos HFE.out, if_neg (by rw [HW0.out]; intro h; have := congrArg List.length h; rw [List.length_map, List.length_nil] at this; omega), HW0.out, List.length_map])
                  clear hx0 hrl
                  go_wp2_with fail
                  refine HRS.out.mono ?_
                  rintro e w11 ⟨v, rfl, ho, hb11⟩
                  obtain ⟨D1, n1, rfl, _, _⟩ := ho.form
                  go_wp2_with fail
                  go_meet
                  exact ⟨by rw [HSE.out], ⟨D1, n1, by rw [HSE.out], Lib.hid (by rw [HSE.out]; exact ho.sl)⟩, hb11⟩
                · have hri : ¬ (rs.length : Int) > 0 := by omega
                  have HSE : Hid (SA = ([], 6)) := Lib.hid (by
                    rw [HSA2.out]
                    unfold File.sinceAns
                    rw [if_pos HFE.out, if_pos (by rw [HW0.out, List.eq_nil_of_length_eq_zero (show rs.length = 0 by omega)]; rfl)])
                  clear hx0 hrl
                  go_wp2_with fail
                  go_meet
                  exact ⟨by rw [HSE.out], ⟨none, 0, by rw [HSE.out]; rfl, Lib.hid (by rw [HSE.out]; exact Sl.nil)⟩, Below.refl _ _⟩
              · have hq : (x == 0) = false := by simpa using hx0
                have HSE : Hid (SA = ([], x)) := Lib.hid (by
                  rw [HSA2.out]
                  unfold File.sinceAns
                  rw [if_neg (by rw [← HU.out]; exact hx0), ← HU.out])
                clear hx0
                go_wp2_with fail
                go_meet
                exact ⟨by rw [HSE.out], ⟨none, 0, by rw [HSE.out]; rfl, Lib.hid (by rw [HSE.out]; exact Sl.nil)⟩, Below.refl _ _⟩
            case rest =>
            obtain ⟨rfl, ⟨D19, n19, rfl, HP19⟩, hb1011⟩ := hcut
            generalize wc = w11 at *
            have hb511 := hb5r.next hb1011 (Nat.le_refl _)
            have hb911 := hbr.next hb1011 (Nat.le_refl _)
            have HJL : Hid (JA.2.1.length ≤ 24 ∧ JA.2.2.length ≤ 25) := Lib.hid (by rw [HJA.out]; exact joinAns_bnd _ _ _)
            have HSL : Hid (SA.1.length ≤ 30) := Lib.hid (by
              rw [HSA2.out]
              exact sinceAns_bnd fun f hf => by
                rw [HW0.out] at hf
                obtain ⟨r, hr, rfl⟩ := List.mem_map.1 hf
                exact hv30 r hr)
            have HQ16 := Lib.hid fun W (h : Below w11.heap.size w11 W) => HP16.out.below (hb911.next h (Nat.le_refl _))
            have HQ17 := Lib.hid fun W (h : Below w11.heap.size w11 W) => HP17.out.below (hb911.next h (Nat.le_refl _))
            have HQ19 := Lib.hid fun W (h : Below w11.heap.size w11 W) => HP19.out.below h
            have n1 : (JA.1 != JA.1) = false := by simp
            have n2 : (SA.2 != SA.2) = false := by simp
            clear hbr hb5r hb1011 hki hb911
            go_wp2_with fail
            refine (HJN.out w11 hb511).mono ?_
            rintro e w12 ⟨v0, v1, rfl, ho0, ho1, hb12⟩
            obtain ⟨E0, g0, rfl, _, _⟩ := ho0.form
            obtain ⟨E1, g1, rfl, _, _⟩ := ho1.form
            have hb512 := hb511.next hb12 (Nat.le_refl _)
            go_wp2_with fail
            refine (HSN.out w12 hb512).mono ?_
            rintro e w13 ⟨v, rfl, ho2, hb13⟩
            obtain ⟨E2, g2, rfl, _, _⟩ := ho2.form
            have hb1113 := hb12.next hb13 (Nat.le_refl _)
            have HX0 := Lib.hid fun W (h : Below w13.heap.size w13 W) => ho0.below (hb13.next h (Nat.le_refl _))
            have HEJ : Hid (∀ W, Below w13.heap.size w13 W → Calls Tryz.prog 18 #[.slice E0 JA.2.1.length g0, .slice D16 JA.2.1.length n16] W fun e w' => e = .returned (.bool true) ∧ Below W.heap.size W w') := Lib.hid fun W h => by
              have h24 := HJL.out
              have := equalS E0 JA.2.1 g0 D16 JA.2.1 n16 W (by unfold big; omega) (HX0.out W h).sl (by unfold big; omega) (HQ16.out W (hb1113.next h (Nat.le_refl _)))
              rwa [decide_eq_true rfl] at this
            have HEP : Hid (∀ W, Below w13.heap.size w13 W → Calls Tryz.prog 19 #[.slice E1 JA.2.2.length g1, .slice D17 JA.2.2.length n17] W fun e w' => e = .returned (.bool true) ∧ Below W.heap.size W w') := Lib.hid fun W h => by
              have h24 := HJL.out
              have := eqSp E1 JA.2.2 g1 D17 JA.2.2 n17 W (by unfold big; omega) (ho1.below (hb13.next h (Nat.le_refl _))).sl (by unfold big; omega) (HQ17.out W (hb1113.next h (Nat.le_refl _)))
              rwa [decide_eq_true rfl] at this
            have HEI : Hid (∀ W, Below w13.heap.size w13 W → Calls Tryz.prog 20 #[.slice E2 SA.1.length g2, .slice D19 SA.1.length n19] W fun e w' => e = .returned (.bool true) ∧ Below W.heap.size W w') := Lib.hid fun W h => by
              have h24 := HSL.out
              have := eqI E2 SA.1 g2 D19 SA.1 n19 W (by unfold big; omega) (ho2.below h).sl (by unfold big; omega) (HQ19.out W (hb1113.next h (Nat.le_refl _)))
              rwa [decide_eq_true rfl] at this
            clear ho0 ho1 ho2 hb12 hb13 hb512
            go_wp2_with fail
            refine (HEJ.out w13 (Below.refl _ _)).mono ?_
            rintro e w14 ⟨rfl, hb14⟩
            go_wp2_with fail
            refine (HEP.out w14 hb14).mono ?_
            rintro e w15 ⟨rfl, hb15⟩
            have hb1315 := hb14.next hb15 (Nat.le_refl _)
            go_wp2_with fail
            refine (HEI.out w15 hb1315).mono ?_
            rintro e w16 ⟨rfl, hb16⟩
            have hb1316 := hb1315.next hb16 (Nat.le_refl _)
            have hcl := Own.cl (HX0.out w16 hb1316)
            have hb1116 := hb1113.next hb1316 (Nat.le_refl _)
            clear hb14 hb15 hb16 hb1315 hb1316 hb1113
            go_upto_region 32 with (refine wpClearS (o := ⟨none, _, _, _, _, _⟩) rfl (.tmp 132) rfl rfl hcl ?_; intro w17 hc17)
            have hb517 : Below w5.heap.size w5 w17 := hb511.trans ((hb1116.trans hc17.below).mono hb511.size)
            clear hcl hc17 hb1116 hb511
            go_wp2_with fail
            refine (HE0.out w17 hb517).mono ?_
            rintro e w18 ⟨rfl, hb18⟩
            have hb518 := hb517.next hb18 (Nat.le_refl _)
            go_wp2_with fail
            refine (HE1.out w18 hb518).mono ?_
            rintro e w19 ⟨rfl, hb19⟩
            have hb519 := hb518.next hb19 (Nat.le_refl _)
            go_wp2_with fail
            refine (HE2.out w19 hb519).mono ?_
            rintro e w20 ⟨rfl, hb20⟩
            have hb520 := hb519.next hb20 (Nat.le_refl _)
            go_wp2_with fail
            refine (HE3.out w20 hb520).mono ?_
            rintro e w21 ⟨rfl, hb21⟩
            have hb021 := hb05.next (hb520.next hb21 (Nat.le_refl _)) (Nat.le_refl _)
            go_wp2_with fail
            refine (HAW.out _ hb021).mono ?_
            rintro _ wz ⟨rfl, hbz⟩
            go_wp2_with fail
            go_ret
            exact ⟨rfl, (hb021).next hbz (Nat.le_refl _)⟩
end Fl
end Go.Proofs.YtekkhnjepcebkaaGreatDoor
namespace Go.Proofs.YtekkhnjepcebkaaGreatDoor.fcopies
open Go.ChangeShapes Go.WideShapes Go.ChangeAt Go.RowKit
set_option maxRecDepth 100000
theorem contract (H : Type) (enc : TypeId × Value → H) (W : World) (base : Nat) (args : Array Value) (ds gs : List (DataW H)) (before : List MemPlace)
    (hval : ∀ (j : Nat) t v, Tryz.f3.params[j]? = some t → args[j]? = some v → Value.okWide Tryz.prog W .any base t v)
    (hW : DataW.Whole enc Tryz.prog Tryz.f3.params.toList Rows.fileCopiesSpec.vars false W args.toList ds gs before) (hL : laidMetH Tryz.prog Rows.fileCopiesRow.laid W) :
    Calls Tryz.prog 3 args W fun e W' => ∃ v, e = .returned v ∧ Rows.fileCopiesSpec.post enc Tryz.prog Tryz.f3 false true false false W args v W' := by
  have hW' := hW
  obtain ⟨p, q, hA0, hV, he, hfz, hnd⟩ := hW
  have hA : DataW.TrodAll enc Tryz.prog W 0 (fun _ => true) true Tryz.f3.params.toList args.toList ds p := hA0
  rw [Tryz.params3] at hA hval
  obtain ⟨v0, vs0, d0, ds0, p0, q0, hargs, rfl, rfl, h0, r0⟩ := trodAll_cons hA
  obtain ⟨v1, vs1, d1, ds1, p1, q1, rfl, rfl, rfl, h1, r1⟩ := trodAll_cons r0
  obtain ⟨v2, vs2, d2, ds2, p2, q2, rfl, rfl, rfl, h2, r2⟩ := trodAll_cons r1
  obtain ⟨v3, vs3, d3, ds3, p3, q3, rfl, rfl, rfl, h3, r3⟩ := trodAll_cons r2
  obtain ⟨rfl, rfl, rfl⟩ := trodAll_nil r3
  obtain rfl : args = #[v0, v1, v2, v3] := by cases args; simp_all
  obtain ⟨rfl, rfl⟩ := trodVars_none hV
  obtain ⟨A, a, c, rfl, hc, hm, hs⟩ := openStrs (hval 0 _ v0 rfl rfl) h0
  obtain ⟨A', b, c', rfl, hc', hm', hs'⟩ := openStrs (hval 1 _ v1 rfl rfl) h1
  obtain ⟨A2, b2, c2, rfl, hc2, hm2, hs2⟩ := openStrs (hval 2 _ v2 rfl rfl) h2
  obtain ⟨B, rs, d, rfl, hd, hm3, hsr, hrr, _⟩ := openRowsS (hval 3 _ v3 rfl rfl) h3
  refine (Fl.copies_law A a c A' b c' A2 b2 c2 B rs d W hc hc' hc2 hd hs hs' hs2 hsr hrr (tab_of hL)).mono fun e W' ⟨he', hb⟩ => ?_
  subst he'
  exact ⟨_, rfl, law_post (by rw [Tryz.params3]; decide) rfl rfl Tryz.underlying4 hW' hb rfl rfl rfl⟩
theorem reads (os : Os) {H : Type} (enc : TypeId × Value → H) : ∃ places, DataW.whole enc Tryz.prog ((laidWorld os).forCall (fun _ _ => 0) ⟨#[], #[.slice none 0 0, .slice none 0 0, .slice none 0 0, .slice none 0 0], []⟩).memory Tryz.f3.params.toList Rows.fileCopiesSpec.vars false #[Value.slice none 0 0, Value.slice none 0 0, Value.slice none 0 0, Value.slice none 0 0].toList 8 = some ([.nil, .nil, .nil, .nil], [], places) :=
  ⟨[], by kernel_rfl⟩
theorem lifted (os : Os) (started : os.Started) (H : Type) (enc : TypeId × Value → H) (F : Stop.Interp) :
    ReturnsInHanded {} Tryz.checked os 3 .any ((OpenSpec.ofChange Rows.fileCopiesSpec).preRow enc Tryz.prog Tryz.f3 Rows.fileCopiesRow.domain false Rows.fileCopiesRow.laid) (((OpenSpec.ofChange Rows.fileCopiesSpec).at F).post enc Tryz.prog Tryz.f3 false true false false) := by
  obtain ⟨places, hx⟩ := reads os enc
  refine returnsInHanded_of_row (C := Tryz.checked) (s := OpenSpec.ofChange Rows.fileCopiesSpec) own started (by kernel_rfl) Tryz.func3
    (witness_row_at (enc := enc) (C := Tryz.checked) false (laidWorld os) #[.slice none 0 0, .slice none 0 0, .slice none 0 0, .slice none 0 0] rfl (by kernel_rfl) (by kernel_rfl) (by kernel_rfl)
      (OpenSpec.preRow_of_cond 8 hx (by kernel_rfl) (fun k hk => by cases hk) (by kernel_rfl) (laid_met os _))) ?_
  intro W base args ds gs before hval hW _ _ _ hL _ _
  exact contract H enc W base args ds gs before hval hW hL
theorem said : Rows.FileCopiesSaid :=
  OpenClaim.holds_of_cond 3 Tryz.f3 rfl rfl rfl rfl rfl rfl rfl ⟨rfl, rfl, rfl, rfl, rfl⟩ rfl rfl rfl rfl rfl (by kernel_rfl) Tryz.func3 (by kernel_rfl)
    (of_decide_eq_true (by kernel_rfl)) (by unfold Func.isWrapper; first | (rw [if_pos (by decide +kernel)]; kernel_rfl) | (rw [if_neg (by decide +kernel)]; exact ⟨rfl, rfl⟩))
    (fun os started H enc _ F => by rw [OpenClaim.pre_eq_preRow]; exact lifted os started H enc F)
theorem plain (f : FuncId) (fn : Func) (hf : Tryz.pinned.checked.prog.funcNamed "petersham/petershamlaw11.FileCopies" = some f) (hfn : Tryz.pinned.checked.prog.funcs[f]? = some fn) :
    false = Tryz.pinned.checked.prog.looks [] ∧ ∀ (j : Nat) t, fn.params[j]? = some t → Tryz.pinned.checked.prog.wantsStandIn t = false := by
  obtain rfl : f = 3 := Option.some.inj ((show Tryz.prog.funcNamed "petersham/petershamlaw11.FileCopies" = some 3 by kernel_rfl).symm.trans hf) |>.symm
  obtain rfl : fn = Tryz.f3 := (Option.some.inj (Tryz.func3.symm.trans hfn)).symm
  refine ⟨by kernel_rfl, fun j t ht => ?_⟩
  rw [Tryz.params3] at ht
  have ht' := Array.mem_of_getElem? ht
  simp at ht'
  rcases ht' with rfl | rfl
  · exact (show Tryz.prog.wantsStandIn 22 = false by kernel_rfl)
  · exact (show Tryz.prog.wantsStandIn 23 = false by kernel_rfl)
/-- THE CARD. -/
theorem card : Rows.FileCopiesCardSaid :=
  Claim7.holds_tied_plain_at .later [] _ _ _ _ said (fun _ h => by cases h) (by kernel_rfl) (fun _ h => by cases h) fileCopies_row_tie rfl ⟨rfl, rfl⟩ (by kernel_rfl) rfl plain (by kernel_rfl)
end Go.Proofs.YtekkhnjepcebkaaGreatDoor.fcopies
end
