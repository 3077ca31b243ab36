/- FileShortest: the walk. Condition: the library's table of powers of ten lies as the program's text lays it. -/
import Derived.Test.YtekkhnjepcebkaaGreatDoorCmpI
import Derived.Test.YtekkhnjepcebkaaGreatDoorChangeF
import Derived.Test.YtekkhnjepcebkaaGreatDoorFlY
import Derived.Test.YtekkhnjepcebkaaGreatDoorFreeOne
import Derived.Test.YtekkhnjepcebkaaGreatDoorFrameF
set_option linter.unusedVariables false
set_option linter.unusedSimpArgs false
namespace Go.Proofs.YtekkhnjepcebkaaGreatDoor
namespace Fl
open Go.RowKit Go.Shelf
set_option maxRecDepth 100000
theorem goodSh {xs : List ByteArray} (hl : xs.length ≤ 24) (h : ∀ s ∈ xs, LnOk s) : Good xs := ⟨hl, fun s hs => (h s hs).2, fun s hs => (h s hs).1⟩
theorem mk10s (g : Nat) (w : World) (h : IsSpool (g + 1) w g 0) : Calls Tryz.prog 44 #[.pointer (some ⟨g, 0, none⟩), .int .i64 10] w fun e w' => ∃ (v : Value) (xs : List ByteArray), e = .returned v ∧ Own strE 9 w.heap.size w' v xs ∧ xs.length ≤ 10 ∧ (∀ s ∈ xs, LnOk s) ∧ Only g w w' := by
  have := mk_spec (g + 1) w g 0 10 h (Nat.zero_lt_succ _) (by decide)
  refine this.mono ?_
  rintro e w' ⟨v, xs, k', rfl, h1, h2, h3, _, _, h4⟩
  exact ⟨v, xs, rfl, h1, h2, h3, h4⟩
theorem changed6 (g : Nat) (w : World) (A : Option Addr) (f : List ByteArray) (c : Nat) (h : IsSpool (g + 1) w g 0) (hs : Sl strE w A f) (hf : f.length ≤ 21) (hok : ∀ s ∈ f, LnOk s) :
    Calls Tryz.prog 45 #[.pointer (some ⟨g, 0, none⟩), .slice A f.length c, .int .i64 6] w fun e w' => ∃ (v : Value) (xs : List ByteArray), e = .returned v ∧ Own strE 9 w.heap.size w' v xs ∧ xs.length ≤ 21 ∧ (∀ s ∈ xs, LnOk s) ∧ Only g w w' := by
  have := changed_spec (g + 1) w g 0 6 A f c h (by omega) (by omega) hs hf hok
  refine this.mono ?_
  rintro e w' ⟨v, xs, k', rfl, h1, h2, h3, _, _, h4⟩
  exact ⟨v, xs, rfl, h1, h2, h3, h4⟩
theorem cut_all {Pw : World → Prop} {A : Option Addr} {base : List ByteArray} {c i x : Nat} (hc : base.length ≤ c) (hi : i ≤ x) (hx : x ≤ base.length) (hs : ∀ W, Pw W → Sl strE W A base) :
    ∃ (X : Option Addr) (n : Nat) (ys : List ByteArray), ys = File.cut base i x ∧ ys.length ≤ base.length ∧ ys.length ≤ n ∧ (∀ W, Pw W → Sl strE W X ys) ∧ ∀ W : World, (Instr.slice 22 (.slice A base.length c) (some (iv (i : Int))) (some (iv (x : Int))) none).run Tryz.prog W = .ok (.slice X ys.length n) W := by
  refine ⟨cutA A c i 1, c - i, File.cut base i x, rfl, File.cut_len _ _ _, by rw [File.cut_length hx hi]; omega, fun W h => Sl.cut (hs W h) hc hi hx, ?_⟩
  have h1 := run_cut strE tyStrs A base.length c i x hi (Nat.le_trans hx hc)
  rw [File.cut_length hx hi]
  exact h1
theorem lev_le {a b : List ByteArray} {i : Nat} (hi : i < a.length) (j : Nat) : 0 ≤ File.lev a b i j ∧ File.lev a b i j ≤ (a.length : Int) := by
  unfold File.lev
  have := File.pre_le a b i j
  split <;> omega
set_option maxHeartbeats 16000000 in
theorem short_law (A : Option Addr) (bs : List Int) (c : Nat) (A' : Option Addr) (bs' : List Int) (c' : Nat) (A'' : Option Addr) (bs'' : List Int) (c'' : Nat) (w : World) (hs : Sl byteE w A bs) (hs' : Sl byteE w A' bs') (hs'' : Sl byteE w A'' bs'') (ht : Tab w) :
    Calls Tryz.prog 7 #[.slice A bs.length c, .slice A' bs'.length c', .slice A'' bs''.length c''] w fun e w' => e = .returned (.bool true) ∧ Below w.heap.size w w' := by
  have HT := Lib.hid ht
  have HAW : Hid (∀ W, Below w.heap.size w W → Calls Tryz.prog 10 #[] W fun e w' => e = .returned (.bool true) ∧ Below W.heap.size W w') := Lib.hid fun W h => awake_spec W (HT.out.below h)
  clear ht
  go_enter Tryz.func7, Tryz.ntmps7
  go_wp2_with fail
  refine (wound_spec A bs c w hs).mono ?_
  rintro e w1 ⟨_, rfl, rfl, hsp1, hb1⟩
  go_wp2_with fail
  refine (mk10s w.heap.size w1 hsp1).mono ?_
  rintro e w2 ⟨v, a, rfl, hoA, hAl, hAg, hon2⟩
  obtain ⟨Aa, ca, rfl, hca, _⟩ := hoA.form
  have hb02 : Below w.heap.size w w2 := hb1.trans (hon2.below.mono (Nat.le_refl _))
  go_wp2_with fail
  refine (wound_spec A' bs' c' w2 (hs'.below hb02)).mono ?_
  rintro e w3 ⟨_, rfl, rfl, hsp3, hb3⟩
  have hb03 := hb02.next hb3 (Nat.le_refl _)
  have hoA3 := hoA.below hb3
  go_wp2_with fail
  refine (changed6 w2.heap.size w3 Aa a ca hsp3 hoA3.sl (by omega) hAg).mono ?_
  rintro e w4 ⟨v, b, rfl, hoB, hBl, hBg, hon4⟩
  obtain ⟨Ab, cb, rfl, hcb, _⟩ := hoB.form
  have hb04 : Below w.heap.size w w4 := hb03.trans (hon4.below.mono hb02.size)
  have hoA4 := hoA3.keep hon4.below.size fun b hb => hon4.other b (hoA3.lt b hb).2 (by have := (hoA.lt b hb).2; omega)
  go_wp2_with fail
  refine (wound_spec A'' bs'' c'' w4 (hs''.below hb04)).mono ?_
  rintro e w5 ⟨_, rfl, rfl, hsp5, hb5⟩
  have hb05 := hb04.next hb5 (Nat.le_refl _)
  have HSA4 := Lib.hid hoA4.sl
  have HSB4 := Lib.hid hoB.sl
  have gA := goodSh (by omega) hAg
  have gB := goodSh (by omega) hBg
  have hlt4 := hsp5.1
  clear hs hs' hs'' hsp1 hsp3 hon2 hon4 hb1 hb3 hb02 hb03 hoA hoA3 hoA4 hoB hAg hBg HT
  have herr : errOf a b = 0 := by unfold errOf; rw [if_pos (check_of_good gA)]; exact check_of_good gB
  have hba : a.length ≤ big := by unfold big; omega
  have hbb : b.length ≤ big := by unfold big; omega
  obtain ⟨gq, hgq⟩ : ∃ gq, gq = w4.heap.size := ⟨_, rfl⟩
  have HS4A := Lib.hid fun W (h : Below gq w4 W) => HSA4.out.below (show Below w4.heap.size w4 W by rw [← hgq]; exact h)
  have HS4B := Lib.hid fun W (h : Below gq w4 W) => HSB4.out.below (show Below w4.heap.size w4 W by rw [← hgq]; exact h)
  rw [← hgq] at hsp5 hb5 hlt4
  rw [← hgq]
  have hgw : w.heap.size ≤ gq := by rw [hgq]; exact hb04.size
  have hb04' : Below w.heap.size w w4 := hb04
  have hsz5 : gq < w5.heap.size := hsp5.2.1
  have HCM := Lib.hid (Common_spec Aa a ca Ab b cb w5 hba hbb (HS4A.out _ hb5) (HS4B.out _ hb5))
  have HLV := Lib.hid fun W (h : Below w5.heap.size w5 W) => levels_good Aa a ca Ab b cb W gA gB (HS4A.out _ (hb5.trans (h.mono (by omega)))) (HS4B.out _ (hb5.trans (h.mono (by omega))))
  have hpp := File.common_pairs a b
  have HFI := Lib.hid fun (l : List (Nat × Nat)) (h : File.Pairs a b 0 0 l) (hl : l.length = (File.common a b).length) => File.common_first h hl
  have HMO := Lib.hid fun (l : List (Nat × Nat)) (h : File.Pairs a b 0 0 l) => File.pairs_most h
  have hLl : (File.common a b).length ≤ 10 := by rw [File.common_length]; exact Nat.le_trans (File.lcs_most _ _) hAl
  have hlc := File.common_length a b
  rw [herr] at HCM
  simp only [if_true] at HCM
  obtain ⟨L, hL⟩ : ∃ L, L = File.common a b := ⟨_, rfl⟩
  simp only [← hL] at HCM hpp HFI HMO hLl hlc
  have HLC := Lib.hid hlc
  have HER := Lib.hid herr
  have HGA := Lib.hid gA
  have HGB := Lib.hid gB
  clear hL HSA4 HSB4 hlc herr gA gB hb04 hb05 hgq
  go_wp2_with fail
  refine HCM.out.mono ?_
  rintro e w6 ⟨v, rfl, hoL, hb6⟩
  obtain ⟨AL, cL, rfl, hcL, _⟩ := hoL.form
  clear HCM
  go_wp2_with fail
  refine (HLV.out w6 hb6).mono ?_
  rintro e w7 ⟨v, lv, rfl, hoV, hrV, hqV, hb7⟩
  obtain ⟨AV, cV, rfl, hcV, _⟩ := hoV.form
  have hb57 := hb6.next hb7 (Nat.le_refl _)
  have hoL7 := hoL.below hb7
  have hlvl : lv.length = a.length := by have := congrArg List.length hqV; rw [List.length_map, File.levs_len] at this; exact this
  have hb47 : Below gq w4 w7 := hb5.trans (hb57.mono (by omega))
  have hPP := pairs_spec Aa a ca Ab b cb AL L cL w7 hba hbb (by unfold big; omega) (HS4A.out _ hb47) (HS4B.out _ hb47) hoL7.sl hpp
  have hneL : ((lv.length : Int) != (a.length : Int)) = false := by simp; omega
  clear HLV hpp
  go_wp2_with fail
  refine hPP.mono ?_
  rintro e w8 ⟨rfl, hb8⟩
  have hb58 := hb57.next hb8 (Nat.le_refl _)
  have hb48 : Below gq w4 w8 := hb5.trans (hb58.mono (by omega))
  have hsp8 : IsSpool (gq + 1) w8 gq 0 := hsp5.below hb58 (by omega)
  have HOL : Hid (Own pairE 83 w5.heap.size w8 (.slice AL L.length cL) L) := Lib.hid (hoL7.below hb8)
  have HOV : Hid (Own (rwE Int) 33 w6.heap.size w8 (.slice AV lv.length cV) lv) := Lib.hid (hoV.below hb8)
  have HOLo : Hid (∀ W, Only gq w8 W → Own pairE 83 w5.heap.size W (.slice AL L.length cL) L) := Lib.hid fun W h => HOL.out.keep h.below.size fun b hb => h.other b (HOL.out.lt b hb).2 (by have := (HOL.out.lt b hb).1; omega)
  have HRV : Hid (∀ r ∈ lv, Own intE 3 w6.heap.size w8 (.slice r.A r.xs.length r.c) r.xs ∧ r.xs.length ≤ r.c) := Lib.hid fun r hr => ⟨(hrV r hr).1.below hb8, (hrV r hr).2⟩
  have HQV := Lib.hid hqV
  have hs56 := hb6.size
  have hs68 : w6.heap.size ≤ w8.heap.size := Nat.le_trans hb7.size hb8.size
  have HLB : Hid (∀ r ∈ lv, r.xs.length = b.length) := Lib.hid fun r hr => by
    have : r.xs ∈ File.levs a b := by rw [← HQV.out]; exact List.mem_map_of_mem hr
    obtain ⟨i, _, hi⟩ := List.mem_map.1 this
    rw [← hi, File.rowL_len]
  have HVo : Hid (∀ W, Only gq w8 W → Own (rwE Int) 33 w6.heap.size W (.slice AV lv.length cV) lv ∧ RowsIn w6.heap.size (a.length : Int) b.length W lv) := Lib.hid fun W h => ⟨ownOnly HOV.out (by omega) h, RowsIn.only (fun r hr => by
    have hm : r.xs ∈ File.levs a b := by rw [← HQV.out]; exact List.mem_map_of_mem hr
    exact ⟨(levs_in hm).1, (levs_in hm).2, (HRV.out r hr).1, (HRV.out r hr).2⟩) (by omega) h⟩
  have hs58 := hb58.size
  clear hPP hoL hoL7 hoV hrV hqV hb6 hb7 hb8 hb57 hb47 hb5 hsp5
  go_wp2_with fail
  go_loopw [73] (fun v wr => ∃ k : Nat, k ≤ lv.length ∧ v = iv (k : Int) ∧ wr = w8) (fun v _ => lv.length - (intOf v).toNat)
  case atStart => exact ⟨0, Nat.zero_le _, rfl, rfl⟩
  case round =>
    obtain ⟨k, hk, rfl, rfl⟩ := hrel
    by_cases hlt : k < lv.length
    · have hki : (k : Int) < (lv.length : Int) := by omega
      obtain ⟨bV, oV, r, hAV, hbV, hr, hcr⟩ := Sl.atRw HOV.out.sl hlt
      subst hAV
      have hrl := HLB.out r (mem_at hr)
      have hne2 : ((r.xs.length : Int) != (b.length : Int)) = false := by simp; omega
      clear hr hrl
      go_wp2_with fail
      go_roundw
      case rel => exact ⟨k + 1, by omega, by go_num, trivial⟩
      case measure => simp [intOf]; omega
    · have hki : ¬ (k : Int) < (lv.length : Int) := by omega
      generalize wr = w8 at *
      go_wp2_with fail
      go_loopw [83] (fun v wr => ∃ (t n : Nat), t ≤ 6 ∧ v = iv (t : Int) ∧ n ≤ 1000 * t ∧ IsSpool (gq + 1) wr gq n ∧ Only gq w8 wr) (fun v _ => 6 - (intOf v).toNat)
      case atStart => exact ⟨0, 0, by omega, rfl, by omega, hsp8, Only.refl _ _⟩
      case round =>
        clear hsp8
        obtain ⟨t, n0, ht, rfl, hn0, hsp, hon⟩ := hrel
        have hsz8 := hon.below.size
        by_cases hlt6 : t < 6
        · have hti : (t : Int) < 6 := by omega
          go_wp2_with fail
          go_loopw [16, 17, 18] (fun u v1 v2 wx => ∃ (i j n : Nat) (out : List (Nat × Nat)), i ≤ a.length ∧ j ≤ b.length ∧ v1 = iv (i : Int) ∧ v2 = iv (j : Int) ∧ Hid (Own pairE 83 w8.heap.size wx u out) ∧ Hid (File.Pairs a b 0 0 out) ∧ Hid (∀ p ∈ out, p.1 < i ∧ p.2 < j) ∧ out.length ≤ i ∧ n ≤ n0 + 2 * (i + j) ∧ IsSpool (gq + 1) wx gq n ∧ Only gq w8 wx) (fun _ v1 v2 _ => (a.length - (intOf v1).toNat) + (b.length - (intOf v2).toNat))
          case atStart => exact ⟨0, 0, n0, [], Nat.zero_le _, Nat.zero_le _, rfl, rfl, Own.nil, trivial, fun _ h => (by cases h), Nat.le_refl _, by omega, hsp, hon⟩
          case round =>
            obtain ⟨i, j, n, out, hi, hj, rfl, rfl, HO, HP, HLT, hol, hn, hspx, honx⟩ := hrel
            go_upto_region 18 with fail
            go_cut [94] from 85 to 126 (fun v wx => ∃ z : Bool, v = .bool z ∧ Hid (z = decide (i < a.length ∧ j < b.length)) ∧ wx = wr)
            case first =>
              by_cases hli : (i : Int) < (a.length : Int)
              · by_cases hlj : (j : Int) < (b.length : Int)
                · go_wp2_with fail
                  go_meet
                  exact ⟨true, rfl, Lib.hid (by simp; omega), rfl⟩
                · go_wp2_with fail
                  go_meet
                  exact ⟨false, rfl, Lib.hid (by simp; omega), rfl⟩
              · go_wp2_with fail
                go_meet
                exact ⟨false, rfl, Lib.hid (by simp; omega), rfl⟩
            case rest =>
              obtain ⟨z, rfl, HZ, rfl⟩ := hcut
              generalize wc = wr at *
              cases z
              · clear HZ
                have hol2 : out.length ≤ L.length := HMO.out out HP.out
                have hn2 : n ≤ n0 + 2 * (10 + 21) := by omega
                obtain ⟨Ao, co, rfl, hco, _⟩ := HO.out.form
                have hgt : ¬ (out.length : Int) > (L.length : Int) := by omega
                have HOLr := Lib.hid (HOLo.out wr honx)
                have hz8r := honx.below.size
                have hgz : gq < w8.heap.size := by omega
                go_upto_region 25 with fail
                go_cut [144] from 85 to 144 (fun v wx => v = .bool false ∧ Below wr.heap.size wr wx)
                case first => as_aux_lemma =>
                  by_cases he : out.length = L.length
                  · have hle := File.cmp_le (HFI.out out HP.out he) he
                    have HC := Lib.hid (cmpFn_spec Ao out co AL L cL wr (by unfold big; omega) HO.out.sl (by unfold big; omega) HOLr.out.sl)
                    obtain ⟨zc, hzc⟩ : ∃ zc, zc = File.cmpL out L := ⟨_, rfl⟩
                    rw [← hzc] at HC hle
                    have hei : (out.length : Int) = (L.length : Int) := by omega
                    have hei2 : ((out.length : Int) == (L.length : Int)) = true := by simp [he]
                    clear hzc he hei
                    go_wp2_with fail
                    refine HC.out.mono ?_
                    rintro e w9 ⟨rfl, hb9⟩
                    go_wp2_with fail
                    go_meet
                    exact ⟨congrArg Value.bool (decide_eq_false (by omega)), hb9⟩
                  · have hei2 : ((out.length : Int) == (L.length : Int)) = false := by simp; omega
                    go_wp2_with fail
                    go_meet
                    exact ⟨rfl, Below.refl _ _⟩
                case rest =>
                  obtain ⟨rfl, hbx⟩ := hcut
                  generalize wc = w9 at *
                  have hon9 : Only gq w8 w9 := honx.next hbx (by omega)
                  have hsp9 : IsSpool (gq + 1) w9 gq n := hspx.below hbx (by omega)
                  have HO9 := Lib.hid (HO.out.below hbx)
                  have hz89 := hon9.below.size
                  clear hbx HO honx hspx HOLr hz8r HLT
                  go_wp2_with (at_builtin; refine wpApp1 pairE tyArr2 rfl _ _ rfl HO9.out (a.length, b.length) rfl rfl rfl hz89 (by unfold big; omega) ?_; intro v2 w10 hown2 hb10 hk10; obtain ⟨M, hM⟩ : ∃ M, M = out ++ [(a.length, b.length)] := ⟨_, rfl⟩; rw [← hM] at hown2; obtain ⟨A6, c6, rfl, hc6, _⟩ := hown2.form; have HMM := Lib.hid hM; clear hM)
                  have hM := HMM.out
                  obtain ⟨D, hD⟩ : ∃ D, D = File.keep a b out := ⟨_, rfl⟩
                  have hMl : M.length = out.length + 1 := by rw [hM]; simp
                  have hM25 : M.length ≤ 11 := by omega
                  have hDB : File.diffBy a b 0 0 M = D := by rw [hD, ← File.keep_by HP.out, hM]
                  have hp := HP.out
                  have HAT : Hid (∀ (k : Nat) (p : Nat × Nat), M[k]? = some p → p.1 ≤ a.length ∧ p.2 ≤ b.length) := Lib.hid fun k p h => ends_at hp (by rw [← hM]; exact h)
                  have HNX : Hid (∀ (k : Nat) (p q : Nat × Nat), M[k]? = some p → M[k + 1]? = some q → p.1 < q.1 ∧ p.2 < q.2) := Lib.hid fun k p q h h' => ends_next hp (by rw [← hM]; exact h) (by rw [← hM]; exact h')
                  have hkf := File.keep_facts HGA.out HGB.out hp
                  rw [← hD] at hkf
                  have HKF := Lib.hid hkf
                  have HM : Hid (Own pairE 83 w8.heap.size w10 (.slice A6 M.length c6) M) := Lib.hid hown2
                  have HDB := Lib.hid hDB
                  have hon10 : Only gq w8 w10 := hon9.nextB hb10 (by omega) (Nat.le_refl _)
                  have hsp10 : IsSpool (gq + 1) w10 gq n := hsp9.below hb10 (by omega)
                  have hz810 := hon10.below.size
                  have hb410 : Below gq w4 w10 := hb48.trans hon10.below
                  have HSA10 := Lib.hid fun W (h : Below w10.heap.size w10 W) => HS4A.out W (hb410.trans (h.mono (by omega)))
                  have HSB10 := Lib.hid fun W (h : Below w10.heap.size w10 W) => HS4B.out W (hb410.trans (h.mono (by omega)))
                  clear hown2 HMM hM hD hDB hp hkf hb10 hk10 HO9 hon9 hsp9 hz89 hMl
                  go_loopw [17, 18, 19, 154] (fun v1 v2 u v3 wx => ∃ (i j k : Nat) (cs : List EdV), i ≤ 25 ∧ j ≤ 25 ∧ k ≤ M.length ∧ v1 = iv (i : Int) ∧ v2 = iv (j : Int) ∧ v3 = iv (k : Int) ∧ Hid (∀ p, M[k]? = some p → i ≤ p.1 ∧ j ≤ p.2) ∧ Hid (cs.map EdV.ed ++ File.diffBy a b i j (M.drop k) = D) ∧ cs.length ≤ k ∧ Hid (Own edE 53 w10.heap.size wx u cs) ∧ Hid (∀ W, Below w10.heap.size w10 W → ∀ r ∈ cs, EdOk W r) ∧ Hid (∀ r ∈ cs, r.old.length ≤ a.length ∧ r.new.length ≤ b.length) ∧ Below w10.heap.size w10 wx) (fun _ _ _ v3 _ => M.length - (intOf v3).toNat)
                  case atStart => exact ⟨0, 0, 0, [], by omega, by omega, Nat.zero_le _, rfl, rfl, rfl, Lib.hid (fun _ _ => ⟨Nat.zero_le _, Nat.zero_le _⟩), HDB, Nat.le_refl _, Own.nil, Lib.hid (fun _ _ _ h => by cases h), Lib.hid (fun _ h => by cases h), Below.refl _ _⟩
                  case round =>
                    clear HDB hb410
                    obtain ⟨i, j, k, cs, hi, hj, hk, rfl, rfl, rfl, HQ, HD, hol, HO, HE, HB1, hbr⟩ := hrel
                    by_cases hlt : k < M.length
                    · as_aux_lemma =>
                      have hki : (k : Int) < (M.length : Int) := by omega
                      obtain ⟨bm, om, p, hAm, hbm, hpx, _, _⟩ := Sl.atPr (HM.out.below hbr).sl hlt
                      subst hAm
                      have HCP := Lib.hid (Sl.cellPr (HM.out.below hbr).sl hpx)
                      obtain ⟨hpa, hpb⟩ := HAT.out k p hpx
                      obtain ⟨hip, hjp⟩ := HQ.out p hpx
                      have hd := HD.out
                      rw [drop_at hpx, File.diffBy] at hd
                      have HD2 := Lib.hid hd
                      have HP2 : Hid (∀ q, M[k + 1]? = some q → p.1 + 1 ≤ q.1 ∧ p.2 + 1 ≤ q.2) := Lib.hid fun q hq => HNX.out k p q hpx hq
                      obtain ⟨p1, p2⟩ := p
                      simp only at hpa hpb hip hjp HCP HD2 HP2
                      have ewx : IntKind.i64.wrap ((p1 : Int) + 1) = (p1 : Int) + 1 := IntWalk.i64_in _ (by omega)
                      have ewy : IntKind.i64.wrap ((p2 : Int) + 1) = (p2 : Int) + 1 := IntWalk.i64_in _ (by omega)
                      have ewk : IntKind.i64.wrap ((k : Int) + 1) = (k : Int) + 1 := IntWalk.i64_in _ (by omega)
                      obtain ⟨hc0, hc1⟩ := HCP.out wr (Below.refl _ _)
                      have HPX := Lib.hid hpx
                      clear hd HD HQ hpx
                      go_upto_region 32 with fail
                      have hbB : Below wr.heap.size wr (wr.alloc (.cells #[Value.int .i64 (p1 : Int), Value.int .i64 (p2 : Int)] 83)) := (Below.refl _ _).alloc (Nat.le_refl _) _
                      have hB : Blk (wr.alloc (.cells #[Value.int .i64 (p1 : Int), Value.int .i64 (p2 : Int)] 83)) wr.heap.size 83 #[iv (p1 : Int), iv (p2 : Int)] := Blk.new _ _ _
                      generalize wr.alloc (.cells #[Value.int .i64 (p1 : Int), Value.int .i64 (p2 : Int)] 83) = wb at *
                      have hbb : Below w10.heap.size w10 wb := hbr.next hbB (Nat.le_refl _)
                      have HO1 := Lib.hid (HO.out.below hbB)
                      have hgP := hB.lt
                      have r0 := hB.cell 0
                      have r1 := hB.cell 1
                      have HB := Lib.hid hB
                      clear hc0 hc1 hbr HO hbm HCP hbB hB
                      generalize wr.heap.size = gP at *
                      have HBX : Hid (∀ W, Below wb.heap.size wb W → W.cell? ⟨gP, 0, none⟩ = some (iv (p1 : Int)) ∧ W.cell? ⟨gP, 1, none⟩ = some (iv (p2 : Int))) := Lib.hid fun W h => ⟨(HB.out.under h).cell 0, (HB.out.under h).cell 1⟩
                      by_cases hij : i < p1 ∨ j < p2
                      · have HDN : Hid ((cs.map EdV.ed ++ [⟨(i : Int), File.cut a i p1, File.cut b j p2⟩]) ++ File.diffBy a b (p1 + 1) (p2 + 1) (M.drop (k + 1)) = D) := Lib.hid (by
                          rw [← HD2.out, if_pos hij]; simp)
                        obtain ⟨X1, n1, ya, hya, hyal, hyn, hsy, hC1⟩ := cut_all (i := i) (x := p1) hca hip hpa HSA10.out
                        obtain ⟨X2, n2, yb, hyb, hybl, hyn2, hsz, hC2⟩ := cut_all (i := j) (x := p2) hcb hjp hpb HSB10.out
                        obtain ⟨Y, hY⟩ : ∃ Y : EdV, Y = ⟨(i : Int), X1, n1, ya, X2, n2, yb⟩ := ⟨_, rfl⟩
                        have HYO : Hid (∀ W, Below w10.heap.size w10 W → EdOk W Y) := Lib.hid fun W h => by rw [hY]; exact ⟨hsy W h, hsz W h, hyn, hyn2⟩
                        have HYL : Hid (Y.old.length ≤ a.length ∧ Y.new.length ≤ b.length) := Lib.hid (by rw [hY]; exact ⟨hyal, hybl⟩)
                        have HYE : Hid (Y.ed = ⟨(i : Int), File.cut a i p1, File.cut b j p2⟩) := Lib.hid (by rw [hY]; show File.Edit.mk _ _ _ = _; rw [hya, hyb])
                        have HYC : Hid (([.int .i64 (i : Int), .slice X1 ya.length n1, .slice X2 yb.length n2] : List Value) = [Y].flatMap edE.cells) := Lib.hid (by rw [hY]; rfl)
                        clear hya hyb hsy hsz hY HD2
                        have hT : (((p1 : Int) > (i : Int)) ∨ ¬ ((p1 : Int) > (i : Int)) ∧ ((p2 : Int) > (j : Int))) := by omega
                        rcases hT with hx1 | ⟨hx1, hy1⟩
                        all_goals
                          go_upto_region 33 with fail
                          refine wp_free_lit (by kernel_rfl) 14 (by kernel_rfl) (by kernel_rfl) (by decide) (fun nR x => Below wb.heap.size wb x) (fun x x' => Below x.heap.size x x')
                            [fun _ u _ => u = u19,
                             fun _ u _ => u = iv (i : Int),
                             fun _ u _ => u = .slice Aa a.length ca,
                             fun _ u _ => u = iv (i : Int),
                             fun _ u _ => u = .pointer (some ⟨gP, 0, none⟩),
                             fun _ u _ => u = iv (p1 : Int),
                             fun _ u _ => u = .slice X1 ya.length n1,
                             fun _ u _ => u = .slice Ab b.length cb,
                             fun _ u _ => u = iv (j : Int),
                             fun _ u _ => u = .pointer (some ⟨gP, 1, none⟩),
                             fun _ u _ => u = iv (p2 : Int),
                             fun _ u _ => u = .slice X2 yb.length n2,
                             fun _ u _ => u = .agg #[iv (i : Int), .slice X1 ya.length n1, .slice X2 yb.length n2],
                             fun _ u x => ∃ A1, u = .slice A1 1 1 ∧ Sl edE x A1 [Y]]
                            (Below.refl _ wb).drew ?_ ?_
                          · simp only [List.take_succ_cons, List.take_zero, HopL]
                            refine ⟨?_, ?_, ?_, ?_, ?_, ?_, ?_, ?_, ?_, ?_, ?_, ?_, ?_, ?_, trivial⟩
                            · refine ⟨fun _ _ _ _ _ h => h, fun _ _ _ _ h _ => h, fun v nR x hnR hR hk => ?_⟩
                              simp only [List.take_succ_cons, List.take_zero, frameF, Act.put, List.setIfInBounds_toArray, List.set_cons_zero, List.set_cons_succ]
                              exact stepF_val (by first | rfl | simp [Region.wanted, yielded, *]) (by go_simp <;> omega) ⟨rfl, Below.refl _ _, hR⟩
                            · refine ⟨fun _ _ _ _ _ h => h, fun _ _ _ _ h _ => h, fun v nR x hnR hR hk => ?_⟩
                              simp only [List.take_succ_cons, List.take_zero, frameF, Act.put, List.setIfInBounds_toArray, List.set_cons_zero, List.set_cons_succ]
                              exact stepF_val (by first | rfl | simp [Region.wanted, yielded, *]) (by go_simp <;> omega) ⟨rfl, Below.refl _ _, hR⟩
                            · refine ⟨fun _ _ _ _ _ h => h, fun _ _ _ _ h _ => h, fun v nR x hnR hR hk => ?_⟩
                              simp only [List.take_succ_cons, List.take_zero, frameF, Act.put, List.setIfInBounds_toArray, List.set_cons_zero, List.set_cons_succ]
                              exact stepF_val (by first | rfl | simp [Region.wanted, yielded, *]) (by go_simp <;> omega) ⟨rfl, Below.refl _ _, hR⟩
                            · refine ⟨fun _ _ _ _ _ h => h, fun _ _ _ _ h _ => h, fun v nR x hnR hR hk => ?_⟩
                              simp only [List.take_succ_cons, List.take_zero, frameF, Act.put, List.setIfInBounds_toArray, List.set_cons_zero, List.set_cons_succ]
                              exact stepF_val (by first | rfl | simp [Region.wanted, yielded, *]) (by go_simp <;> omega) ⟨rfl, Below.refl _ _, hR⟩
                            · refine ⟨fun _ _ _ _ _ h => h, fun _ _ _ _ h _ => h, fun v nR x hnR hR hk => ?_⟩
                              simp only [List.take_succ_cons, List.take_zero, frameF, Act.put, List.setIfInBounds_toArray, List.set_cons_zero, List.set_cons_succ]
                              exact stepF_val (by first | rfl | simp [Region.wanted, yielded, *]) (by go_simp <;> omega) ⟨rfl, Below.refl _ _, hR⟩
                            · refine ⟨fun _ _ _ _ _ h => h, fun _ _ _ _ h _ => h, fun v nR x hnR hR hk => ?_⟩
                              have h4 : v 4 = .pointer (some ⟨gP, 0, none⟩) := hk 4 (by kernel_rfl)
                              have g1 := (HBX.out _ hR).1
                              simp only [List.take_succ_cons, List.take_zero, frameF, Act.put, List.setIfInBounds_toArray, List.set_cons_zero, List.set_cons_succ]
                              exact stepF_val (by first | rfl | simp [Region.wanted, yielded, *]) (by go_simp <;> omega) ⟨rfl, Below.refl _ _, hR⟩
                            · refine ⟨fun _ _ _ _ _ h => h, fun _ _ _ _ h _ => h, fun v nR x hnR hR hk => ?_⟩
                              have h2 : v 2 = .slice Aa a.length ca := hk 2 (by kernel_rfl)
                              have h3 : v 3 = iv (i : Int) := hk 3 (by kernel_rfl)
                              have h5 : v 5 = iv (p1 : Int) := hk 5 (by kernel_rfl)
                              simp only [List.take_succ_cons, List.take_zero, frameF, Act.put, List.setIfInBounds_toArray, List.set_cons_zero, List.set_cons_succ]
                              exact stepF_val (by first | rfl | simp [Region.wanted, yielded, *]) (by go_simp <;> omega) ⟨rfl, Below.refl _ _, hR⟩
                            · refine ⟨fun _ _ _ _ _ h => h, fun _ _ _ _ h _ => h, fun v nR x hnR hR hk => ?_⟩
                              simp only [List.take_succ_cons, List.take_zero, frameF, Act.put, List.setIfInBounds_toArray, List.set_cons_zero, List.set_cons_succ]
                              exact stepF_val (by first | rfl | simp [Region.wanted, yielded, *]) (by go_simp <;> omega) ⟨rfl, Below.refl _ _, hR⟩
                            · refine ⟨fun _ _ _ _ _ h => h, fun _ _ _ _ h _ => h, fun v nR x hnR hR hk => ?_⟩
                              simp only [List.take_succ_cons, List.take_zero, frameF, Act.put, List.setIfInBounds_toArray, List.set_cons_zero, List.set_cons_succ]
                              exact stepF_val (by first | rfl | simp [Region.wanted, yielded, *]) (by go_simp <;> omega) ⟨rfl, Below.refl _ _, hR⟩
                            · refine ⟨fun _ _ _ _ _ h => h, fun _ _ _ _ h _ => h, fun v nR x hnR hR hk => ?_⟩
                              simp only [List.take_succ_cons, List.take_zero, frameF, Act.put, List.setIfInBounds_toArray, List.set_cons_zero, List.set_cons_succ]
                              exact stepF_val (by first | rfl | simp [Region.wanted, yielded, *]) (by go_simp <;> omega) ⟨rfl, Below.refl _ _, hR⟩
                            · refine ⟨fun _ _ _ _ _ h => h, fun _ _ _ _ h _ => h, fun v nR x hnR hR hk => ?_⟩
                              have h9 : v 9 = .pointer (some ⟨gP, 1, none⟩) := hk 9 (by kernel_rfl)
                              have g1 := (HBX.out _ hR).2
                              simp only [List.take_succ_cons, List.take_zero, frameF, Act.put, List.setIfInBounds_toArray, List.set_cons_zero, List.set_cons_succ]
                              exact stepF_val (by first | rfl | simp [Region.wanted, yielded, *]) (by go_simp <;> omega) ⟨rfl, Below.refl _ _, hR⟩
                            · refine ⟨fun _ _ _ _ _ h => h, fun _ _ _ _ h _ => h, fun v nR x hnR hR hk => ?_⟩
                              have h7 : v 7 = .slice Ab b.length cb := hk 7 (by kernel_rfl)
                              have h8 : v 8 = iv (j : Int) := hk 8 (by kernel_rfl)
                              have h10 : v 10 = iv (p2 : Int) := hk 10 (by kernel_rfl)
                              simp only [List.take_succ_cons, List.take_zero, frameF, Act.put, List.setIfInBounds_toArray, List.set_cons_zero, List.set_cons_succ]
                              exact stepF_val (by first | rfl | simp [Region.wanted, yielded, *]) (by go_simp <;> omega) ⟨rfl, Below.refl _ _, hR⟩
                            · refine ⟨fun _ _ _ _ _ h => h, fun _ _ _ _ h _ => h, fun v nR x hnR hR hk => ?_⟩
                              have h1 : v 1 = iv (i : Int) := hk 1 (by kernel_rfl)
                              have h6 : v 6 = .slice X1 ya.length n1 := hk 6 (by kernel_rfl)
                              have h11 : v 11 = .slice X2 yb.length n2 := hk 11 (by kernel_rfl)
                              simp only [List.take_succ_cons, List.take_zero, frameF, Act.put, List.setIfInBounds_toArray, List.set_cons_zero, List.set_cons_succ]
                              exact stepF_val (by first | rfl | simp [Region.wanted, yielded, *]) (by go_simp <;> omega) ⟨rfl, Below.refl _ _, hR⟩
                            · refine ⟨fun _ _ _ _ _ h => h, fun _ _ _ _ h hS => (by obtain ⟨A1, e0, o1⟩ := h; exact ⟨A1, e0, o1.below hS⟩), fun v nR x hnR hR hk => ?_⟩
                              have h12 : v 12 = .agg #[iv (i : Int), .slice X1 ya.length n1, .slice X2 yb.length n2] := hk 12 (by kernel_rfl)
                              simp only [List.take_succ_cons, List.take_zero, frameF, Act.put, List.setIfInBounds_toArray, List.set_cons_zero, List.set_cons_succ]
                              exact stepF_new (u := .slice (some ⟨x.heap.size, 0, none⟩) 1 1) (w' := x.alloc (.cells #[iv (i : Int), .slice X1 ya.length n1, .slice X2 yb.length n2] 53)) (by rfl) (by go_simp) ⟨⟨_, rfl, Sl.fresh edE x _ _ [Y] HYC.out (by simp [maxLen])⟩, (Below.refl _ _).alloc (Nat.le_refl _) _, hR.alloc hR.size _⟩
                          · intro v nR x1 hnR hR hall
                            have h0 : v 0 = u19 := hall 0 (by decide)
                            obtain ⟨A1, h13, o1⟩ := hall 13 (by decide)
                            clear hall hnR
                            simp only [List.drop_succ_cons, List.drop_zero, List.take_succ_cons, List.take_zero, frameF, Act.put, List.setIfInBounds_toArray, List.set_cons_zero, List.set_cons_succ, Nat.zero_add, Nat.reduceAdd, h0, h13]
                            have hb0x := hbb.next hR (Nat.le_refl _)
                            have HO2 := Lib.hid (HO1.out.below hR)
                            have HBx := Lib.hid (HB.out.under hR)
                            clear r0 r1
                            go_wp2_with (at_builtin; refine wpAppS edE tyEdits rfl _ _ rfl HO2.out o1 rfl rfl hb0x.size (by simp; unfold big; omega) ?_; intro v3 w3 hown3 hb3 hk3)
                            have HB3 : Hid (Blk w3 gP 83 #[iv (p1 : Int), iv (p2 : Int)]) := Lib.hid ((hk3 gP HBx.out.lt (Own.apartBlk HO2.out HBx.out (by decide))).trans HBx.out)
                            have HC3 : Hid (∀ W, Below w3.heap.size w3 W → W.cell? ⟨gP, 0, none⟩ = some (iv (p1 : Int)) ∧ W.cell? ⟨gP, 1, none⟩ = some (iv (p2 : Int))) := Lib.hid fun W h => ⟨(HB3.out.under h).cell 0, (HB3.out.under h).cell 1⟩
                            have HO3 := Lib.hid hown3
                            have hb03 := hb0x.trans hb3
                            have HE3 : Hid (∀ W, Below w10.heap.size w10 W → ∀ r ∈ cs ++ [Y], EdOk W r) := Lib.hid fun W h r hr => by
                              rcases List.mem_append.1 hr with hr | hr
                              · exact HE.out W h r hr
                              · rw [List.mem_singleton.1 hr]; exact HYO.out W h
                            have HL3 : Hid (∀ r ∈ cs ++ [Y], r.old.length ≤ a.length ∧ r.new.length ≤ b.length) := Lib.hid fun r hr => by
                              rcases List.mem_append.1 hr with hr | hr
                              · exact HB1.out r hr
                              · rw [List.mem_singleton.1 hr]; exact HYL.out
                            have HDM : Hid ((cs ++ [Y]).map EdV.ed ++ File.diffBy a b (p1 + 1) (p2 + 1) (M.drop (k + 1)) = D) := Lib.hid (by rw [← HDN.out, List.map_append, List.map_cons, List.map_nil, HYE.out])
                            clear hown3 hk3 hb3 HO1 HO2 HBx HYC HDN hC1 hC2
                            go_upto_region 34 with fail
                            refine wp_free_lit (by kernel_rfl) 7 (by kernel_rfl) (by kernel_rfl) (by decide) (fun nR x => Below w3.heap.size w3 x) (fun x x' => Below x.heap.size x x')
                              [fun _ u _ => u = .pointer (some ⟨gP, 0, none⟩),
                               fun _ u _ => u = iv (p1 : Int),
                               fun _ u _ => u = iv ((p1 : Int) + 1),
                               fun _ u _ => u = .pointer (some ⟨gP, 1, none⟩),
                               fun _ u _ => u = iv (p2 : Int),
                               fun _ u _ => u = iv ((p2 : Int) + 1),
                               fun _ u _ => u = iv ((p1 : Int) + 1)]
                              (Below.refl _ w3).drew ?_ ?_
                            · simp only [List.take_succ_cons, List.take_zero, HopL]
                              refine ⟨?_, ?_, ?_, ?_, ?_, ?_, ?_, trivial⟩
                              · refine ⟨fun _ _ _ _ _ h => h, fun _ _ _ _ h _ => h, fun v nR x hnR hR hk => ?_⟩
                                simp only [List.take_succ_cons, List.take_zero, frameF, Act.put, List.setIfInBounds_toArray, List.set_cons_zero, List.set_cons_succ]
                                exact stepF_val (by first | rfl | simp [Region.wanted, yielded, *]) (by go_simp <;> omega) ⟨rfl, Below.refl _ _, hR⟩
                              · refine ⟨fun _ _ _ _ _ h => h, fun _ _ _ _ h _ => h, fun v nR x hnR hR hk => ?_⟩
                                have h0 : v 0 = .pointer (some ⟨gP, 0, none⟩) := hk 0 (by kernel_rfl)
                                have g1 := (HC3.out x hR).1
                                simp only [List.take_succ_cons, List.take_zero, frameF, Act.put, List.setIfInBounds_toArray, List.set_cons_zero, List.set_cons_succ]
                                exact stepF_val (by first | rfl | simp [Region.wanted, yielded, *]) (by go_simp <;> omega) ⟨rfl, Below.refl _ _, hR⟩
                              · refine ⟨fun _ _ _ _ _ h => h, fun _ _ _ _ h _ => h, fun v nR x hnR hR hk => ?_⟩
                                have h1 : v 1 = iv (p1 : Int) := hk 1 (by kernel_rfl)
                                simp only [List.take_succ_cons, List.take_zero, frameF, Act.put, List.setIfInBounds_toArray, List.set_cons_zero, List.set_cons_succ]
                                exact stepF_val (by first | rfl | simp [Region.wanted, yielded, *]) (by go_simp <;> omega) ⟨rfl, Below.refl _ _, hR⟩
                              · refine ⟨fun _ _ _ _ _ h => h, fun _ _ _ _ h _ => h, fun v nR x hnR hR hk => ?_⟩
                                simp only [List.take_succ_cons, List.take_zero, frameF, Act.put, List.setIfInBounds_toArray, List.set_cons_zero, List.set_cons_succ]
                                exact stepF_val (by first | rfl | simp [Region.wanted, yielded, *]) (by go_simp <;> omega) ⟨rfl, Below.refl _ _, hR⟩
                              · refine ⟨fun _ _ _ _ _ h => h, fun _ _ _ _ h _ => h, fun v nR x hnR hR hk => ?_⟩
                                have h3 : v 3 = .pointer (some ⟨gP, 1, none⟩) := hk 3 (by kernel_rfl)
                                have g1 := (HC3.out x hR).2
                                simp only [List.take_succ_cons, List.take_zero, frameF, Act.put, List.setIfInBounds_toArray, List.set_cons_zero, List.set_cons_succ]
                                exact stepF_val (by first | rfl | simp [Region.wanted, yielded, *]) (by go_simp <;> omega) ⟨rfl, Below.refl _ _, hR⟩
                              · refine ⟨fun _ _ _ _ _ h => h, fun _ _ _ _ h _ => h, fun v nR x hnR hR hk => ?_⟩
                                have h4 : v 4 = iv (p2 : Int) := hk 4 (by kernel_rfl)
                                simp only [List.take_succ_cons, List.take_zero, frameF, Act.put, List.setIfInBounds_toArray, List.set_cons_zero, List.set_cons_succ]
                                exact stepF_val (by first | rfl | simp [Region.wanted, yielded, *]) (by go_simp <;> omega) ⟨rfl, Below.refl _ _, hR⟩
                              · refine ⟨fun _ _ _ _ _ h => h, fun _ _ _ _ h _ => h, fun v nR x hnR hR hk => ?_⟩
                                have h2 : v 2 = iv ((p1 : Int) + 1) := hk 2 (by kernel_rfl)
                                simp only [List.take_succ_cons, List.take_zero, frameF, Act.put, List.setIfInBounds_toArray, List.set_cons_zero, List.set_cons_succ]
                                exact stepF_val (by first | rfl | simp [Region.wanted, yielded, *]) (by go_simp <;> omega) ⟨rfl, Below.refl _ _, hR⟩
                            · intro v nR x4 hnR hR hall
                              have h5 : v 5 = iv ((p2 : Int) + 1) := hall 5 (by decide)
                              have h6 : v 6 = iv ((p1 : Int) + 1) := hall 6 (by decide)
                              clear hall hnR
                              simp only [List.drop_succ_cons, List.drop_zero, List.take_succ_cons, List.take_zero, frameF, Act.put, List.setIfInBounds_toArray, List.set_cons_zero, List.set_cons_succ, Nat.zero_add, Nat.reduceAdd, h5, h6]
                              have hb04 := hb03.next hR (Nat.le_refl _)
                              have HO4 := Lib.hid (HO3.out.below hR)
                              go_wp2_with fail
                              go_roundw
                              case rel => exact ⟨p1 + 1, p2 + 1, k + 1, _, by omega, by omega, by omega, by go_num, by go_num, by go_num, HP2, HDM, by simp; omega, HO4, HE3, HL3, hb04⟩
                              case measure => simp [intOf]; omega
                      · have hx1 : ¬ ((p1 : Int) > (i : Int)) := by omega
                        have hy1 : ¬ ((p2 : Int) > (j : Int)) := by omega
                        have HDM : Hid (cs.map EdV.ed ++ File.diffBy a b (p1 + 1) (p2 + 1) (M.drop (k + 1)) = D) := Lib.hid (by rw [← HD2.out, if_neg hij]; simp)
                        clear HD2
                        go_upto_region 34 with fail
                        refine wp_free_lit (by kernel_rfl) 7 (by kernel_rfl) (by kernel_rfl) (by decide) (fun nR x => Below wb.heap.size wb x) (fun x x' => Below x.heap.size x x')
                          [fun _ u _ => u = .pointer (some ⟨gP, 0, none⟩),
                           fun _ u _ => u = iv (p1 : Int),
                           fun _ u _ => u = iv ((p1 : Int) + 1),
                           fun _ u _ => u = .pointer (some ⟨gP, 1, none⟩),
                           fun _ u _ => u = iv (p2 : Int),
                           fun _ u _ => u = iv ((p2 : Int) + 1),
                           fun _ u _ => u = iv ((p1 : Int) + 1)]
                          (Below.refl _ wb).drew ?_ ?_
                        · simp only [List.take_succ_cons, List.take_zero, HopL]
                          refine ⟨?_, ?_, ?_, ?_, ?_, ?_, ?_, trivial⟩
                          · refine ⟨fun _ _ _ _ _ h => h, fun _ _ _ _ h _ => h, fun v nR x hnR hR hk => ?_⟩
                            simp only [List.take_succ_cons, List.take_zero, frameF, Act.put, List.setIfInBounds_toArray, List.set_cons_zero, List.set_cons_succ]
                            exact stepF_val (by first | rfl | simp [Region.wanted, yielded, *]) (by go_simp <;> omega) ⟨rfl, Below.refl _ _, hR⟩
                          · refine ⟨fun _ _ _ _ _ h => h, fun _ _ _ _ h _ => h, fun v nR x hnR hR hk => ?_⟩
                            have h0 : v 0 = .pointer (some ⟨gP, 0, none⟩) := hk 0 (by kernel_rfl)
                            have g1 := (HBX.out x hR).1
                            simp only [List.take_succ_cons, List.take_zero, frameF, Act.put, List.setIfInBounds_toArray, List.set_cons_zero, List.set_cons_succ]
                            exact stepF_val (by first | rfl | simp [Region.wanted, yielded, *]) (by go_simp <;> omega) ⟨rfl, Below.refl _ _, hR⟩
                          · refine ⟨fun _ _ _ _ _ h => h, fun _ _ _ _ h _ => h, fun v nR x hnR hR hk => ?_⟩
                            have h1 : v 1 = iv (p1 : Int) := hk 1 (by kernel_rfl)
                            simp only [List.take_succ_cons, List.take_zero, frameF, Act.put, List.setIfInBounds_toArray, List.set_cons_zero, List.set_cons_succ]
                            exact stepF_val (by first | rfl | simp [Region.wanted, yielded, *]) (by go_simp <;> omega) ⟨rfl, Below.refl _ _, hR⟩
                          · refine ⟨fun _ _ _ _ _ h => h, fun _ _ _ _ h _ => h, fun v nR x hnR hR hk => ?_⟩
                            simp only [List.take_succ_cons, List.take_zero, frameF, Act.put, List.setIfInBounds_toArray, List.set_cons_zero, List.set_cons_succ]
                            exact stepF_val (by first | rfl | simp [Region.wanted, yielded, *]) (by go_simp <;> omega) ⟨rfl, Below.refl _ _, hR⟩
                          · refine ⟨fun _ _ _ _ _ h => h, fun _ _ _ _ h _ => h, fun v nR x hnR hR hk => ?_⟩
                            have h3 : v 3 = .pointer (some ⟨gP, 1, none⟩) := hk 3 (by kernel_rfl)
                            have g1 := (HBX.out x hR).2
                            simp only [List.take_succ_cons, List.take_zero, frameF, Act.put, List.setIfInBounds_toArray, List.set_cons_zero, List.set_cons_succ]
                            exact stepF_val (by first | rfl | simp [Region.wanted, yielded, *]) (by go_simp <;> omega) ⟨rfl, Below.refl _ _, hR⟩
                          · refine ⟨fun _ _ _ _ _ h => h, fun _ _ _ _ h _ => h, fun v nR x hnR hR hk => ?_⟩
                            have h4 : v 4 = iv (p2 : Int) := hk 4 (by kernel_rfl)
                            simp only [List.take_succ_cons, List.take_zero, frameF, Act.put, List.setIfInBounds_toArray, List.set_cons_zero, List.set_cons_succ]
                            exact stepF_val (by first | rfl | simp [Region.wanted, yielded, *]) (by go_simp <;> omega) ⟨rfl, Below.refl _ _, hR⟩
                          · refine ⟨fun _ _ _ _ _ h => h, fun _ _ _ _ h _ => h, fun v nR x hnR hR hk => ?_⟩
                            have h2 : v 2 = iv ((p1 : Int) + 1) := hk 2 (by kernel_rfl)
                            simp only [List.take_succ_cons, List.take_zero, frameF, Act.put, List.setIfInBounds_toArray, List.set_cons_zero, List.set_cons_succ]
                            exact stepF_val (by first | rfl | simp [Region.wanted, yielded, *]) (by go_simp <;> omega) ⟨rfl, Below.refl _ _, hR⟩
                        · intro v nR x4 hnR hR hall
                          have h5 : v 5 = iv ((p2 : Int) + 1) := hall 5 (by decide)
                          have h6 : v 6 = iv ((p1 : Int) + 1) := hall 6 (by decide)
                          clear hall hnR
                          simp only [List.drop_succ_cons, List.drop_zero, List.take_succ_cons, List.take_zero, frameF, Act.put, List.setIfInBounds_toArray, List.set_cons_zero, List.set_cons_succ, Nat.zero_add, Nat.reduceAdd, h5, h6]
                          have hb04 := hbb.next hR (Nat.le_refl _)
                          have HO4 := Lib.hid (HO1.out.below hR)
                          go_wp2_with fail
                          go_roundw
                          case rel => exact ⟨p1 + 1, p2 + 1, k + 1, _, by omega, by omega, by omega, by go_num, by go_num, by go_num, HP2, HDM, by omega, HO4, HE, HB1, hb04⟩
                          case measure => simp [intOf]; omega
                    · have hki : ¬ (k : Int) < (M.length : Int) := by omega
                      have hd := HD.out
                      rw [List.drop_eq_nil_of_le (by omega), File.diffBy, List.append_nil] at hd
                      have HDE := Lib.hid hd
                      clear hd HD HQ
                      obtain ⟨Ac, cc, rfl, hcc, _⟩ := HO.out.form
                      have hml : cs.length ≤ 1000 := by omega
                      have hMK := make_spec Aa a ca Ac cs cc wr hba hca (HSA10.out wr hbr) hml HO.out.sl (HE.out wr hbr) (fun r hr => by have := HB1.out r hr; unfold big; omega)
                      rw [HDE.out, HKF.out.2.1] at hMK
                      have HMK := Lib.hid hMK
                      have HCO : Hid (∀ W, Below wr.heap.size wr W → Calls Tryz.prog 31 #[.slice Ac cs.length cc] W fun e w' => e = .returned (.tuple #[iv ((a.length : Int) + (b.length : Int) - 2 * (out.length : Int)), iv 0]) ∧ Below W.heap.size W w') := Lib.hid fun W h => by
                        have := Cost_spec Ac cs cc W hml (HO.out.sl.below h) (fun r hr => HE.out W (hbr.next h (Nat.le_refl _)) r hr) (fun r hr => by have := HB1.out r hr; unfold big; omega)
                        rw [HDE.out, if_pos HKF.out.1, HKF.out.1, show ((File.cost D : Nat) : Int) = (a.length : Int) + (b.length : Int) - 2 * (out.length : Int) by have := HKF.out.2.2; omega] at this
                        exact this
                      have HEQ : Hid (∀ W Am cm, Below wr.heap.size wr W → Sl strE W Am b → Calls Tryz.prog 18 #[.slice Am b.length cm, .slice Ab b.length cb] W fun e w' => e = .returned (.bool true) ∧ Below W.heap.size W w') := Lib.hid fun W Am cm h hs => by
                        have := equalS Am b cm Ab b cb W hbb hs hbb (HSB10.out W (hbr.next h (Nat.le_refl _)))
                        rwa [decide_eq_true rfl] at this
                      have honr : Only gq w8 wr := hon10.next hbr (by omega)
                      have hspr : IsSpool (gq + 1) wr gq n := hsp10.below hbr (by omega)
                      have hzr := honr.below.size
                      have ec1 : IntKind.i64.wrap ((a.length : Int) + (b.length : Int)) = (a.length : Int) + (b.length : Int) := IntWalk.i64_in _ (by omega)
                      have ec2 : IntKind.i64.wrap (2 * (out.length : Int)) = 2 * (out.length : Int) := IntWalk.i64_in _ (by omega)
                      have ec3 : IntKind.i64.wrap ((a.length : Int) + (b.length : Int) - 2 * (out.length : Int)) = (a.length : Int) + (b.length : Int) - 2 * (out.length : Int) := IntWalk.i64_in _ (by omega)
                      clear hMK HO HE HB1 HDE HKF HM HAT HNX hsp10 hon10
                      go_wp2_with fail
                      refine HMK.out.mono ?_
                      rintro e w11 ⟨v, rfl, hoM, hb11⟩
                      obtain ⟨Am, cm, rfl, hcm, _⟩ := hoM.form
                      clear HMK
                      go_wp2_with fail
                      refine (HCO.out w11 hb11).mono ?_
                      rintro e w12 ⟨rfl, hb12⟩
                      have hbr12 := hb11.next hb12 (Nat.le_refl _)
                      clear HCO
                      go_wp2_with fail
                      refine (HEQ.out w12 Am cm hbr12 (hoM.sl.below hb12)).mono ?_
                      rintro e w13 ⟨rfl, hb13⟩
                      have hbr13 := hbr12.next hb13 (Nat.le_refl _)
                      have hon13 := honr.next hbr13 (by omega)
                      have hsp13 : IsSpool (gq + 1) w13 gq n := hspr.below hbr13 (by omega)
                      have hz13 := hon13.below.size
                      obtain ⟨hoV13, hrV13⟩ := HVo.out w13 hon13
                      have HDR := Lib.hid (dupRowsI AV lv cV w13 (by unfold big; omega) hoV13.sl (fun r hr => ⟨(hrV13 r hr).2.2.1.sl, by have := (hrV13 r hr).1; unfold big; omega⟩))
                      have HRI13 := Lib.hid hrV13
                      clear hoM hb11 hb12 hb13 hbr12 hbr13 HEQ honr hspr hoV13 hrV13 hbr
                      go_wp2_with fail
                      rw [hlvl] at HDR
                      refine HDR.out.mono ?_
                      rintro e w14 ⟨v, xs, rfl, hoX, hqX, hrX, hb14⟩
                      have hxl : xs.length = a.length := by have := congrArg List.length hqX; simpa [hlvl] using this
                      have HRI : Hid (RowsIn w13.heap.size (10 : Nat) b.length w14 xs) := Lib.hid fun r hr => by
                        obtain ⟨r0, hr0, he⟩ := List.mem_map.1 (show r.xs ∈ lv.map Rw.xs by rw [← hqX]; exact List.mem_map_of_mem hr)
                        obtain ⟨g1, g2, _⟩ := HRI13.out r0 hr0
                        rw [he] at g1 g2
                        exact ⟨g1, fun z hz => by have := g2 z hz; omega, (hrX r hr).1, (hrX r hr).2⟩
                      obtain ⟨AX, cX, rfl, hcX, _⟩ := hoX.form
                      have HOX := Lib.hid hoX
                      have hsp14 : IsSpool (gq + 1) w14 gq n := hsp13.below hb14 (by omega)
                      have hon14 := hon13.next hb14 (by omega)
                      have hz14 := hb14.size
                      have HXL := Lib.hid hxl
                      clear hoX hqX hrX hb14 HDR HRI13 hsp13 hon13
                      rw [hxl]
                      clear hxl
                      go_wp2_with fail
                      refine (upto_spec (gq + 1) w14 gq n 3 hsp14 (by omega) (by omega)).mono ?_
                      rintro e w15 ⟨r3, rfl, hr3, hsp15, hou⟩
                      have HRI15 := Lib.hid (HRI.out.only (by omega) hou)
                      have HOX15 := Lib.hid (ownOnly HOX.out (by omega) hou)
                      have hon15 := hon14.trans hou
                      have hz15 := hou.below.size
                      clear HRI HOX hsp14 hon14 hou
                      have hn15 : n ≤ n0 + 62 := by omega
                      have hspR : IsSpool (gq + 1) w15 gq (n + 1 + 20 * 0) := hsp15
                      have hLen : xs.length = a.length := HXL.out
                      have HRIx : Hid (RowsIn w13.heap.size ((10 + 0 : Nat) : Int) b.length w15 xs) := HRI15
                      have HOXx : Hid (Own (rwE Int) 33 w13.heap.size w15 (.slice AX a.length cX) xs) := Lib.hid (by rw [← hLen]; exact HOX15.out)
                      have hcX2 : a.length ≤ cX := by omega
                      have hzq : gq < w13.heap.size := by omega
                      clear hsp15 HRI15 HOX15 hcX hLen
                      go_wp2_with fail
                      go_loopw [230] (fun v wx => ∃ (t3 n3 : Nat) (xs' : List (Rw Int)), t3 ≤ r3 ∧ v = iv (t3 : Int) ∧ n3 ≤ n + 1 + 30 * t3 ∧ Hid (xs'.length = a.length) ∧ Hid (RowsIn w13.heap.size ((10 + t3 : Nat) : Int) b.length wx xs') ∧ Hid (Own (rwE Int) 33 w13.heap.size wx (.slice AX a.length cX) xs') ∧ IsSpool (gq + 1) wx gq n3 ∧ Only gq w8 wx) (fun v _ => r3 - (intOf v).toNat)
                      case atStart => exact ⟨0, n + 1, xs, Nat.zero_le _, rfl, by omega, HXL, HRIx, HOXx, hspR, hon15⟩
                      case round =>
                        clear HXL HRIx HOXx hspR hon15
                        obtain ⟨t3, n3, xs', ht3, rfl, hn3, HXL, HRI, HOX, hsp, hon⟩ := hrel
                        have hzx := hon.below.size
                        by_cases hlt : t3 < r3
                        · have hti3 : (t3 : Int) < (r3 : Int) := by omega
                          by_cases hpos : 0 < a.length ∧ 0 < b.length
                          · as_aux_lemma =>
                            obtain ⟨la, hla⟩ : ∃ la, a.length = la + 1 := ⟨a.length - 1, by omega⟩
                            obtain ⟨lb, hlb⟩ : ∃ lb, b.length = lb + 1 := ⟨b.length - 1, by omega⟩
                            have hp1 : (a.length : Int) > 0 := by omega
                            have hp2 : (b.length : Int) > 0 := by omega
                            have ewl1 : IntKind.i64.wrap ((a.length : Int) - 1) = (la : Int) := by rw [show (a.length : Int) - 1 = (la : Int) by omega]; exact IntWalk.i64_in _ (by omega)
                            have ewl2 : IntKind.i64.wrap ((b.length : Int) - 1) = (lb : Int) := by rw [show (b.length : Int) - 1 = (lb : Int) by omega]; exact IntWalk.i64_in _ (by omega)
                            have hpa := hpos.1
                            have hpb := hpos.2
                            have hxl2 := HXL.out
                            obtain ⟨bX, oX, _, hAX, _, _, _⟩ := Sl.atRw HOX.out.sl (show 0 < xs'.length by omega)
                            subst hAX
                            have HROW : Hid (∀ W, Only gq wr W → ∀ r, r < a.length → ∃ row : Rw Int, W.cell? ⟨bX, oX + r, none⟩ = some (.slice row.A row.xs.length row.c) ∧ row ∈ xs') := Lib.hid fun W h r hr => by
                              obtain ⟨b2, o2, row, hA2, _, hrow, hcell⟩ := Sl.atRw (ownOnly HOX.out hzq h).sl (show r < xs'.length by omega)
                              injection hA2 with hA2
                              injection hA2 with e1 e2 _
                              subst e1 e2
                              exact ⟨row, hcell, mem_at hrow⟩
                            have HLA := Lib.hid hla
                            have HLB2 := Lib.hid hlb
                            have hla2 : la + 1 ≤ a.length := by omega
                            have hlb2 : lb + 1 ≤ b.length := by omega
                            clear hla hlb hxl2 hpos
                            go_upto_region 44 with fail
                            refine wp_free_lit (by kernel_rfl) 15 (by kernel_rfl) (by kernel_rfl) (by decide) (fun nR x => ∃ n4, n4 ≤ n3 + nR ∧ IsSpool (gq + 1) x gq n4 ∧ Only gq wr x) (fun x x' => Only gq x x')
                              [fun _ u _ => u = .slice (some ⟨bX, oX, none⟩) a.length cX,
                               fun _ u _ => u = .pointer (some ⟨gq, 0, none⟩),
                               fun _ u _ => u = .slice Aa a.length ca,
                               fun _ u _ => u = iv (a.length : Int),
                               fun _ u _ => u = iv (la : Int),
                               fun _ u x => ∃ r : Nat, u = iv (r : Int) ∧ r < a.length,
                               fun _ u x => ∃ r : Nat, u = .pointer (some ⟨bX, oX + r, none⟩) ∧ r < a.length,
                               fun _ u x => ∃ row : Rw Int, u = .slice row.A row.xs.length row.c ∧ row ∈ xs',
                               fun _ u _ => u = .pointer (some ⟨gq, 0, none⟩),
                               fun _ u _ => u = .slice Ab b.length cb,
                               fun _ u _ => u = iv (b.length : Int),
                               fun _ u _ => u = iv (lb : Int),
                               fun _ u x => ∃ r : Nat, u = iv (r : Int) ∧ r < b.length,
                               fun _ u x => ∃ (row : Rw Int) (r g : Nat), u = .pointer (some ⟨g, r, none⟩) ∧ row ∈ xs' ∧ r < b.length ∧ row.A = some ⟨g, 0, none⟩,
                               fun _ u x => ∃ (row : Rw Int) (r g : Nat), u = .pointer (some ⟨g, r, none⟩) ∧ row ∈ xs' ∧ r < b.length ∧ row.A = some ⟨g, 0, none⟩]
                              (⟨n3, by omega, hsp.below (Below.refl (gq + 1) wr).drew (Nat.le_refl _), (Only.refl gq wr).drew⟩) ?_ ?_
                            · simp only [List.take_succ_cons, List.take_zero, HopL]
                              refine ⟨?_, ?_, ?_, ?_, ?_, ?_, ?_, ?_, ?_, ?_, ?_, ?_, ?_, ?_, ?_, trivial⟩
                              · refine ⟨fun _ _ _ _ _ h => h, fun _ _ _ _ h _ => h, fun v nR x hnR hR hk => ?_⟩
                                simp only [List.take_succ_cons, List.take_zero, frameF, Act.put, List.setIfInBounds_toArray, List.set_cons_zero, List.set_cons_succ]
                                exact stepF_val (by first | rfl | simp [Region.wanted, yielded, *]) (by go_simp <;> omega) ⟨rfl, Only.refl _ _, (by obtain ⟨n4, h4, h5⟩ := hR; exact ⟨n4, by omega, h5⟩)⟩
                              · refine ⟨fun _ _ _ _ _ h => h, fun _ _ _ _ h _ => h, fun v nR x hnR hR hk => ?_⟩
                                simp only [List.take_succ_cons, List.take_zero, frameF, Act.put, List.setIfInBounds_toArray, List.set_cons_zero, List.set_cons_succ]
                                exact stepF_val (by first | rfl | simp [Region.wanted, yielded, *]) (by go_simp <;> omega) ⟨rfl, Only.refl _ _, (by obtain ⟨n4, h4, h5⟩ := hR; exact ⟨n4, by omega, h5⟩)⟩
                              · refine ⟨fun _ _ _ _ _ h => h, fun _ _ _ _ h _ => h, fun v nR x hnR hR hk => ?_⟩
                                simp only [List.take_succ_cons, List.take_zero, frameF, Act.put, List.setIfInBounds_toArray, List.set_cons_zero, List.set_cons_succ]
                                exact stepF_val (by first | rfl | simp [Region.wanted, yielded, *]) (by go_simp <;> omega) ⟨rfl, Only.refl _ _, (by obtain ⟨n4, h4, h5⟩ := hR; exact ⟨n4, by omega, h5⟩)⟩
                              · refine ⟨fun _ _ _ _ _ h => h, fun _ _ _ _ h _ => h, fun v nR x hnR hR hk => ?_⟩
                                have h2 : v 2 = .slice Aa a.length ca := hk 2 (by kernel_rfl)
                                simp only [List.take_succ_cons, List.take_zero, frameF, Act.put, List.setIfInBounds_toArray, List.set_cons_zero, List.set_cons_succ]
                                exact stepF_val (by first | rfl | simp [Region.wanted, yielded, *]) (by go_simp <;> omega) ⟨rfl, Only.refl _ _, (by obtain ⟨n4, h4, h5⟩ := hR; exact ⟨n4, by omega, h5⟩)⟩
                              · refine ⟨fun _ _ _ _ _ h => h, fun _ _ _ _ h _ => h, fun v nR x hnR hR hk => ?_⟩
                                have h3 : v 3 = iv (a.length : Int) := hk 3 (by kernel_rfl)
                                simp only [List.take_succ_cons, List.take_zero, frameF, Act.put, List.setIfInBounds_toArray, List.set_cons_zero, List.set_cons_succ]
                                exact stepF_val (by first | rfl | simp [Region.wanted, yielded, *]) (by go_simp <;> omega) ⟨rfl, Only.refl _ _, (by obtain ⟨n4, h4, h5⟩ := hR; exact ⟨n4, by omega, h5⟩)⟩
                              · refine ⟨fun _ _ _ _ _ h => h, fun _ _ _ _ h hS => (by obtain ⟨r1, e0, hr1⟩ := h; exact ⟨r1, e0, hr1⟩), fun v nR x hnR hR hk => ?_⟩
                                have h1 : v 1 = .pointer (some ⟨gq, 0, none⟩) := hk 1 (by kernel_rfl)
                                have h4 : v 4 = iv (la : Int) := hk 4 (by kernel_rfl)
                                simp only [List.take_succ_cons, List.take_zero, frameF, Act.put, List.setIfInBounds_toArray, List.set_cons_zero, List.set_cons_succ]
                                have hnR2 : nR ≤ 15 := Nat.le_trans (by first | exact hnR | exact Nat.le_of_lt hnR) (by decide)
                                clear hnR
                                obtain ⟨n4, h4, hsp4, hon4⟩ := hR
                                refine stepF_call (by first | rfl | simp [Region.wanted, yielded, *]) (by go_simp) (upto_spec (gq + 1) x gq n4 la hsp4 (by omega) (by omega)) ?_
                                rintro e x' ⟨r, rfl, hr, hsq, hoq⟩
                                exact ⟨_, rfl, ⟨r, rfl, by omega⟩, hoq, ⟨n4 + 1, by omega, hsq, hon4.trans hoq⟩⟩
                              · refine ⟨fun _ _ _ _ _ h => h, fun _ _ _ _ h hS => (by obtain ⟨r6, e0, hr6⟩ := h; exact ⟨r6, e0, hr6⟩), fun v nR x hnR hR hk => ?_⟩
                                have h0 : v 0 = .slice (some ⟨bX, oX, none⟩) a.length cX := hk 0 (by kernel_rfl)
                                obtain ⟨r1, h5, hr1⟩ := hk 5 (by kernel_rfl)
                                have hri : (r1 : Int) < (a.length : Int) := by omega
                                simp only [List.take_succ_cons, List.take_zero, frameF, Act.put, List.setIfInBounds_toArray, List.set_cons_zero, List.set_cons_succ]
                                exact stepF_val (by first | rfl | simp [Region.wanted, yielded, *]) (by go_simp <;> omega) ⟨⟨r1, rfl, hr1⟩, Only.refl _ _, (by obtain ⟨n4, h4, h5⟩ := hR; exact ⟨n4, by omega, h5⟩)⟩
                              · refine ⟨fun _ _ _ _ _ h => h, fun _ _ _ _ h hS => (by obtain ⟨row, e0, hrow⟩ := h; exact ⟨row, e0, hrow⟩), fun v nR x hnR hR hk => ?_⟩
                                obtain ⟨r6, h6, hr6⟩ := hk 6 (by kernel_rfl)
                                obtain ⟨n4, h4, hsp4, hon4⟩ := hR
                                obtain ⟨row, hcell, hrow⟩ := HROW.out x hon4 r6 hr6
                                simp only [List.take_succ_cons, List.take_zero, frameF, Act.put, List.setIfInBounds_toArray, List.set_cons_zero, List.set_cons_succ]
                                exact stepF_val (by first | rfl | simp [Region.wanted, yielded, *]) (by go_simp <;> omega) ⟨⟨row, rfl, hrow⟩, Only.refl _ _, ⟨n4, by omega, hsp4, hon4⟩⟩
                              · refine ⟨fun _ _ _ _ _ h => h, fun _ _ _ _ h _ => h, fun v nR x hnR hR hk => ?_⟩
                                simp only [List.take_succ_cons, List.take_zero, frameF, Act.put, List.setIfInBounds_toArray, List.set_cons_zero, List.set_cons_succ]
                                exact stepF_val (by first | rfl | simp [Region.wanted, yielded, *]) (by go_simp <;> omega) ⟨rfl, Only.refl _ _, (by obtain ⟨n4, h4, h5⟩ := hR; exact ⟨n4, by omega, h5⟩)⟩
                              · refine ⟨fun _ _ _ _ _ h => h, fun _ _ _ _ h _ => h, fun v nR x hnR hR hk => ?_⟩
                                simp only [List.take_succ_cons, List.take_zero, frameF, Act.put, List.setIfInBounds_toArray, List.set_cons_zero, List.set_cons_succ]
                                exact stepF_val (by first | rfl | simp [Region.wanted, yielded, *]) (by go_simp <;> omega) ⟨rfl, Only.refl _ _, (by obtain ⟨n4, h4, h5⟩ := hR; exact ⟨n4, by omega, h5⟩)⟩
                              · refine ⟨fun _ _ _ _ _ h => h, fun _ _ _ _ h _ => h, fun v nR x hnR hR hk => ?_⟩
                                have h9 : v 9 = .slice Ab b.length cb := hk 9 (by kernel_rfl)
                                simp only [List.take_succ_cons, List.take_zero, frameF, Act.put, List.setIfInBounds_toArray, List.set_cons_zero, List.set_cons_succ]
                                exact stepF_val (by first | rfl | simp [Region.wanted, yielded, *]) (by go_simp <;> omega) ⟨rfl, Only.refl _ _, (by obtain ⟨n4, h4, h5⟩ := hR; exact ⟨n4, by omega, h5⟩)⟩
                              · refine ⟨fun _ _ _ _ _ h => h, fun _ _ _ _ h _ => h, fun v nR x hnR hR hk => ?_⟩
                                have h10 : v 10 = iv (b.length : Int) := hk 10 (by kernel_rfl)
                                simp only [List.take_succ_cons, List.take_zero, frameF, Act.put, List.setIfInBounds_toArray, List.set_cons_zero, List.set_cons_succ]
                                exact stepF_val (by first | rfl | simp [Region.wanted, yielded, *]) (by go_simp <;> omega) ⟨rfl, Only.refl _ _, (by obtain ⟨n4, h4, h5⟩ := hR; exact ⟨n4, by omega, h5⟩)⟩
                              · refine ⟨fun _ _ _ _ _ h => h, fun _ _ _ _ h hS => (by obtain ⟨r2, e0, hr2⟩ := h; exact ⟨r2, e0, hr2⟩), fun v nR x hnR hR hk => ?_⟩
                                have h8 : v 8 = .pointer (some ⟨gq, 0, none⟩) := hk 8 (by kernel_rfl)
                                have h11 : v 11 = iv (lb : Int) := hk 11 (by kernel_rfl)
                                simp only [List.take_succ_cons, List.take_zero, frameF, Act.put, List.setIfInBounds_toArray, List.set_cons_zero, List.set_cons_succ]
                                have hnR2 : nR ≤ 15 := Nat.le_trans (by first | exact hnR | exact Nat.le_of_lt hnR) (by decide)
                                clear hnR
                                obtain ⟨n4, h4, hsp4, hon4⟩ := hR
                                refine stepF_call (by first | rfl | simp [Region.wanted, yielded, *]) (by go_simp) (upto_spec (gq + 1) x gq n4 lb hsp4 (by omega) (by omega)) ?_
                                rintro e x' ⟨r, rfl, hr, hsq, hoq⟩
                                exact ⟨_, rfl, ⟨r, rfl, by omega⟩, hoq, ⟨n4 + 1, by omega, hsq, hon4.trans hoq⟩⟩
                              · refine ⟨fun _ _ _ _ _ h => h, fun _ _ _ _ h hS => (by obtain ⟨row, r2, gr, e0, hrow, hr2, hgr⟩ := h; exact ⟨row, r2, gr, e0, hrow, hr2, hgr⟩), fun v nR x hnR hR hk => ?_⟩
                                obtain ⟨row, h7, hrow⟩ := hk 7 (by kernel_rfl)
                                obtain ⟨r2, h12, hr2⟩ := hk 12 (by kernel_rfl)
                                obtain ⟨gr, hgr⟩ := Own.block (HRI.out row hrow).2.2.1 (fun e => by have := (HRI.out row hrow).1; rw [e] at this; simp at this; omega)
                                have hrl := (HRI.out row hrow).1
                                rw [hgr, hrl] at h7
                                have hri : (r2 : Int) < (b.length : Int) := by omega
                                clear hrl
                                simp only [List.take_succ_cons, List.take_zero, frameF, Act.put, List.setIfInBounds_toArray, List.set_cons_zero, List.set_cons_succ]
                                exact stepF_val (by first | rfl | simp [Region.wanted, yielded, *]) (by go_simp <;> omega) ⟨⟨row, r2, gr, rfl, hrow, hr2, hgr⟩, Only.refl _ _, (by obtain ⟨n4, h4, h5⟩ := hR; exact ⟨n4, by omega, h5⟩)⟩
                              · refine ⟨fun _ _ _ _ _ h => h, fun _ _ _ _ h hS => (by obtain ⟨row, r2, gr, e0, hrow, hr2, hgr⟩ := h; exact ⟨row, r2, gr, e0, hrow, hr2, hgr⟩), fun v nR x hnR hR hk => ?_⟩
                                obtain ⟨row, r2, gr, h13, hrow, hr2, hgr⟩ := hk 13 (by kernel_rfl)
                                simp only [List.take_succ_cons, List.take_zero, frameF, Act.put, List.setIfInBounds_toArray, List.set_cons_zero, List.set_cons_succ]
                                exact stepF_val (by first | rfl | simp [Region.wanted, yielded, *]) (by go_simp <;> omega) ⟨⟨row, r2, gr, rfl, hrow, hr2, hgr⟩, Only.refl _ _, (by obtain ⟨n4, h4, h5⟩ := hR; exact ⟨n4, by omega, h5⟩)⟩
                            · intro v nR x1 hnR hR hall
                              obtain ⟨row, r2, gr, h14, hrow, hr2, hgr⟩ := hall 14 (by decide)
                              clear hall
                              simp only [List.drop_succ_cons, List.drop_zero, List.take_succ_cons, List.take_zero, frameF, Act.put, List.setIfInBounds_toArray, List.set_cons_zero, List.set_cons_succ, Nat.zero_add, Nat.reduceAdd, h14]
                              have hnR2 : nR ≤ 15 := Nat.le_trans (by first | exact hnR | exact Nat.le_of_lt hnR) (by decide)
                              clear hnR
                              obtain ⟨n4, hn4, hsp4, hon4⟩ := hR
                              have HRI4 := HRI.out.only (by omega) hon4
                              have HOX4 := Lib.hid (ownOnly HOX.out (by omega) hon4)
                              obtain ⟨rA, rc, rxs⟩ := row
                              simp only at hgr
                              subst hgr
                              obtain ⟨q1, q2, q3, q4⟩ := HRI4 _ hrow
                              simp only at q1 q2 q3 q4
                              obtain ⟨z, hz⟩ : ∃ z, rxs[r2]? = some z := ⟨_, List.getElem?_eq_getElem (by omega)⟩
                              obtain ⟨hz0, hz1⟩ := q2 z (mem_at hz)
                              have hgr13 := (q3.lt gr rfl).1
                              have HQ3 := Lib.hid q3
                              have HZC : Hid (∀ W, Only gq x1 W → W.cell? ⟨gr, r2, none⟩ = some (iv z) ∧ ∃ cs, Blk W gr 3 cs) := Lib.hid fun W h => by
                                have h3 := ownOnly HQ3.out (by omega : gq < w13.heap.size) h
                                refine ⟨?_, Own.blkOf h3 (fun e => by rw [e] at hz; simp at hz)⟩
                                have := Own.cellAt h3 hz (j := 0) (u := iv z) rfl
                                simpa [intE] using this
                              have HRI5 := Lib.hid HRI4
                              have hz9 : z ≤ 13 := by omega
                              have hon84 := hon.trans hon4
                              have hn4b : n4 ≤ n3 + 15 := by omega
                              clear q1 q2 q3 q4 hz HRI HOX hrow HRI4 HROW hsp hon hon4 hn4
                              go_upto_region 45 with fail
                              refine wp_free_lit (by kernel_rfl) 9 (by kernel_rfl) (by kernel_rfl) (by decide) (fun nR x => ∃ n5, n5 ≤ n4 + nR ∧ IsSpool (gq + 1) x gq n5 ∧ Only gq x1 x) (fun x x' => Only gq x x')
                                [fun _ u _ => u = .pointer (some ⟨gr, r2, none⟩),
                                 fun _ u _ => u = .pointer (some ⟨gr, r2, none⟩),
                                 fun _ u _ => u = .pointer (some ⟨gr, r2, none⟩),
                                 fun _ u _ => u = iv z,
                                 fun _ u _ => u = .pointer (some ⟨gq, 0, none⟩),
                                 fun _ u x => ∃ r : Nat, u = iv ((r : Int) - 1) ∧ r ≤ 2,
                                 fun _ u x => ∃ r : Nat, u = iv (z + ((r : Int) - 1)) ∧ r ≤ 2,
                                 fun _ u x => ∃ r : Nat, u = iv (max 0 (z + ((r : Int) - 1))) ∧ r ≤ 2,
                                 fun _ u _ => u = .pointer (some ⟨gr, r2, none⟩)]
                                (⟨n4, by omega, hsp4.below (Below.refl (gq + 1) x1).drew (Nat.le_refl _), (Only.refl gq x1).drew⟩) ?_ ?_
                              · simp only [List.take_succ_cons, List.take_zero, HopL]
                                refine ⟨?_, ?_, ?_, ?_, ?_, ?_, ?_, ?_, ?_, trivial⟩
                                · refine ⟨fun _ _ _ _ _ h => h, fun _ _ _ _ h _ => h, fun v nR x hnR hR hk => ?_⟩
                                  simp only [List.take_succ_cons, List.take_zero, frameF, Act.put, List.setIfInBounds_toArray, List.set_cons_zero, List.set_cons_succ]
                                  exact stepF_val (by first | rfl | simp [Region.wanted, yielded, *]) (by go_simp <;> omega) ⟨rfl, Only.refl _ _, (by obtain ⟨n4, h4, h5⟩ := hR; exact ⟨n4, by omega, h5⟩)⟩
                                · refine ⟨fun _ _ _ _ _ h => h, fun _ _ _ _ h _ => h, fun v nR x hnR hR hk => ?_⟩
                                  simp only [List.take_succ_cons, List.take_zero, frameF, Act.put, List.setIfInBounds_toArray, List.set_cons_zero, List.set_cons_succ]
                                  exact stepF_val (by first | rfl | simp [Region.wanted, yielded, *]) (by go_simp <;> omega) ⟨rfl, Only.refl _ _, (by obtain ⟨n4, h4, h5⟩ := hR; exact ⟨n4, by omega, h5⟩)⟩
                                · refine ⟨fun _ _ _ _ _ h => h, fun _ _ _ _ h _ => h, fun v nR x hnR hR hk => ?_⟩
                                  have h1 : v 1 = .pointer (some ⟨gr, r2, none⟩) := hk 1 (by kernel_rfl)
                                  simp only [List.take_succ_cons, List.take_zero, frameF, Act.put, List.setIfInBounds_toArray, List.set_cons_zero, List.set_cons_succ]
                                  exact stepF_val (by first | rfl | simp [Region.wanted, yielded, *]) (by go_simp <;> omega) ⟨rfl, Only.refl _ _, (by obtain ⟨n4, h4, h5⟩ := hR; exact ⟨n4, by omega, h5⟩)⟩
                                · refine ⟨fun _ _ _ _ _ h => h, fun _ _ _ _ h _ => h, fun v nR x hnR hR hk => ?_⟩
                                  have h2 : v 2 = .pointer (some ⟨gr, r2, none⟩) := hk 2 (by kernel_rfl)
                                  obtain ⟨n5, h5, hsp5, hon5⟩ := id hR
                                  have g1 := (HZC.out x hon5).1
                                  simp only [List.take_succ_cons, List.take_zero, frameF, Act.put, List.setIfInBounds_toArray, List.set_cons_zero, List.set_cons_succ]
                                  exact stepF_val (by first | rfl | simp [Region.wanted, yielded, *]) (by go_simp <;> omega) ⟨rfl, Only.refl _ _, (by obtain ⟨n4, h4, h5⟩ := hR; exact ⟨n4, by omega, h5⟩)⟩
                                · refine ⟨fun _ _ _ _ _ h => h, fun _ _ _ _ h _ => h, fun v nR x hnR hR hk => ?_⟩
                                  simp only [List.take_succ_cons, List.take_zero, frameF, Act.put, List.setIfInBounds_toArray, List.set_cons_zero, List.set_cons_succ]
                                  exact stepF_val (by first | rfl | simp [Region.wanted, yielded, *]) (by go_simp <;> omega) ⟨rfl, Only.refl _ _, (by obtain ⟨n4, h4, h5⟩ := hR; exact ⟨n4, by omega, h5⟩)⟩
                                · refine ⟨fun _ _ _ _ _ h => h, fun _ _ _ _ h hS => (by obtain ⟨rf, e0, hrf⟩ := h; exact ⟨rf, e0, hrf⟩), fun v nR x hnR hR hk => ?_⟩
                                  have h4 : v 4 = .pointer (some ⟨gq, 0, none⟩) := hk 4 (by kernel_rfl)
                                  simp only [List.take_succ_cons, List.take_zero, frameF, Act.put, List.setIfInBounds_toArray, List.set_cons_zero, List.set_cons_succ]
                                  have hnR2 : nR ≤ 15 := Nat.le_trans (by first | exact hnR | exact Nat.le_of_lt hnR) (by decide)
                                  clear hnR
                                  obtain ⟨n5, h5, hsp5, hon5⟩ := hR
                                  refine stepF_call (by first | rfl | simp [Region.wanted, yielded, *]) (by go_simp) (fromM1_spec (gq + 1) x gq n5 hsp5 (by omega)) ?_
                                  rintro e x' ⟨r, rfl, hr, hsq, hoq⟩
                                  exact ⟨_, rfl, ⟨r, rfl, hr⟩, hoq, ⟨n5 + 1, by omega, hsq, hon5.trans hoq⟩⟩
                                · refine ⟨fun _ _ _ _ _ h => h, fun _ _ _ _ h hS => (by obtain ⟨rg, e0, hrg⟩ := h; exact ⟨rg, e0, hrg⟩), fun v nR x hnR hR hk => ?_⟩
                                  have h3 : v 3 = iv z := hk 3 (by kernel_rfl)
                                  obtain ⟨rf, h5, hrf⟩ := hk 5 (by kernel_rfl)
                                  have ew9 : IntKind.i64.wrap (z + ((rf : Int) - 1)) = z + ((rf : Int) - 1) := IntWalk.i64_in _ (by omega)
                                  simp only [List.take_succ_cons, List.take_zero, frameF, Act.put, List.setIfInBounds_toArray, List.set_cons_zero, List.set_cons_succ]
                                  exact stepF_val (by first | rfl | simp [Region.wanted, yielded, *]) (by go_simp <;> omega) ⟨⟨rf, rfl, hrf⟩, Only.refl _ _, (by obtain ⟨n4, h4, h5⟩ := hR; exact ⟨n4, by omega, h5⟩)⟩
                                · refine ⟨fun _ _ _ _ _ h => h, fun _ _ _ _ h hS => (by obtain ⟨rh, e0, hrh⟩ := h; exact ⟨rh, e0, hrh⟩), fun v nR x hnR hR hk => ?_⟩
                                  obtain ⟨rg, h6, hrg⟩ := hk 6 (by kernel_rfl)
                                  simp only [List.take_succ_cons, List.take_zero, frameF, Act.put, List.setIfInBounds_toArray, List.set_cons_zero, List.set_cons_succ]
                                  exact stepF_val (by first | rfl | simp [Region.wanted, yielded, *]) (by go_simp <;> omega) ⟨⟨rg, rfl, hrg⟩, Only.refl _ _, (by obtain ⟨n4, h4, h5⟩ := hR; exact ⟨n4, by omega, h5⟩)⟩
                                · refine ⟨fun _ _ _ _ _ h => h, fun _ _ _ _ h _ => h, fun v nR x hnR hR hk => ?_⟩
                                  have h0 : v 0 = .pointer (some ⟨gr, r2, none⟩) := hk 0 (by kernel_rfl)
                                  simp only [List.take_succ_cons, List.take_zero, frameF, Act.put, List.setIfInBounds_toArray, List.set_cons_zero, List.set_cons_succ]
                                  exact stepF_val (by first | rfl | simp [Region.wanted, yielded, *]) (by go_simp <;> omega) ⟨rfl, Only.refl _ _, (by obtain ⟨n4, h4, h5⟩ := hR; exact ⟨n4, by omega, h5⟩)⟩
                              · intro v nR x4 hnR hR hall
                                obtain ⟨rh, h7, hrh⟩ := hall 7 (by decide)
                                have h8 : v 8 = .pointer (some ⟨gr, r2, none⟩) := hall 8 (by decide)
                                clear hall
                                simp only [List.drop_succ_cons, List.drop_zero, List.take_succ_cons, List.take_zero, frameF, Act.put, List.setIfInBounds_toArray, List.set_cons_zero, List.set_cons_succ, Nat.zero_add, Nat.reduceAdd, h7, h8]
                                have hnR2 : nR ≤ 15 := Nat.le_trans (by first | exact hnR | exact Nat.le_of_lt hnR) (by decide)
                                clear hnR
                                obtain ⟨n5, hn5, hsp5, hon5⟩ := hR
                                obtain ⟨s1, cs5, hB5⟩ := HZC.out x4 hon5
                                have s2 := hB5.frozen r2
                                have s3 := hB5.lt
                                obtain ⟨nz, hnz⟩ : ∃ nz : Int, nz = max 0 (z + ((rh : Int) - 1)) := ⟨_, rfl⟩
                                have hnz0 : 0 ≤ nz ∧ nz ≤ ((10 + (t3 + 1) : Nat) : Int) := by omega
                                rw [← hnz]
                                clear hnz
                                obtain ⟨xs2, hk2, hI2⟩ := rows_set (g := gr) (o := r2) hr2 hnz0 (by omega) (HRI5.out.only (by omega) hon5)
                                have hO2 := ownOnly HOX4.out (by omega : gq < w13.heap.size) hon5
                                have HO3 : Hid (Own (rwE Int) 33 w13.heap.size (x4.setCell ⟨gr, r2, none⟩ (iv nz)) (.slice (some ⟨bX, oX, none⟩) a.length cX) xs2) := Lib.hid (Own.rekey (hO2.keep (by simp [World.setCell]) fun b hb => Below.heap_setCell _ _ _ _ (fun e => Own.apartBlk hO2 hB5 (by decide) (by rw [hb, e]))) hk2)
                                have HI3 := Lib.hid hI2
                                have HXL3 : Hid (xs2.length = a.length) := Lib.hid (by rw [(rows_key hk2).2, HXL.out])
                                have hsp6 : IsSpool (gq + 1) (x4.setCell ⟨gr, r2, none⟩ (iv nz)) gq n5 := hsp5.keep (by simp [World.setCell]) fun b hb => Below.heap_setCell _ _ _ _ (by show b ≠ gr; omega)
                                have hon6 : Only gq w8 (x4.setCell ⟨gr, r2, none⟩ (iv nz)) := (hon84.trans hon5).setCell (by show gq ≤ gr; omega) (by show w8.heap.size ≤ gr; omega) _
                                clear hk2 hI2 hO2 HRI5 HOX4 HZC HQ3 HXL hsp5 hon5 hB5 hon84 hsp4
                                go_wp2_with fail
                                go_roundw
                                case rel => exact ⟨t3 + 1, n5, xs2, by omega, by go_num, by omega, HXL3, HI3, HO3, hsp6, hon6⟩
                                case measure => simp [intOf]; omega
                          · as_aux_lemma =>
                            have HRIn : Hid (RowsIn w13.heap.size ((10 + (t3 + 1) : Nat) : Int) b.length wr xs') := Lib.hid fun r hr => ⟨(HRI.out r hr).1, fun z hz => by have := (HRI.out r hr).2.1 z hz; omega, (HRI.out r hr).2.2⟩
                            by_cases hpa : 0 < a.length
                            · have hp1 : (a.length : Int) > 0 := by omega
                              have hp2 : ¬ (b.length : Int) > 0 := by omega
                              clear hpos
                              go_wp2_with fail
                              go_roundw
                              case rel => exact ⟨t3 + 1, n3, xs', by omega, by go_num, by omega, HXL, HRIn, HOX, hsp, hon⟩
                              case measure => simp [intOf]; omega
                            · have hp1 : ¬ (a.length : Int) > 0 := by omega
                              clear hpos
                              go_wp2_with fail
                              go_roundw
                              case rel => exact ⟨t3 + 1, n3, xs', by omega, by go_num, by omega, HXL, HRIn, HOX, hsp, hon⟩
                              case measure => simp [intOf]; omega
                        · as_aux_lemma =>
                          have hti3 : ¬ (t3 : Int) < (r3 : Int) := by omega
                          have hb4x : Below gq w4 wr := hb48.trans hon.below
                          have hBD := Bound_spec Aa a ca Ab b cb AX xs' cX wr hba hbb (by rw [HXL.out]; exact hba) (fun r hr => by rw [(HRI.out r hr).1]; exact hbb) hca hcb (by rw [HXL.out]; exact hcX2) (HS4A.out wr hb4x) (HS4B.out wr hb4x) HOX.out.sl (fun r hr => ⟨(HRI.out r hr).2.2.1.sl, (HRI.out r hr).2.2.2⟩)
                          rw [HXL.out] at hBD
                          have hTR := bound_tried HER.out (xs := xs'.map Rw.xs) (by rw [List.length_map, HXL.out]) (fun row h => by obtain ⟨r, hr, rfl⟩ := List.mem_map.1 h; exact (HRI.out r hr).1) (fun row h z hz => by obtain ⟨r, hr, rfl⟩ := List.mem_map.1 h; have := (HRI.out r hr).2.1 z hz; omega)
                          have hlL := HLC.out
                          rcases hTR with ⟨m, hm, hmL⟩ | hm
                          all_goals
                            rw [hm] at hBD
                            have HBD := Lib.hid hBD
                          · have hmL2 : ¬ m < (L.length : Int) := by omega
                            clear hBD hm hlL hmL
                            go_wp2_with fail
                            refine HBD.out.mono ?_
                            rintro e w16 ⟨rfl, hb16⟩
                            have hon16 := hon.next hb16 (by omega)
                            have hsp16 : IsSpool (gq + 1) w16 gq n3 := hsp.below hb16 (by omega)
                            go_wp2_with fail
                            go_roundw
                            case rel => exact ⟨t + 1, n3, by omega, by go_num, by omega, hsp16, hon16⟩
                            case measure => simp [intOf]; omega
                          · clear hBD hm hlL
                            go_wp2_with fail
                            refine HBD.out.mono ?_
                            rintro e w16 ⟨rfl, hb16⟩
                            have hon16 := hon.next hb16 (by omega)
                            have hsp16 : IsSpool (gq + 1) w16 gq n3 := hsp.below hb16 (by omega)
                            go_wp2_with fail
                            go_roundw
                            case rel => exact ⟨t + 1, n3, by omega, by go_num, by omega, hsp16, hon16⟩
                            case measure => simp [intOf]; omega
              · as_aux_lemma =>
                -- ZTBEGIN
                obtain ⟨hli, hlj⟩ : i < a.length ∧ j < b.length := by simpa using HZ.out.symm
                clear HZ
                have hgz : gq < w8.heap.size := by omega
                have hb4x : Below gq w4 wr := hb48.trans honx.below
                obtain ⟨ba, oa, sa, hAa, hba2, hxa, hca2⟩ := Sl.atS (HS4A.out _ hb4x) hli
                obtain ⟨bb, ob, sb, hAb, hbb2, hxb, hcb2⟩ := Sl.atS (HS4B.out _ hb4x) hlj
                subst hAa hAb
                have HCA := Lib.hid fun W (h : Below gq w4 W) => (Sl.cellS (HS4A.out _ h) hxa) W (Below.refl _ _)
                have HCB := Lib.hid fun W (h : Below gq w4 W) => (Sl.cellS (HS4B.out _ h) hxb) W (Below.refl _ _)
                obtain ⟨q, hqs⟩ : ∃ q, (sa.toList == sb.toList) = q := ⟨_, rfl⟩
                have HQD : Hid (q = decide (sa = sb)) := Lib.hid (by rw [← hqs, str_eq])
                have HXA := Lib.hid hxa
                have HXB := Lib.hid hxb
                clear hxa hxb hca2 hcb2
                have ewi : IntKind.i64.wrap ((i : Int) + 1) = (i : Int) + 1 := IntWalk.i64_in _ (by omega)
                have ewj : IntKind.i64.wrap ((j : Int) + 1) = (j : Int) + 1 := IntWalk.i64_in _ (by omega)
                rcases Bool.eq_false_or_eq_true q with hqv | hqv
                · go_upto_region 20 with fail
                  refine wp_one_lit (by kernel_rfl) 12 (by kernel_rfl) (by kernel_rfl) (by decide) 11 (by decide) (fun x => Only gq w8 x)
                    [.slice (some ⟨ba, oa, none⟩) a.length ca,
                     iv (i : Int),
                     .pointer (some ⟨ba, oa + i, none⟩),
                     .string sa,
                     .slice (some ⟨bb, ob, none⟩) b.length cb,
                     iv (j : Int),
                     .pointer (some ⟨bb, ob + j, none⟩),
                     .string sb,
                     .bool q,
                     .bool q,
                     .pointer (some ⟨gq, 0, none⟩),
                     undef]
                    (fun x => IsSpool (gq + 1) x gq n ∧ Own pairE 83 w8.heap.size x u16 out) (fun u x => ∃ t2 : Bool, u = .bool t2 ∧ IsSpool (gq + 1) x gq (n + 1) ∧ Own pairE 83 w8.heap.size x u16 out) (honx.drew) ?_ ?_ ?_
                  rotate_left
                  · simp only [List.take_succ_cons, List.take_zero, OneL]
                    refine ⟨?_, ?_, ?_, ?_, ?_, ?_, ?_, ?_, ?_, ?_, ?_, ?_, trivial⟩
                    · refine one_plain (by decide) fun v x hR hk => ?_
                      simp only [List.take_succ_cons, List.take_zero, frameF, Act.put, List.setIfInBounds_toArray, List.set_cons_zero, List.set_cons_succ]
                      exact stepF_val (by first | rfl | simp [Region.wanted, yielded, *]) (by go_simp <;> omega) ⟨rfl, rfl⟩
                    · refine one_plain (by decide) fun v x hR hk => ?_
                      simp only [List.take_succ_cons, List.take_zero, frameF, Act.put, List.setIfInBounds_toArray, List.set_cons_zero, List.set_cons_succ]
                      exact stepF_val (by first | rfl | simp [Region.wanted, yielded, *]) (by go_simp <;> omega) ⟨rfl, rfl⟩
                    · refine one_plain (by decide) fun v x hR hk => ?_
                      have h0 : v 0 = .slice (some ⟨ba, oa, none⟩) a.length ca := hk 0 (by kernel_rfl) (by decide)
                      have h1 : v 1 = iv (i : Int) := hk 1 (by kernel_rfl) (by decide)
                      simp only [List.take_succ_cons, List.take_zero, frameF, Act.put, List.setIfInBounds_toArray, List.set_cons_zero, List.set_cons_succ]
                      exact stepF_val (by first | rfl | simp [Region.wanted, yielded, *]) (by go_simp <;> omega) ⟨rfl, rfl⟩
                    · refine one_plain (by decide) fun v x hR hk => ?_
                      have h2 : v 2 = .pointer (some ⟨ba, oa + i, none⟩) := hk 2 (by kernel_rfl) (by decide)
                      have g1 := HCA.out x (hb48.trans hR.below)
                      simp only [List.take_succ_cons, List.take_zero, frameF, Act.put, List.setIfInBounds_toArray, List.set_cons_zero, List.set_cons_succ]
                      exact stepF_val (by first | rfl | simp [Region.wanted, yielded, *]) (by go_simp <;> omega) ⟨rfl, rfl⟩
                    · refine one_plain (by decide) fun v x hR hk => ?_
                      simp only [List.take_succ_cons, List.take_zero, frameF, Act.put, List.setIfInBounds_toArray, List.set_cons_zero, List.set_cons_succ]
                      exact stepF_val (by first | rfl | simp [Region.wanted, yielded, *]) (by go_simp <;> omega) ⟨rfl, rfl⟩
                    · refine one_plain (by decide) fun v x hR hk => ?_
                      simp only [List.take_succ_cons, List.take_zero, frameF, Act.put, List.setIfInBounds_toArray, List.set_cons_zero, List.set_cons_succ]
                      exact stepF_val (by first | rfl | simp [Region.wanted, yielded, *]) (by go_simp <;> omega) ⟨rfl, rfl⟩
                    · refine one_plain (by decide) fun v x hR hk => ?_
                      have h4 : v 4 = .slice (some ⟨bb, ob, none⟩) b.length cb := hk 4 (by kernel_rfl) (by decide)
                      have h5 : v 5 = iv (j : Int) := hk 5 (by kernel_rfl) (by decide)
                      simp only [List.take_succ_cons, List.take_zero, frameF, Act.put, List.setIfInBounds_toArray, List.set_cons_zero, List.set_cons_succ]
                      exact stepF_val (by first | rfl | simp [Region.wanted, yielded, *]) (by go_simp <;> omega) ⟨rfl, rfl⟩
                    · refine one_plain (by decide) fun v x hR hk => ?_
                      have h6 : v 6 = .pointer (some ⟨bb, ob + j, none⟩) := hk 6 (by kernel_rfl) (by decide)
                      have g1 := HCB.out x (hb48.trans hR.below)
                      simp only [List.take_succ_cons, List.take_zero, frameF, Act.put, List.setIfInBounds_toArray, List.set_cons_zero, List.set_cons_succ]
                      exact stepF_val (by first | rfl | simp [Region.wanted, yielded, *]) (by go_simp <;> omega) ⟨rfl, rfl⟩
                    · refine one_plain (by decide) fun v x hR hk => ?_
                      have h3 : v 3 = .string sa := hk 3 (by kernel_rfl) (by decide)
                      have h7 : v 7 = .string sb := hk 7 (by kernel_rfl) (by decide)
                      simp only [List.take_succ_cons, List.take_zero, frameF, Act.put, List.setIfInBounds_toArray, List.set_cons_zero, List.set_cons_succ]
                      exact stepF_val (by first | rfl | simp [Region.wanted, yielded, *]) (by go_simp <;> omega) ⟨rfl, rfl⟩
                    · refine one_plain (by decide) fun v x hR hk => ?_
                      have h8 : v 8 = .bool q := hk 8 (by kernel_rfl) (by decide)
                      simp only [List.take_succ_cons, List.take_zero, frameF, Act.put, List.setIfInBounds_toArray, List.set_cons_zero, List.set_cons_succ]
                      exact stepF_val (by first | rfl | simp [Region.wanted, yielded, *]) (by go_simp <;> omega) ⟨rfl, rfl⟩
                    · refine one_plain (by decide) fun v x hR hk => ?_
                      have h9 : v 9 = .bool q := hk 9 (by kernel_rfl) (by decide)
                      simp only [List.take_succ_cons, List.take_zero, frameF, Act.put, List.setIfInBounds_toArray, List.set_cons_zero, List.set_cons_succ]
                      exact stepF_val (by first | rfl | simp [Region.wanted, yielded, *]) (by go_simp <;> omega) ⟨rfl, rfl⟩
                    · refine one_special rfl fun v x hR hpre hk => ?_
                      have h10 : v 10 = .pointer (some ⟨gq, 0, none⟩) := hk 10 (by kernel_rfl) (by decide)
                      have h9 : v 9 = .bool q := hk 9 (by kernel_rfl) (by decide)
                      simp only [List.take_succ_cons, List.take_zero, frameF, Act.put, List.setIfInBounds_toArray, List.set_cons_zero, List.set_cons_succ]
                      refine stepF_call (by first | rfl | simp [Region.wanted, yielded, *]) (by go_simp) (once_spec (gq + 1) x gq n 4 hpre.1 (by omega) (by omega) (by omega)) ?_
                      rintro e x' ⟨t2, rfl, hsq, hoq⟩
                      exact ⟨_, rfl, ⟨t2, rfl, hsq, hpre.2.keep hoq.below.size fun b hb => hoq.other b (hpre.2.lt b hb).2 (by have := (hpre.2.lt b hb).1; omega)⟩, hR.trans hoq⟩
                  · intro v x1 hR hpost hall
                    have h9 : v 9 = .bool q := hall 9 (by decide) (by decide)
                    clear hall
                    simp only [List.drop_succ_cons, List.drop_zero, List.take_succ_cons, List.take_zero, frameF, Act.put, List.setIfInBounds_toArray, List.set_cons_zero, List.set_cons_succ, Nat.zero_add, Nat.reduceAdd, h9]
                    generalize v 11 = vSp at *
                    subst hqv
                    obtain ⟨t2, rfl, hsq, ho2⟩ := hpost
                    have HEQ : Hid (sa = sb) := Lib.hid (by simpa using HQD.out.symm)
                    have hon1 : Only gq w8 x1 := hR
                    cases t2
                    · go_wp2_with (at_builtin; refine wpApp1 pairE tyArr2 rfl _ _ rfl ho2 (i, j) rfl rfl rfl hon1.below.size (by unfold big; omega) ?_; intro v3 w3 hown3 hb3 hk3)
                      have HP3 : Hid (File.Pairs a b 0 0 (out ++ [(i, j)])) := Lib.hid (File.pairs_more hli hlj (Option.some.inj (by rw [← List.getElem?_eq_getElem hli, ← List.getElem?_eq_getElem hlj, HXA.out, HXB.out, HEQ.out])) out 0 0 HP.out HLT.out (Nat.zero_le _) (Nat.zero_le _))
                      have HLT3 : Hid (∀ p ∈ out ++ [(i, j)], p.1 < i + 1 ∧ p.2 < j + 1) := Lib.hid fun p hp => by
                        rcases List.mem_append.1 hp with hp | hp
                        · have := HLT.out p hp; omega
                        · rw [List.mem_singleton.1 hp]; exact ⟨Nat.lt_succ_self _, Nat.lt_succ_self _⟩
                      have HO3 := Lib.hid hown3
                      have hsp3 : IsSpool (gq + 1) w3 gq (n + 1) := hsq.below hb3 hgz
                      have hon3 : Only gq w8 w3 := hon1.nextB hb3 (Nat.le_of_lt hgz) (Nat.le_refl _)
                      clear hown3 hk3 hsq hon1 ho2 hR hb3 HCA HCB
                      go_roundw
                      case rel => exact ⟨i + 1, j + 1, n + 1, _, by omega, by omega, by go_num, by go_num, HO3, HP3, HLT3, by simp; omega, by omega, hsp3, hon3⟩
                      case measure => simp [intOf]; omega
                    · have HO2 := Lib.hid ho2
                      clear ho2 HCA HCB hR
                      go_wp2_with fail
                      refine (once_spec (gq + 1) x1 gq (n + 1) 2 hsq (by omega) (by omega) (by omega)).mono ?_
                      rintro e w3 ⟨t3, rfl, hsp3, hoq3⟩
                      have hon3 : Only gq w8 w3 := hon1.trans hoq3
                      have HO3 : Hid (Own pairE 83 w8.heap.size w3 u16 out) := Lib.hid (HO2.out.keep hoq3.below.size fun b hb => hoq3.other b (HO2.out.lt b hb).2 (by have := (HO2.out.lt b hb).1; omega))
                      clear hoq3
                      cases t3
                      · go_wp2_with fail
                        have HLT3 : Hid (∀ p ∈ out, p.1 < i ∧ p.2 < j + 1) := Lib.hid fun p hp => by have := HLT.out p hp; omega
                        go_roundw
                        case rel => exact ⟨i, j + 1, _, out, by omega, by omega, by go_num, by go_num, HO3, HP, HLT3, by omega, (by omega : n + 1 + 1 ≤ _), hsp3, hon3⟩
                        case measure => simp [intOf]; omega
                      · go_wp2_with fail
                        have HLT3 : Hid (∀ p ∈ out, p.1 < i + 1 ∧ p.2 < j) := Lib.hid fun p hp => by have := HLT.out p hp; omega
                        go_roundw
                        case rel => exact ⟨i + 1, j, _, out, by omega, by omega, by go_num, by go_num, HO3, HP, HLT3, by omega, (by omega : n + 1 + 1 ≤ _), hsp3, hon3⟩
                        case measure => simp [intOf]; omega
                  · exact ⟨hspx.below (Below.refl _ wr).drew (Nat.le_refl _), HO.out.below (Below.refl _ wr).drew⟩
                · go_upto_region 20 with fail
                  refine wp_free_lit (by kernel_rfl) 15 (by kernel_rfl) (by kernel_rfl) (by decide) (fun nR x => Below wr.heap.size wr x) (fun x x' => Below x.heap.size x x')
                    [fun _ u _ => u = .slice (some ⟨ba, oa, none⟩) a.length ca,
                     fun _ u _ => u = iv (i : Int),
                     fun _ u _ => u = .pointer (some ⟨ba, oa + i, none⟩),
                     fun _ u _ => u = .string sa,
                     fun _ u _ => u = .slice (some ⟨bb, ob, none⟩) b.length cb,
                     fun _ u _ => u = iv (j : Int),
                     fun _ u _ => u = .pointer (some ⟨bb, ob + j, none⟩),
                     fun _ u _ => u = .string sb,
                     fun _ u _ => u = .bool q,
                     fun _ u _ => u = .bool q,
                     fun _ u _ => u = undef,
                     fun _ u _ => u = undef,
                     fun _ u _ => u = undef,
                     fun _ u _ => u = .bool false,
                     fun _ u _ => u = .bool false]
                    (Below.refl _ wr).drew ?_ ?_
                  · simp only [List.take_succ_cons, List.take_zero, HopL]
                    refine ⟨?_, ?_, ?_, ?_, ?_, ?_, ?_, ?_, ?_, ?_, ?_, ?_, ?_, ?_, ?_, trivial⟩
                    · refine ⟨fun _ _ _ _ _ h => h, fun _ _ _ _ h _ => h, fun v nR x hnR hR hk => ?_⟩
                      simp only [List.take_succ_cons, List.take_zero, frameF, Act.put, List.setIfInBounds_toArray, List.set_cons_zero, List.set_cons_succ]
                      exact stepF_val (by first | rfl | simp [Region.wanted, yielded, *]) (by go_simp <;> omega) ⟨rfl, Below.refl _ _, hR⟩
                    · refine ⟨fun _ _ _ _ _ h => h, fun _ _ _ _ h _ => h, fun v nR x hnR hR hk => ?_⟩
                      simp only [List.take_succ_cons, List.take_zero, frameF, Act.put, List.setIfInBounds_toArray, List.set_cons_zero, List.set_cons_succ]
                      exact stepF_val (by first | rfl | simp [Region.wanted, yielded, *]) (by go_simp <;> omega) ⟨rfl, Below.refl _ _, hR⟩
                    · refine ⟨fun _ _ _ _ _ h => h, fun _ _ _ _ h _ => h, fun v nR x hnR hR hk => ?_⟩
                      have h0 : v 0 = .slice (some ⟨ba, oa, none⟩) a.length ca := hk 0 (by kernel_rfl)
                      have h1 : v 1 = iv (i : Int) := hk 1 (by kernel_rfl)
                      simp only [List.take_succ_cons, List.take_zero, frameF, Act.put, List.setIfInBounds_toArray, List.set_cons_zero, List.set_cons_succ]
                      exact stepF_val (by first | rfl | simp [Region.wanted, yielded, *]) (by go_simp <;> omega) ⟨rfl, Below.refl _ _, hR⟩
                    · refine ⟨fun _ _ _ _ _ h => h, fun _ _ _ _ h _ => h, fun v nR x hnR hR hk => ?_⟩
                      have h2 : v 2 = .pointer (some ⟨ba, oa + i, none⟩) := hk 2 (by kernel_rfl)
                      have g1 := HCA.out x (hb4x.trans (hR.mono (by have := honx.below.size; omega)))
                      simp only [List.take_succ_cons, List.take_zero, frameF, Act.put, List.setIfInBounds_toArray, List.set_cons_zero, List.set_cons_succ]
                      exact stepF_val (by first | rfl | simp [Region.wanted, yielded, *]) (by go_simp <;> omega) ⟨rfl, Below.refl _ _, hR⟩
                    · refine ⟨fun _ _ _ _ _ h => h, fun _ _ _ _ h _ => h, fun v nR x hnR hR hk => ?_⟩
                      simp only [List.take_succ_cons, List.take_zero, frameF, Act.put, List.setIfInBounds_toArray, List.set_cons_zero, List.set_cons_succ]
                      exact stepF_val (by first | rfl | simp [Region.wanted, yielded, *]) (by go_simp <;> omega) ⟨rfl, Below.refl _ _, hR⟩
                    · refine ⟨fun _ _ _ _ _ h => h, fun _ _ _ _ h _ => h, fun v nR x hnR hR hk => ?_⟩
                      simp only [List.take_succ_cons, List.take_zero, frameF, Act.put, List.setIfInBounds_toArray, List.set_cons_zero, List.set_cons_succ]
                      exact stepF_val (by first | rfl | simp [Region.wanted, yielded, *]) (by go_simp <;> omega) ⟨rfl, Below.refl _ _, hR⟩
                    · refine ⟨fun _ _ _ _ _ h => h, fun _ _ _ _ h _ => h, fun v nR x hnR hR hk => ?_⟩
                      have h4 : v 4 = .slice (some ⟨bb, ob, none⟩) b.length cb := hk 4 (by kernel_rfl)
                      have h5 : v 5 = iv (j : Int) := hk 5 (by kernel_rfl)
                      simp only [List.take_succ_cons, List.take_zero, frameF, Act.put, List.setIfInBounds_toArray, List.set_cons_zero, List.set_cons_succ]
                      exact stepF_val (by first | rfl | simp [Region.wanted, yielded, *]) (by go_simp <;> omega) ⟨rfl, Below.refl _ _, hR⟩
                    · refine ⟨fun _ _ _ _ _ h => h, fun _ _ _ _ h _ => h, fun v nR x hnR hR hk => ?_⟩
                      have h6 : v 6 = .pointer (some ⟨bb, ob + j, none⟩) := hk 6 (by kernel_rfl)
                      have g1 := HCB.out x (hb4x.trans (hR.mono (by have := honx.below.size; omega)))
                      simp only [List.take_succ_cons, List.take_zero, frameF, Act.put, List.setIfInBounds_toArray, List.set_cons_zero, List.set_cons_succ]
                      exact stepF_val (by first | rfl | simp [Region.wanted, yielded, *]) (by go_simp <;> omega) ⟨rfl, Below.refl _ _, hR⟩
                    · refine ⟨fun _ _ _ _ _ h => h, fun _ _ _ _ h _ => h, fun v nR x hnR hR hk => ?_⟩
                      have h3 : v 3 = .string sa := hk 3 (by kernel_rfl)
                      have h7 : v 7 = .string sb := hk 7 (by kernel_rfl)
                      simp only [List.take_succ_cons, List.take_zero, frameF, Act.put, List.setIfInBounds_toArray, List.set_cons_zero, List.set_cons_succ]
                      exact stepF_val (by first | rfl | simp [Region.wanted, yielded, *]) (by go_simp <;> omega) ⟨rfl, Below.refl _ _, hR⟩
                    · refine ⟨fun _ _ _ _ _ h => h, fun _ _ _ _ h _ => h, fun v nR x hnR hR hk => ?_⟩
                      have h8 : v 8 = .bool q := hk 8 (by kernel_rfl)
                      simp only [List.take_succ_cons, List.take_zero, frameF, Act.put, List.setIfInBounds_toArray, List.set_cons_zero, List.set_cons_succ]
                      exact stepF_val (by first | rfl | simp [Region.wanted, yielded, *]) (by go_simp <;> omega) ⟨rfl, Below.refl _ _, hR⟩
                    · refine ⟨fun _ _ _ _ _ h => h, fun _ _ _ _ h _ => h, fun v nR x hnR hR hk => ?_⟩
                      have h9 : v 9 = .bool q := hk 9 (by kernel_rfl)
                      simp only [List.take_succ_cons, List.take_zero, frameF, Act.put, List.setIfInBounds_toArray, List.set_cons_zero, List.set_cons_succ]
                      exact stepF_out (by first | rfl | (simp [Region.wanted, yielded, *]; done) | (simp [Region.wanted, yielded, undef, *]; done)) ⟨rfl, Below.refl _ _, hR⟩
                    · refine ⟨fun _ _ _ _ _ h => h, fun _ _ _ _ h _ => h, fun v nR x hnR hR hk => ?_⟩
                      have h9 : v 9 = .bool q := hk 9 (by kernel_rfl)
                      simp only [List.take_succ_cons, List.take_zero, frameF, Act.put, List.setIfInBounds_toArray, List.set_cons_zero, List.set_cons_succ]
                      exact stepF_out (by first | rfl | (simp [Region.wanted, yielded, *]; done) | (simp [Region.wanted, yielded, undef, *]; done)) ⟨rfl, Below.refl _ _, hR⟩
                    · refine ⟨fun _ _ _ _ _ h => h, fun _ _ _ _ h _ => h, fun v nR x hnR hR hk => ?_⟩
                      have h9 : v 9 = .bool q := hk 9 (by kernel_rfl)
                      simp only [List.take_succ_cons, List.take_zero, frameF, Act.put, List.setIfInBounds_toArray, List.set_cons_zero, List.set_cons_succ]
                      exact stepF_out (by first | rfl | (simp [Region.wanted, yielded, *]; done) | (simp [Region.wanted, yielded, undef, *]; done)) ⟨rfl, Below.refl _ _, hR⟩
                    · refine ⟨fun _ _ _ _ _ h => h, fun _ _ _ _ h _ => h, fun v nR x hnR hR hk => ?_⟩
                      have h9 : v 9 = .bool q := hk 9 (by kernel_rfl)
                      have h12 : v 12 = undef := hk 12 (by kernel_rfl)
                      simp only [List.take_succ_cons, List.take_zero, frameF, Act.put, List.setIfInBounds_toArray, List.set_cons_zero, List.set_cons_succ]
                      exact stepF_val (by first | rfl | simp [Region.wanted, yielded, *]) (by go_simp <;> omega) ⟨rfl, Below.refl _ _, hR⟩
                    · refine ⟨fun _ _ _ _ _ h => h, fun _ _ _ _ h _ => h, fun v nR x hnR hR hk => ?_⟩
                      have h13 : v 13 = .bool false := hk 13 (by kernel_rfl)
                      simp only [List.take_succ_cons, List.take_zero, frameF, Act.put, List.setIfInBounds_toArray, List.set_cons_zero, List.set_cons_succ]
                      exact stepF_val (by first | rfl | simp [Region.wanted, yielded, *]) (by go_simp <;> omega) ⟨rfl, Below.refl _ _, hR⟩
                  · intro v nR x1 hnR hR hall
                    have h13 : v 13 = .bool false := hall 13 (by decide)
                    have h14 : v 14 = .bool false := hall 14 (by decide)
                    clear hall hnR
                    simp only [List.drop_succ_cons, List.drop_zero, List.take_succ_cons, List.take_zero, frameF, Act.put, List.setIfInBounds_toArray, List.set_cons_zero, List.set_cons_succ, Nat.zero_add, Nat.reduceAdd, h13, h14]
                    have hon1 : Only gq w8 x1 := honx.next hR (by have := honx.below.size; omega)
                    have hsq : IsSpool (gq + 1) x1 gq n := hspx.below hR (by have := honx.below.size; omega)
                    have HO2 := Lib.hid (HO.out.below hR)
                    clear hR hspx honx HCA HCB
                    go_wp2_with fail
                    refine (once_spec (gq + 1) x1 gq (n) 2 hsq (by omega) (by omega) (by omega)).mono ?_
                    rintro e w3 ⟨t3, rfl, hsp3, hoq3⟩
                    have hon3 : Only gq w8 w3 := hon1.trans hoq3
                    have HO3 : Hid (Own pairE 83 w8.heap.size w3 u16 out) := Lib.hid (HO2.out.keep hoq3.below.size fun b hb => hoq3.other b (HO2.out.lt b hb).2 (by have := (HO2.out.lt b hb).1; omega))
                    clear hoq3
                    cases t3
                    · go_wp2_with fail
                      have HLT3 : Hid (∀ p ∈ out, p.1 < i ∧ p.2 < j + 1) := Lib.hid fun p hp => by have := HLT.out p hp; omega
                      go_roundw
                      case rel => exact ⟨i, j + 1, _, out, by omega, by omega, by go_num, by go_num, HO3, HP, HLT3, by omega, (by omega : n + 1 ≤ _), hsp3, hon3⟩
                      case measure => simp [intOf]; omega
                    · go_wp2_with fail
                      have HLT3 : Hid (∀ p ∈ out, p.1 < i + 1 ∧ p.2 < j) := Lib.hid fun p hp => by have := HLT.out p hp; omega
                      go_roundw
                      case rel => exact ⟨i + 1, j, _, out, by omega, by omega, by go_num, by go_num, HO3, HP, HLT3, by omega, (by omega : n + 1 ≤ _), hsp3, hon3⟩
                      case measure => simp [intOf]; omega
        · have hti : ¬ (t : Int) < 6 := by omega
          have hb4x : Below gq w4 wr := hb48.trans hon.below
          have hb0x : Below w.heap.size w wr := hb04'.trans (hb4x.mono hgw)
          go_wp2_with fail
          refine (HAW.out _ hb0x).mono ?_
          rintro _ wz ⟨rfl, hbz⟩
          go_wp2_with fail
          go_ret
          exact ⟨rfl, hb0x.next hbz (Nat.le_refl _)⟩
end Fl
end Go.Proofs.YtekkhnjepcebkaaGreatDoor
-- FileShortest holds. No condition.
namespace Go.Proofs.YtekkhnjepcebkaaGreatDoor.fshort
open Go.ChangeShapes Go.WideShapes Go.ChangeAt Go.RowKit
set_option maxRecDepth 100000

theorem contract (H : Type) (enc : TypeId × Value → H) (W : World) (base : Nat) (args : Array Value) (ds gs : List (DataW H)) (before : List MemPlace)
    (hval : ∀ (j : Nat) t v, Tryz.f7.params[j]? = some t → args[j]? = some v → Value.okWide Tryz.prog W .any base t v)
    (hW : DataW.Whole enc Tryz.prog Tryz.f7.params.toList Rows.fileShortestSpec.vars false W args.toList ds gs before) (hL : laidMetH Tryz.prog Rows.fileShortestRow.laid W) :
    Calls Tryz.prog 7 args W fun e W' => ∃ v, e = .returned v ∧ Rows.fileShortestSpec.post enc Tryz.prog Tryz.f7 false true false false W args v W' := by
  have hW' := hW
  obtain ⟨p, q, hA0, hV, he, hfz, hnd⟩ := hW
  have hA : DataW.TrodAll enc Tryz.prog W 0 (fun _ => true) true Tryz.f7.params.toList args.toList ds p := hA0
  rw [Tryz.params7] at hA hval
  obtain ⟨v0, vs0, d0, ds0, p0, q0, hargs, rfl, rfl, h0, r0⟩ := trodAll_cons hA
  obtain ⟨v1, vs1, d1, ds1, p1, q1, rfl, rfl, rfl, h1, r1⟩ := trodAll_cons r0
  obtain ⟨v2, vs2, d2, ds2, p2, q2, rfl, rfl, rfl, h2, r2⟩ := trodAll_cons r1
  obtain ⟨rfl, rfl, rfl⟩ := trodAll_nil r2
  obtain rfl : args = #[v0, v1, v2] := by cases args; simp_all
  obtain ⟨rfl, rfl⟩ := trodVars_none hV
  obtain ⟨A, bs, c, rfl, hc, hm, hs⟩ := openBytes (hval 0 _ v0 rfl rfl) h0
  obtain ⟨A', bs', c', rfl, hc', hm', hs'⟩ := openBytes (hval 1 _ v1 rfl rfl) h1
  obtain ⟨A'', bs'', c'', rfl, hc'', hm'', hs''⟩ := openBytes (hval 2 _ v2 rfl rfl) h2
  refine (Fl.short_law A bs c A' bs' c' A'' bs'' c'' W hs hs' hs'' (tab_of hL)).mono fun e W' ⟨he', hb⟩ => ?_
  subst he'
  exact ⟨_, rfl, law_post (by rw [Tryz.params7]; decide) rfl rfl Tryz.underlying4 hW' hb rfl rfl rfl⟩
theorem reads (os : Os) {H : Type} (enc : TypeId × Value → H) : ∃ places, DataW.whole enc Tryz.prog ((laidWorld os).forCall (fun _ _ => 0) ⟨#[], #[.slice none 0 0, .slice none 0 0, .slice none 0 0], []⟩).memory Tryz.f7.params.toList Rows.fileShortestSpec.vars false #[Value.slice none 0 0, Value.slice none 0 0, Value.slice none 0 0].toList 8 = some ([.nil, .nil, .nil], [], places) :=
  ⟨[], by kernel_rfl⟩
theorem lifted (os : Os) (started : os.Started) (H : Type) (enc : TypeId × Value → H) (F : Stop.Interp) :
    ReturnsInHanded {} Tryz.checked os 7 .any ((OpenSpec.ofChange Rows.fileShortestSpec).preRow enc Tryz.prog Tryz.f7 Rows.fileShortestRow.domain false Rows.fileShortestRow.laid) (((OpenSpec.ofChange Rows.fileShortestSpec).at F).post enc Tryz.prog Tryz.f7 false true false false) := by
  obtain ⟨places, hx⟩ := reads os enc
  refine returnsInHanded_of_row (C := Tryz.checked) (s := OpenSpec.ofChange Rows.fileShortestSpec) own started (by kernel_rfl) Tryz.func7
    (witness_row_at (enc := enc) (C := Tryz.checked) false (laidWorld os) #[.slice none 0 0, .slice none 0 0, .slice none 0 0] rfl (by kernel_rfl) (by kernel_rfl) (by kernel_rfl)
      (OpenSpec.preRow_of_cond 8 hx (by kernel_rfl) (fun k hk => by cases hk) (by kernel_rfl) (laid_met os _))) ?_
  intro W base args ds gs before hval hW _ _ _ hL _ _
  exact contract H enc W base args ds gs before hval hW hL
theorem said : Rows.FileShortestSaid :=
  OpenClaim.holds_of_cond 7 Tryz.f7 rfl rfl rfl rfl rfl rfl rfl ⟨rfl, rfl, rfl, rfl, rfl⟩ rfl rfl rfl rfl rfl (by kernel_rfl) Tryz.func7 (by kernel_rfl)
    (of_decide_eq_true (by kernel_rfl)) (by unfold Func.isWrapper; first | (rw [if_pos (by decide +kernel)]; kernel_rfl) | (rw [if_neg (by decide +kernel)]; exact ⟨rfl, rfl⟩))
    (fun os started H enc _ F => by rw [OpenClaim.pre_eq_preRow]; exact lifted os started H enc F)
theorem plain (f : FuncId) (fn : Func) (hf : Tryz.pinned.checked.prog.funcNamed "petersham/petershamlaw11.FileShortest" = some f) (hfn : Tryz.pinned.checked.prog.funcs[f]? = some fn) :
    false = Tryz.pinned.checked.prog.looks [] ∧ ∀ (j : Nat) t, fn.params[j]? = some t → Tryz.pinned.checked.prog.wantsStandIn t = false := by
  obtain rfl : f = 7 := Option.some.inj ((show Tryz.prog.funcNamed "petersham/petershamlaw11.FileShortest" = some 7 by kernel_rfl).symm.trans hf) |>.symm
  obtain rfl : fn = Tryz.f7 := (Option.some.inj (Tryz.func7.symm.trans hfn)).symm
  refine ⟨by kernel_rfl, fun j t ht => ?_⟩
  rw [Tryz.params7] at ht
  have ht' := Array.mem_of_getElem? ht
  simp at ht'
  subst ht'
  exact (show Tryz.prog.wantsStandIn 68 = false by kernel_rfl)
/-- THE CARD. -/
theorem card : Rows.FileShortestCardSaid :=
  Claim7.holds_tied_plain_at .later [] _ _ _ _ said (fun _ h => by cases h) (by kernel_rfl) (fun _ h => by cases h) fileShortest_row_tie rfl ⟨rfl, rfl⟩ (by kernel_rfl) rfl plain (by kernel_rfl)
end Go.Proofs.YtekkhnjepcebkaaGreatDoor.fshort
