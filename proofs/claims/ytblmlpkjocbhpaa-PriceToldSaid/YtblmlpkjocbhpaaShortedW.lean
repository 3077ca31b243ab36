/- PriceShort returns true: the walk. Condition: the arguments read as bytes. -/
import Derived.Test.YtblmlpkjocbhpaaShortV
import Derived.Test.YtblmlpkjocbhpaaRefS
import Derived.Test.YtblmlpkjocbhpaaOrderW
import Derived.Test.YtblmlpkjocbhpaaHoldsW
import Derived.Test.YtblmlpkjocbhpaaMadeW
import Derived.Test.YtblmlpkjocbhpaaFrame
import Derived.Deep.QuietTactic
import Derived.BigQuiet
set_option linter.unusedVariables false
set_option linter.unusedSimpArgs false
namespace Go.Proofs.Ytblmlpkjocbhpaa
open Go.RowKit Go.Shelf
set_option maxRecDepth 100000
/-- What Shortest returns of a list without an error. -/
def ShortOk (x : List Int) (w : World) (e : Ending) (w' : World) : Prop := ∃ A c, e = .returned (.tuple #[.slice A x.length c, iv 0]) ∧ x.length ≤ c ∧ Since w.heap.size A ∧ Sl intE w' A x ∧ Below w.heap.size w w'
theorem short_call (A : Option Addr) (l : List Rule) (c : Nat) (w : World) (h0 : Price.check l = 0) (hc : l.length ≤ c) (hs : Sl ruleE w A l) :
    ∃ x, Price.First (Price.givesP l) l.length x ∧ x.length ≤ l.length ∧ ∀ W, Below w.heap.size w W → Calls Try.prog 71 #[.slice A l.length c] W (ShortOk x W) := by
  obtain ⟨x, hx, hfx⟩ := Price.short_some l
  have hl := Price.check_length h0
  refine ⟨x, hfx, by have := Price.rises_len hfx.rises (by omega); omega, fun W h => (Shortest_spec A l c W (by unfold big; omega) hc (hs.below h)).mono ?_⟩
  have hso : Price.shortOf l = (x, 0) := by unfold Price.shortOf; rw [if_pos h0, hx]; rfl
  rintro e w' ⟨A', c', h1, h2, h5, h3, h4⟩
  rw [hso] at h1 h2 h3
  exact ⟨A', c', h1, h2, h5, h3, h4⟩
set_option maxHeartbeats 8000000 in
theorem shorted_walk (A : Option Addr) (bs : List Int) (c : Nat) (A' : Option Addr) (bs' : List Int) (c' : Nat) (w : World) (hs : Sl byteE w A bs) (hs' : Sl byteE w A' bs') :
    Calls Try.prog 11 #[.slice A bs.length c, .slice A' bs'.length c'] w fun e w' => e = .returned (.bool true) ∧ Below w.heap.size w w' := by
  go_enter Try.func11, Try.ntmps11
  go_wp2_with fail
  refine (wound_spec A bs c w hs).mono ?_
  rintro e w1 ⟨g, rfl, rfl, hsp1, hb1⟩
  have hz1 := hsp1.2.1
  go_wp2_with fail
  refine (made_spec _ w.heap.size 0 8 w1 hsp1 (by omega) (by omega)).mono ?_
  rintro e w2 ⟨vl, l, k3, rfl, hol, hml, hk3, hsp2, ho2⟩
  have hl8 := hml.len
  obtain ⟨Al, cl, rfl, hcl, _⟩ := hol.form
  have hsl2 := hol.sl
  have hb02 : Below w.heap.size w w2 := hb1.trans ho2.below
  obtain ⟨x, hfx, hxl, HSH0⟩ := short_call Al l cl w2 (hml.check (by omega)) hcl hsl2
  have HSH := Lib.hid (HSH0 w2 (Below.refl _ _))
  have HSL : Hid (∀ W, Below w2.heap.size w2 W → Sl ruleE W Al l) := fun W h => hsl2.below h
  have HML := Lib.hid hml
  have HFX := Lib.hid hfx
  clear hml hfx HSH0 hsl2 hol hsp1 hsp2 ho2 hb1 hk3
  go_wp2_with fail
  refine HSH.out.mono ?_
  rintro e w3 ⟨Ax, cx, rfl, hcx, _, hsx, hb23⟩
  have hb03 := hb02.next hb23 (by have := hb02.size; omega)
  have HSX : Hid (∀ W, Below w3.heap.size w3 W → Sl intE W Ax x) := fun W h => hsx.below h
  have HXI : Hid (∀ i ∈ x, 0 ≤ i ∧ i < l.length) := fun i hi => by have := Price.rises_mem HFX.out.rises i hi; omega
  have HG : Hid (Calls Try.prog 72 #[.slice Al l.length cl, .slice Ax x.length cx] w3 fun e w' => e = .returned (.bool true) ∧ Below w3.heap.size w3 w') := by
    have := gives_spec Al l cl Ax x cx w3 (by omega) (HSL.out w3 hb23) HML.out.pos (by omega) hsx HXI.out
    rw [HFX.out.holds] at this
    exact this
  clear HSH hsx
  go_wp2_with fail
  refine HG.out.mono ?_
  rintro e w4 ⟨rfl, hb34⟩
  have hb24 := hb23.next hb34 (Nat.le_refl _)
  have hb04 := hb03.next hb34 (by have := hb02.size; omega)
  clear HG
  go_wp2_with fail
  go_loopw [8, 10, 40] (fun v _ i wr => ∃ k : Nat, k ≤ x.length ∧ i = iv k ∧ Own ruleE 27 w4.heap.size wr v (Price.chosen l (x.take k)) ∧ Below w4.heap.size w4 wr) (fun _ _ i _ => x.length - (intOf i).toNat)
  case atStart => exact ⟨0, by omega, rfl, Own.nil, Below.refl _ _⟩
  case round =>
    obtain ⟨k, hk, rfl, hown, hbw⟩ := hrel
    have hzr := hbw.size
    have hz4 := hb24.size
    by_cases hlt : k < x.length
    · obtain ⟨b, off, i, rfl, hb, hx, hc⟩ := (HSX.out wr (hb34.next hbw (Nat.le_refl _))).atI hlt
      have hib := HXI.out i (mem_at hx)
      obtain ⟨jj, rfl⟩ := Int.eq_ofNat_of_zero_le hib.1
      have hjl : jj < l.length := by omega
      obtain ⟨b2, off2, r, rfl, hb2, hr, hc0, hc1, hc2, hc3⟩ := (HSL.out wr (hb24.next hbw (Nat.le_refl _))).atR hjl
      have hta : Price.chosen l (x.take (k + 1)) = Price.chosen l (x.take k) ++ [r] := by
        rw [take_at hx]; unfold Price.chosen; rw [List.map_append]
        simp only [List.map_cons, List.map_nil, Int.toNat_natCast]
        rw [List.getD_eq_getElem?_getD, hr]; rfl
      have HTA := Lib.hid hta
      have hll : (Price.chosen l (x.take k)).length ≤ 1000 := by unfold Price.chosen; rw [List.length_map, List.length_take]; omega
      obtain ⟨ra, rb, rc, rd⟩ := r
      dsimp only at hc0 hc1 hc2 hc3
      have hji : (jj : Int) < (l.length : Int) := by omega
      clear hta hx hr
      go_wp2_with (at_builtin; refine wpApp1 ruleE tyRules rfl _ _ rfl hown ⟨ra, rb, rc, rd⟩ rfl rfl rfl hzr (by unfold big; omega) ?_; intro v' w5 hown5 hb5 hk5)
      clear hk5
      go_roundw
      case rel => exact ⟨k + 1, by omega, by go_num, by rw [HTA.out]; exact hown5, hbw.trans hb5⟩
      case measure => simp [intOf]; omega
    · rw [List.take_of_length_le (by omega)] at hown
      obtain ⟨S, hS⟩ : ∃ S, S = Price.chosen l x := ⟨_, rfl⟩
      rw [← hS] at hown
      have hSl : S.length = x.length := by rw [hS, Price.chosen_length]
      have HSLX := Lib.hid hSl
      have hS8 : S.length ≤ 8 := by omega
      obtain ⟨As, cs, rfl, hcs, _⟩ := hown.form
      have hss := hown.sl
      have hms : Price.MadeOk 8 S := by rw [hS]; exact HML.out.sub HFX.out.sub
      have HNEED : Hid (∀ i, i < S.length → (Price.differ S (S.eraseIdx i)).2 = 0) := fun i hi => by rw [hS]; exact HFX.out.needs (by omega)
      have HAG : Hid (∀ (K : List Rule) (y : List Int), K.Perm S → Price.First (Price.givesP K) K.length y → y.length = S.length) := fun K y hp hy => by
        rw [hSl]; exact HFX.out.again (by rw [← hS]; exact hp) hy
      have HNOT : Hid (∀ (i : Nat) (r : Rule), l[i]? = some r → x.contains (i : Int) = false → S.length ≠ 8 → Price.addOf S r = (S ++ [r], 0)) := fun i r hr hi h8 => by
        have hn : ¬ r ∈ S := by rw [hS]; exact Price.chosen_notin HML.out.nodup HFX.out.rises hr (by simpa using hi)
        have hmm := HML.out.more hms (by omega) (mem_at hr) hn
        unfold Price.addOf
        rw [if_pos (hms.check (by omega)), if_neg h8, if_pos (hmm.check (by omega))]
      have HC0 := Lib.hid (hms.check (by omega))
      have HMS := Lib.hid hms
      obtain ⟨y, hfy, hyl, HSY0⟩ := short_call As S cs wr (hms.check (by omega)) hcs hss
      have HYL := Lib.hid (HAG.out S y (List.Perm.refl _) hfy)
      obtain ⟨w5, rfl⟩ : ∃ w5 : World, w5 = wr := ⟨_, rfl⟩
      have HSS : Hid (∀ W, Below w5.heap.size w5 W → Sl ruleE W As S) := fun W h => hss.below h
      have HSY := Lib.hid HSY0
      have hb25 := hb24.next hbw (Nat.le_refl _)
      have hb35 := hb34.next hbw (Nat.le_refl _)
      have hb05 := hb04.next hbw (by have := hb02.size; omega)
      have hz05 := hb05.size
      clear hS hSl hown hss hms hfy hbw hb24 hb34 hb04 hb23 hb03 hb02 HSY0 hzr hz4
      go_wp2_with fail
      go_loopw [11, 12, 13, 54] (fun _ _ _ i wr => ∃ k : Nat, k ≤ S.length ∧ i = iv k ∧ Below w5.heap.size w5 wr) (fun _ _ _ i _ => S.length - (intOf i).toNat)
      case atStart => exact ⟨0, by omega, rfl, Below.refl _ _⟩
      case round =>
        obtain ⟨k, hk, rfl, hbw⟩ := hrel
        by_cases hlt : k < S.length
        · have hki : (k : Int) < (S.length : Int) := by omega
          have hwt : Price.witnessOf S (k : Int) = Price.differ S (S.eraseIdx k) := by
            unfold Price.witnessOf
            rw [if_pos HC0.out, if_pos (by omega), Int.toNat_natCast]
          have hne := HNEED.out k hlt
          obtain ⟨⟨⟨da, db, dc⟩, de⟩, hd⟩ : ∃ d, d = Price.differ S (S.eraseIdx k) := ⟨_, rfl⟩
          have HW : Hid (Calls Try.prog 64 #[.slice As S.length cs, iv k] wr fun e w' => e = .returned (.tuple #[.agg #[iv da, iv db, iv dc], iv 0]) ∧ Below wr.heap.size wr w') := by
            have := Witness_spec As S cs (k : Int) wr (by unfold big; omega) hcs (HSS.out wr hbw) (by omega)
            rw [hwt, ← hd] at this
            rw [← hd] at hne
            dsimp only at hne
            subst hne
            exact this
          clear hwt hne hd
          go_wp2_with fail
          refine HW.out.mono ?_
          rintro e w6 ⟨rfl, hb6⟩
          have hb56 := hbw.next hb6 (Nat.le_refl _)
          have HB56 := Lib.hid (hb56.next (((Below.refl _ _).alloc (Nat.le_refl _) (.cells #[iv da, iv db, iv dc] 42))) (Nat.le_refl _))
          clear HW
          go_wp2_with fail
          go_roundw
          case rel => exact ⟨k + 1, by omega, by go_num, HB56.out⟩
          case measure => simp [intOf]; omega
        · have hki : ¬ (k : Int) < (S.length : Int) := by omega
          obtain ⟨w6, rfl⟩ : ∃ w6 : World, w6 = wr := ⟨_, rfl⟩
          have HS1 := Lib.hid (HSY.out w6 hbw)
          have hylen : ((y.length : Int) != (S.length : Int)) = false := by have := HYL.out; simp [this]
          clear HSY
          go_wp2_with fail
          refine HS1.out.mono ?_
          rintro e w7 ⟨Ay, cy, rfl, _, _, _, hb67⟩
          have hb57 := hbw.next hb67 (Nat.le_refl _)
          have hb07 := hb05.trans (hb57.mono (by omega))
          have hz57 := hb57.size
          clear HS1 hbw hb67
          go_wp2_with (at_make; refine wpMakeN ruleE tyRules ⟨0, 0, 0, 0⟩ ⟨_, _, rfl, rfl, rfl⟩ rfl _ _ rfl S.length rfl rfl (by unfold big; omega) ?_; intro w10 hot hb10)
          have hfull := hot.full
          have hz10 := hb10.size
          have hgt := hfull.1.lt
          have hb510 := hb57.next hb10 (Nat.le_refl _)
          have hb010 := hb07.next hb10 (Nat.le_refl _)
          refine (wound2_spec A' bs' c' w w10 hs' hb010).mono ?_
          rintro e w11 ⟨g3, rfl, rfl, hz11, hb11, HQ⟩
          have hb011 := hb010.next hb11 (Nat.le_refl _)
          have hb511 := hb510.next hb11 (Nat.le_refl _)
          have hsp11 := HQ.out w11 (Nat.le_refl _) (fun b hb => hb011.block b hb) rfl
          have hBt11 := hfull.1.under hb11
          clear HQ hfull hot hb10 hb010 hb510
          go_wp2_with fail
          refine (order_spec _ w10.heap.size 0 S.length w11 hsp11 (by omega) (by omega)).mono ?_
          rintro e w12 ⟨vo, os, rfl, hoo, hosl, hosp, _, ho12⟩
          obtain ⟨Ao, co, hvo, _, _⟩ := hoo.form
          rw [hosl] at hvo
          subst hvo
          have hz12 := ho12.below.size
          have hso := hoo.sl
          have hBt12 := hBt11.only (by omega) ho12
          have hb512 : Below w5.heap.size w5 w12 := hb511.trans (ho12.below.mono (by omega))
          have hb012 : Below w.heap.size w w12 := hb011.trans (ho12.below.mono (by omega))
          have HOSL := Lib.hid hosl
          have HOSP := Lib.hid hosp
          have hfo : Far w7.heap.size Ao := fun b off s h => by
            subst h
            have := (hoo.lt b (by simp [Value.ownBlock])).1
            omega
          clear hosl hosp hoo hsp11 hBt11 hb511 hb011 ho12 hb11
          go_wp2_with fail
          go_loopw [16, 17, 89] (fun _ _ i wr => ∃ (j : Nat) (ts : List Rule), j ≤ S.length ∧ i = iv j ∧ Blk wr w7.heap.size 27 (ts.flatMap ruleE.cells).toArray ∧ Hid (ts.length = S.length) ∧ Hid (∀ (i : Nat) (x : Int) (r : Rule), i < j → os[i]? = some x → S[i]? = some r → ts[x.toNat]? = some r) ∧ Hid (Only w7.heap.size w12 wr)) (fun _ _ i _ => S.length - (intOf i).toNat)
          case atStart => exact ⟨0, List.replicate S.length ⟨0, 0, 0, 0⟩, by omega, rfl, hBt12, (by show _ = _; simp), (fun i x r hi => absurd hi (Nat.not_lt_zero _)), Only.refl _ _⟩
          case round =>
            obtain ⟨j, ts, hj, rfl, hB2, htl, hts, hon2⟩ := hrel
            have hz13 := hon2.out.below.size
            by_cases hjl : j < S.length
            · have hji : (j : Int) < (S.length : Int) := by omega
              obtain ⟨bo, oo, x2, rfl, hbo, hx, hcx⟩ := (hso.only hfo hon2.out).atI (k := j) (by rw [HOSL.out]; exact hjl)
              have hxb := order_mem HOSP.out (mem_at hx)
              obtain ⟨jj, rfl⟩ := Int.eq_ofNat_of_zero_le hxb.1
              have hjjl : jj < S.length := by omega
              have hjji : (jj : Int) < (S.length : Int) := by omega
              have hslr := HSS.out wr (hb512.trans (hon2.out.below.mono (by omega)))
              obtain ⟨bl, ol, r, rfl, hbl, hr, hr0, hr1, hr2, hr3⟩ := hslr.atR hjl
              obtain ⟨t, ht⟩ : ∃ t, ts[jj]? = some t := ⟨_, List.getElem?_eq_getElem (by rw [htl.out]; exact hjjl)⟩
              have cc : ∀ o u, (ruleE.cells t)[o]? = some u → wr.cell? ⟨w7.heap.size, jj * 4 + o, none⟩ = some u := fun o u h => by
                rw [hB2.cell]
                have := flat_get ruleE ts jj t ht o u h
                simpa [ruleE] using this
              have c0 := cc 0 (iv t.b) rfl
              have c1 := cc 1 (iv t.s) rfl
              have c2 := cc 2 (iv t.e) rfl
              have c3 := cc 3 (iv t.p) rfl
              have fz := hB2.frozen
              have hgl := hB2.lt
              have HBS := Lib.hid (blkR_set r hB2 (i := jj) (by rw [htl.out]; exact hjjl))
              have HTS : Hid (∀ (i : Nat) (x : Int) (q : Rule), i < j + 1 → os[i]? = some x → S[i]? = some q → (ts.set jj r)[x.toNat]? = some q) := fun i x3 q hi hox hlq => by
                by_cases e : i = j
                · subst e
                  rw [hx] at hox
                  injection hox with hox
                  subst hox
                  rw [hr] at hlq
                  injection hlq with hlq
                  subst hlq
                  rw [Int.toNat_natCast, List.getElem?_set_self (by rw [htl.out]; exact hjjl)]
                · have h1 := hts.out i x3 q (by omega) hox hlq
                  have hne : jj ≠ x3.toNat := fun e2 => by
                    have hxb2 := order_mem HOSP.out (mem_at hox)
                    have hxe : x3 = (jj : Int) := by omega
                    rw [hxe] at hox
                    have hnd : os.Nodup := HOSP.out.nodup_iff.2 (upTo_nodup _)
                    obtain ⟨hi1, hi2⟩ := List.getElem?_eq_some_iff.1 hox
                    obtain ⟨hj1, hj2⟩ := List.getElem?_eq_some_iff.1 hx
                    exact e ((List.getElem_inj hnd).1 (hi2.trans hj2.symm))
                  rw [List.getElem?_set_ne hne]
                  exact h1
              have HON : Hid (Only w7.heap.size w12 ((((wr.setCell ⟨w7.heap.size, jj * 4, none⟩ (iv r.b)).setCell ⟨w7.heap.size, jj * 4 + 1, none⟩ (iv r.s)).setCell ⟨w7.heap.size, jj * 4 + 2, none⟩ (iv r.e)).setCell ⟨w7.heap.size, jj * 4 + 3, none⟩ (iv r.p))) := (((hon2.out.trans (Only.set_ _ _ _ _)).trans (Only.set_ _ _ _ _)).trans (Only.set_ _ _ _ _)).trans (Only.set_ _ _ _ _)
              rw [Nat.add_zero] at c0
              obtain ⟨ra, rb, rc, rd⟩ := r
              dsimp only at hr0 hr1 hr2 hr3
              clear hx hr ht cc hB2 hslr hts
              go_wp2_with fail
              go_roundw
              case rel => exact ⟨j + 1, ts.set jj ⟨ra, rb, rc, rd⟩, by omega, by go_num, HBS.out, (by show _ = _; rw [List.length_set]; exact htl.out), HTS, HON.out⟩
              case measure => simp [intOf]; omega
            · obtain rfl : j = S.length := by omega
              have hperm : S.Perm ts := turned_perm HOSP.out htl.out HOSL.out fun i x r h1 h2 => hts.out i x r (by have := (List.getElem?_eq_some_iff.1 h2).1; omega) h1 h2
              have hmt := HMS.out.perm hperm
              have hst : Sl ruleE wr (some ⟨w7.heap.size, 0, none⟩) ts := (Own.ofBlk hB2 (Nat.le_refl _) (by rw [htl.out]; unfold maxLen; omega)).sl
              obtain ⟨w13, rfl⟩ : ∃ w13 : World, w13 = wr := ⟨_, rfl⟩
              have hb513 : Below w5.heap.size w5 w13 := hb512.trans (hon2.out.below.mono (by omega))
              have hb013 : Below w.heap.size w w13 := hb012.trans (hon2.out.below.mono (by omega))
              obtain ⟨z, hfz, hzl, HSZ0⟩ := short_call (some ⟨w7.heap.size, 0, none⟩) ts S.length w13 (hmt.check (by omega)) (by rw [htl.out]; exact Nat.le_refl _) hst
              have HSZ : Hid (Calls Try.prog 71 #[.slice (some ⟨w7.heap.size, 0, none⟩) S.length S.length] w13 (ShortOk z w13)) := by
                have := HSZ0 w13 (Below.refl _ _)
                rw [htl.out] at this
                exact this
              have hzlen : ((z.length : Int) != (S.length : Int)) = false := by have := HAG.out ts z hperm.symm hfz; simp [this]
              have hz513 := hb513.size
              have hz013 := hb013.size
              clear hperm hmt hst hB2 hts hon2 hso hfz HSZ0 hb512 hb012 hb57 hb07 hzl
              go_wp2_with fail
              refine HSZ.out.mono ?_
              rintro e w14 ⟨Az, cz, rfl, _, _, _, hb14⟩
              have hb514 := hb513.next hb14 (Nat.le_refl _)
              have hb014 := hb013.next hb14 (Nat.le_refl _)
              clear HSZ hb513 hb013 hb14
              go_wp2_with fail
              go_loopw [18, 19, 20, 21, 118] (fun _ _ _ _ i wr => ∃ k : Nat, k ≤ l.length ∧ i = iv k ∧ Below w14.heap.size w14 wr) (fun _ _ _ _ i _ => l.length - (intOf i).toNat)
              case atStart => exact ⟨0, by omega, rfl, Below.refl _ _⟩
              case round =>
                obtain ⟨k, hk, rfl, hbw⟩ := hrel
                have hb5r := hb514.next hbw (Nat.le_refl _)
                have hb0r := hb014.next hbw (Nat.le_refl _)
                by_cases hkl : k < l.length
                · have hki : (k : Int) < (l.length : Int) := by omega
                  obtain ⟨bl, ol, r, rfl, hbl, hr, hr0, hr1, hr2, hr3⟩ := (HSL.out wr (hb25.next hb5r (Nat.le_refl _))).atR hkl
                  have HNR := Lib.hid (HNOT.out k r hr)
                  obtain ⟨ra, rb, rc, rd⟩ := r
                  dsimp only at hr0 hr1 hr2 hr3
                  have hwa : Below wr.heap.size wr (wr.alloc (.cells #[iv ra, iv rb, iv rc, iv rd] 27)) := (Below.refl _ _).alloc (Nat.le_refl _) _
                  have hBa : Blk (wr.alloc (.cells #[iv ra, iv rb, iv rc, iv rd] 27)) wr.heap.size 27 #[iv ra, iv rb, iv rc, iv rd] := Blk.new _ _ _
                  have hxr := HSX.out wr (hb35.next hb5r (Nat.le_refl _))
                  clear hr
                  go_wp2_with fail
                  generalize wr.alloc (.cells #[iv ra, iv rb, iv rc, iv rd] 27) = wa at *
                  have HCT := Lib.hid (contains2I Ax x cx (k : Int) wa (by unfold big; omega) (hxr.below hwa))
                  have HWA := Lib.hid (hbw.next hwa (Nat.le_refl _))
                  refine HCT.out.mono ?_
                  rintro e wb ⟨rfl, rfl⟩
                  clear HCT
                  by_cases hct : x.contains (k : Int) = true
                  · rw [hct]
                    clear hct
                    go_wp2_with fail
                    go_roundw
                    case rel => exact ⟨k + 1, by omega, by go_num, HWA.out⟩
                    case measure => simp [intOf]; omega
                  · have hcf : x.contains (k : Int) = false := by simpa using hct
                    rw [hcf]
                    by_cases h8 : S.length = 8
                    · have h8' : ((S.length : Int) == 8) = true := by rw [h8]; rfl
                      clear hct h8 hcf
                      go_wp2_with fail
                      go_roundw
                      case rel => exact ⟨k + 1, by omega, by go_num, HWA.out⟩
                      case measure => simp [intOf]; omega
                    · have h8' : ((S.length : Int) == 8) = false := beq_eq_false_iff_ne.2 (by omega)
                      have HAD : Hid (Calls Try.prog 57 #[.slice As S.length cs, .agg #[iv ra, iv rb, iv rc, iv rd]] wa fun e w' => ∃ v, e = .returned (.tuple #[v, iv 0]) ∧ Own ruleE 27 wa.heap.size w' v (S ++ [⟨ra, rb, rc, rd⟩]) ∧ Below wa.heap.size wa w') := by
                        have := Add_spec As S cs ⟨ra, rb, rc, rd⟩ wa (by omega) hcs (HSS.out wa (hb5r.next hwa (Nat.le_refl _)))
                        rw [HNR.out hcf h8] at this
                        exact this
                      have q0 := hBa.cell
                      have q1 := hBa.lt
                      clear hct h8 hcf HNR
                      go_wp2_with fail
                      refine HAD.out.mono ?_
                      rintro e wc ⟨va, rfl, hoa, hbc⟩
                      obtain ⟨Aa, ca, hva, _, _⟩ := hoa.form
                      rw [List.length_append, List.length_singleton] at hva
                      subst hva
                      obtain ⟨b9, o9, r9, rfl, hb9, hr9, c0, c1, c2, c3⟩ := hoa.sl.atR (k := S.length) (by simp)
                      rw [List.getElem?_append_right (Nat.le_refl _), Nat.sub_self] at hr9
                      injection hr9 with hr9
                      subst hr9
                      dsimp only at c0 c1 c2 c3
                      have hBc := hBa.under hbc
                      have p0 := hBc.cell
                      have p1 := hBc.lt
                      have HWC := Lib.hid (HWA.out.next hbc (Nat.le_refl _))
                      have heq : ∀ w, (Op.equalIn 10000 27 (.agg #[iv ra, iv rb, iv rc, iv rd]) (.agg #[iv ra, iv rb, iv rc, iv rd])).run Try.prog w = .ok true w := fun w => by have := eqRule ra rb rc rd ra rb rc rd w; simpa using this
                      have hw1 : IntKind.i64.wrap ((S.length : Int) + 1) = (S.length : Int) + 1 := IntWalk.i64_in _ (by omega)
                      have hn1 : (((S.length + 1 : Nat) : Int) != (S.length : Int) + 1) = false := by simp
                      have hlt1 : (S.length : Int) < ((S.length + 1 : Nat) : Int) := by omega
                      clear q0 q1 HAD hBa hbc hoa
                      go_wp2_with fail
                      go_region
                      all_goals go_wp2_with fail
                      all_goals go_roundw
                      case rel => exact ⟨k + 1, by omega, by go_num, by first | exact HWC.out | exact HWC.out.drew⟩
                      case measure => simp [intOf]; omega
                · have hki : ¬ (k : Int) < (l.length : Int) := by omega
                  have HA := Lib.hid (awake_spec wr)
                  go_wp2_with (go_at_call 20; refine HA.out.mono ?_; rintro e wz ⟨rfl, hwz⟩)
                  go_ret
                  exact ⟨rfl, hb0r.next hwz (Nat.le_refl _)⟩
end Go.Proofs.Ytblmlpkjocbhpaa
