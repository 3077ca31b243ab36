/- PriceCounts returns true: the walk. Condition: the argument reads as bytes. -/
import Derived.Test.YtblmlpkjocbhpaaCountsP
import Derived.Test.YtblmlpkjocbhpaaSortI
import Derived.Test.YtblmlpkjocbhpaaAllW
import Derived.Test.YtblmlpkjocbhpaaMadeW
import Derived.Test.YtblmlpkjocbhpaaOpen
set_option linter.unusedVariables false
set_option linter.unusedSimpArgs false
namespace Go.Proofs.Ytblmlpkjocbhpaa
open Go.RowKit Go.Shelf
set_option maxRecDepth 100000
theorem rising_of {xs : List Int} (h : ∀ (k : Nat) (x y : Int), xs[k]? = some x → xs[k + 1]? = some y → x < y) : Rising xs := fun k x y h1 h2 => by have := h k x y h1 h2; omega
set_option maxHeartbeats 4000000 in
theorem counts_walk (A : Option Addr) (bs : List Int) (c : Nat) (w : World) (hs : Sl byteE w A bs) :
    Calls Try.prog 12 #[.slice A bs.length c] w fun e w' => e = .returned (.bool true) ∧ Below w.heap.size w w' := by
  go_enter Try.func12, Try.ntmps12
  go_wp2_with fail
  refine (wound_spec A bs c w hs).mono ?_
  rintro e w1 ⟨g, rfl, rfl, hsp1, hb1⟩
  have hz1 := hsp1.2.1
  go_wp2_with fail
  refine (made_spec _ w.heap.size 0 8 w1 hsp1 (by omega) (by omega)).mono ?_
  rintro e w2 ⟨vl, l, k3, rfl, hol, hmk, hk3, hsp2, ho2⟩
  have hck := hmk.check (by omega)
  have HMK := Lib.hid hmk
  have hl8 := hmk.len
  obtain ⟨Al, cl, rfl, hcl, _⟩ := hol.form
  have hsl := hol.sl
  have hz2 := ho2.below.size
  have hb02 : Below w.heap.size w w2 := hb1.trans ho2.below
  have HCK := Lib.hid hck
  have hfl : Far w2.heap.size Al := fun b off s h => by
    subst h
    have := (hol.lt b (by simp [Value.ownBlock])).2
    omega
  clear hmk hck hsp1 hsp2 ho2 hb1 hol hk3
  go_wp2_with (at_make; refine wpMakeN intE tyInts 0 ⟨_, _, rfl, rfl, rfl⟩ rfl _ _ rfl l.length rfl rfl (by unfold big; omega) ?_; intro w3 hob hb3)
  have hz3 := hb3.size
  have hgb : w2.heap.size < w3.heap.size := by
    have := hob.full
    exact this.1.lt
  refine (all_spec w3).mono ?_
  rintro e w4 ⟨va, rfl, hoa, hb4⟩
  obtain ⟨Aa, ca, rfl, _, _⟩ := hoa.form
  rw [Price.allPieces_length]
  have hsa := hoa.sl
  have hz4 := hb4.size
  have hfa : Far w2.heap.size Aa := fun b off s h => by
    subst h
    have := (hoa.lt b (by simp [Value.ownBlock])).1
    omega
  have hsl4 := (hsl.below hb3).below hb4
  have hob4 := hob.below hb4
  have hb04 : Below w.heap.size w w4 := (hb02.next hb3 (by omega)).next hb4 (by omega)
  have HSA := Lib.hid hsa
  have HTP : Hid (∀ k, k < 60 → Price.allPieces[k]? = some (Price.pieceAt k) ∧ Price.allPieces.take (k + 1) = Price.allPieces.take k ++ [Price.pieceAt k] ∧ Price.isP (Price.pieceAt k) = true) := fun k hk => by
    have h1 : Price.allPieces[k]? = some (Price.pieceAt k) := by
      unfold Price.allPieces
      rw [List.getElem?_map, List.getElem?_range hk]; rfl
    exact ⟨h1, Price.allPieces_take hk, Price.allPieces_isP _ (List.mem_of_getElem? h1)⟩
  clear hsl hob hb3 hb4 hoa hsa
  go_wp2_with fail
  go_loopw [6, 7, 8, 9, 11, 12, 13, 14, 15, 16, 29] (fun _ _ _ _ _ _ _ _ _ _ i wr => ∃ (k : Nat) (bsy : List Int), k ≤ 60 ∧ i = iv k ∧ Own intE 3 w2.heap.size wr (.slice (some ⟨w2.heap.size, 0, none⟩) l.length l.length) bsy ∧ Hid (bsy.length = l.length) ∧ Hid (∀ j, j < l.length → bsy.getD j 0 = Price.times l j (Price.allPieces.take k)) ∧ Hid (Only w2.heap.size w4 wr)) (fun _ _ _ _ _ _ _ _ _ _ i _ => 60 - (intOf i).toNat)
  case atStart => exact ⟨0, List.replicate l.length 0, by omega, rfl, hob4, (by show _ = _; simp), (fun j hj => by simp [List.getD_eq_getElem?_getD, Price.times, Price.cn, hj]), Only.refl _ _⟩
  case round =>
    obtain ⟨k, bsy, hk, rfl, hob, hbl, hbt, hon⟩ := hrel
    have hzr := hon.out.below.size
    by_cases hlt : k < 60
    · have hk60 : (k : Int) < 60 := by omega
      have hTP := HTP.out k hlt
      have hsar := HSA.out.only hfa hon.out
      have hslr := hsl4.only hfl hon.out
      obtain ⟨ba, oa, q, rfl, hba, hq, hc0, hc1, hc2⟩ := hsar.atP (k := k) (by rw [Price.allPieces_length]; exact hlt)
      rw [hTP.1] at hq
      injection hq with hq
      have hip := hTP.2.2
      have HTK := Lib.hid hTP.2.1
      rw [hq] at hip HTK
      obtain ⟨x, y, z⟩ := q
      dsimp only at hc0 hc1 hc2
      obtain ⟨p, hp⟩ : ∃ p : Piece, p = ⟨x, y, z⟩ := ⟨_, rfl⟩
      rw [← hp] at hip HTK
      have HP := Lib.hid hp
      have HIP := Lib.hid hip
      clear hq hTP hsar hp hip
      go_wp2_with fail
      have hb5 : Below wr.heap.size wr (wr.alloc (.cells #[iv x, iv y, iv z] 42)) := (Below.refl _ _).alloc (Nat.le_refl _) _
      have hB5 : Blk (wr.alloc (.cells #[iv x, iv y, iv z] 42)) wr.heap.size 42 #[iv x, iv y, iv z] := Blk.new _ _ _
      have hz5 : (wr.alloc (.cells #[iv x, iv y, iv z] 42)).heap.size = wr.heap.size + 1 := by simp
      generalize wr.alloc (.cells #[iv x, iv y, iv z] 42) = w5 at *
      have HCT := Counts_spec Al l cl p w5 (by unfold big; omega) hcl (hslr.below hb5)
      rw [show Price.countsOf l p = (Price.counts l p, 0) by unfold Price.countsOf; rw [if_pos HCK.out, if_pos HIP.out], HP.out] at HCT
      rw [← HP.out] at HCT
      have HC1 := Lib.hid HCT
      have HE1 : Hid (Calls Try.prog 56 #[.slice Al l.length cl, .agg #[iv x, iv y, iv z]] w5 fun e w' => ∃ v, e = .returned (.tuple #[v, iv 0]) ∧ Own intE 3 w5.heap.size w' v (Price.counts l p) ∧ Below w5.heap.size w5 w') := by
        have h := HC1.out
        rw [HP.out] at h ⊢
        exact h
      clear HCT HC1
      refine HE1.out.mono ?_
      rintro e w6 ⟨vc, rfl, hoc, hb6⟩
      obtain ⟨Ac, cc, hvc, _, _⟩ := hoc.form
      subst hvc
      have hcs8 := Price.counts_length l p
      have hcsR : Rising (Price.counts l p) := rising_of fun k x y => Price.countsFrom_rises _ p l 0 k x y
      have HHIT : Hid (∀ (j : Nat) (r : Rule), l[j]? = some r → (Price.counts l p).contains (j : Int) = Price.hit l p r ∧ Price.hit l p r = (decide (0 ≤ Price.mostN l p) && decide (Price.lawNames p r = Price.mostN l p))) := fun j r hr => ⟨Price.counts_contains p hr, Price.hit_most (List.mem_of_getElem? hr)⟩
      have HCN := Lib.hid (Price.counts_count l p)
      obtain ⟨ct, hct⟩ : ∃ ct, ct = Price.counts l p := ⟨_, rfl⟩
      rw [← hct] at hcs8 hcsR HHIT HCN hoc
      have HCT := Lib.hid hct
      have hct8 : ct.length ≤ 8 := by omega
      rw [← hct]
      have HSO := Lib.hid (sortedI Ac ct cc w6 (by unfold big; omega) hoc.sl hcsR)
      have hb56 : Below wr.heap.size wr w6 := hb5.next hb6 (by omega)
      have hB6 := hB5.under hb6
      clear hcs8 hcsR hct HE1
      go_wp2_with fail
      refine HSO.out.mono ?_
      rintro e w7 ⟨rfl, hb7⟩
      have hz7 := (hb56.next hb7 (Nat.le_refl _)).size
      have hb57 := hb56.next hb7 (Nat.le_refl _)
      have hB7 := hB6.under hb7
      have hoc7 := hoc.below hb7
      have hsl7 := hslr.below hb57
      have hob7 := hob.below hb57
      have hon7 : Hid (Only w2.heap.size w4 w7) := hon.out.next hb57 (by omega) (by omega)
      have hl8i : (l.length : Int) ≤ 8 := by omega
      clear HSO hb5 hB5 hb6 hb7 hoc hB6 hslr hob hon hb56 hb57
      go_wp2_with fail
      go_loopw [9, 11, 48] (fun v _ i wx => ∃ (j : Nat) (m : Int), j ≤ l.length ∧ i = iv j ∧ v = iv m ∧ Hid (m = Price.mostN (l.take j) p) ∧ -1 ≤ m ∧ m ≤ 3 ∧ Below w7.heap.size w7 wx) (fun _ _ i _ => l.length - (intOf i).toNat)
      case atStart => exact ⟨0, -1, by omega, rfl, rfl, rfl, by omega, by omega, Below.refl _ _⟩
      case round =>
        obtain ⟨j, m, hj, rfl, rfl, hm, hm0, hm1, hbx⟩ := hrel
        by_cases hjl : j < l.length
        · have hji : (j : Int) < (l.length : Int) := by omega
          obtain ⟨br, orr, r, rfl, hbr, hr, hr0, hr1, hr2, hr3⟩ := (hsl7.below hbx).atR hjl
          have HT : Hid (Price.mostN (l.take (j + 1)) p = max m (Price.lawNames p r)) := by
            show _ = _
            rw [take_at hr, Price.mostN_snoc, ← hm.out]
          have hnb : -1 ≤ Price.lawNames p r ∧ Price.lawNames p r ≤ 3 := by
            unfold Price.lawNames Price.many Price.one
            split
            · split <;> split <;> split <;> omega
            · omega
          have hBx := hB7.under hbx
          have p0 := hBx.cell
          have p1 := hBx.lt
          obtain ⟨ra, rb, rc, rd⟩ := r
          dsimp only at hr0 hr1 hr2 hr3
          have HN : Hid (∀ W, Calls Try.prog 73 #[.agg #[iv ra, iv rb, iv rc, iv rd], .agg #[iv x, iv y, iv z]] W fun e w' => e = .returned (iv (Price.lawNames p ⟨ra, rb, rc, rd⟩)) ∧ Below W.heap.size W w') := fun W => by
            have := lnames_spec ⟨ra, rb, rc, rd⟩ p W
            rw [HP.out] at this ⊢
            exact this
          obtain ⟨nm, hnm⟩ : ∃ nm, nm = Price.lawNames p ⟨ra, rb, rc, rd⟩ := ⟨_, rfl⟩
          rw [← hnm] at HN HT hnb
          clear hnm hr hBx
          go_wp2_with (go_at_call 73; refine (HN.out _).mono ?_; rintro e wy ⟨rfl, hby⟩)
          go_roundw
          case rel => exact ⟨j + 1, max m nm, by omega, by go_num, rfl, HT.out.symm, by omega, by omega, hbx.next hby.of_alloc (Nat.le_refl _)⟩
          case measure => simp [intOf]; omega
        · have hm' := hm.out
          rw [List.take_of_length_le (by omega)] at hm'
          have HMO := Lib.hid hm'
          have hz8 := hbx.size
          obtain ⟨w8, rfl⟩ : ∃ w8 : World, w8 = wr := ⟨_, rfl⟩
          have hB8 := hB7.under hbx
          have hoc8 := hoc7.below hbx
          have hob8 := hob7.below hbx
          have hon8 : Hid (Only w2.heap.size w4 w8) := hon7.out.next hbx (by omega) (by omega)
          have hgne : ¬ w2.heap.size = w7.heap.size := by omega
          have HLB : Hid (∀ i : Nat, 0 ≤ bsy.getD i 0 → 0 ≤ bsy.getD i 0) := fun _ h => h
          have HBD : Hid (∀ i, i < l.length → 0 ≤ bsy.getD i 0 ∧ bsy.getD i 0 ≤ 60) := fun i hi => by
            rw [hbt.out i hi]
            have h1 := Price.cn_nonneg (fun p => (Price.counts l p).contains (i : Int)) (Price.allPieces.take k)
            have h2 := Price.cn_len (fun p => (Price.counts l p).contains (i : Int)) (Price.allPieces.take k)
            rw [List.length_take] at h2
            unfold Price.times
            omega
          clear hm hm' hoc7 hob7 hon7 hB7 hsl7 hbx HLB
          go_wp2_with fail
          go_loopw [12, 13, 14, 15, 16, 60] (fun v _ _ _ _ i wx => ∃ (j : Nat) (mt : Int) (bsy2 : List Int), j ≤ l.length ∧ i = iv j ∧ v = iv mt ∧ 0 ≤ mt ∧ mt ≤ 8 ∧ Hid (mt = Price.cn (Price.hit l p) (l.take j)) ∧ Own intE 3 w2.heap.size wx (.slice (some ⟨w2.heap.size, 0, none⟩) l.length l.length) bsy2 ∧ Hid (bsy2.length = l.length) ∧ Hid (∀ i, i < l.length → bsy2.getD i 0 = bsy.getD i 0 + (if i < j ∧ ct.contains (i : Int) = true then 1 else 0)) ∧ Hid (Only w2.heap.size w8 wx)) (fun _ _ _ _ _ i _ => l.length - (intOf i).toNat)
          case atStart => exact ⟨0, 0, bsy, by omega, rfl, rfl, by omega, by omega, rfl, hob8, hbl, (fun i hi => by rw [if_neg (by omega), Int.add_zero]), Only.refl _ _⟩
          case round =>
            obtain ⟨j, mt, bsy2, hj, rfl, rfl, hmt0, hmt8, hmt, hob2, hbl2, hbt2, hon2⟩ := hrel
            have hz9 := hon2.out.below.size
            by_cases hjl : j < l.length
            · have hji : (j : Int) < (l.length : Int) := by omega
              have honx : Hid (Only w2.heap.size w4 wr) := hon8.out.trans hon2.out
              have hslx := hsl4.only hfl honx.out
              obtain ⟨br, orr, r, rfl, hbr, hr, hr0, hr1, hr2, hr3⟩ := hslx.atR hjl
              have HHR := Lib.hid (HHIT.out j r hr)
              have HTK2 : Hid (Price.cn (Price.hit l p) (l.take (j + 1)) = Price.cn (Price.hit l p) (l.take j) + (if Price.hit l p r then 1 else 0)) := by
                show _ = _
                rw [take_at hr, Price.cn_snoc]
              have HHS : Hid (∀ W, Below wr.heap.size wr W → Calls Try.prog 55 #[.slice (some ⟨br, orr, none⟩) l.length cl, iv j, .agg #[iv x, iv y, iv z]] W fun e w' => e = .returned (.tuple #[.bool (Price.holds r p), iv 0]) ∧ Below W.heap.size W w') := fun W h => by
                have := Holds_spec (some ⟨br, orr, none⟩) l cl (j : Int) p W (by unfold big; omega) hcl (hslx.below h)
                rw [show Price.holdsOf l (j : Int) p = (Price.holds r p, 0) by
                  unfold Price.holdsOf
                  rw [if_pos HCK.out, if_pos (by simp only [Price.inB, Bool.and_eq_true, decide_eq_true_eq]; omega), if_pos HIP.out, Int.toNat_natCast, List.getD_eq_getElem?_getD, hr]; rfl, HP.out] at this
                rw [HP.out]
                exact this
              have HN0 := Lib.hid (Price.lawNames_nonneg (p := p) (r := r))
              have HN1 : Hid (Price.holds r p = false → Price.lawNames p r = -1) := fun h => by unfold Price.lawNames; rw [h]; rfl
              obtain ⟨ra, rb, rc, rd⟩ := r
              dsimp only at hr0 hr1 hr2 hr3
              have HN : Hid (∀ W, Calls Try.prog 73 #[.agg #[iv ra, iv rb, iv rc, iv rd], .agg #[iv x, iv y, iv z]] W fun e w' => e = .returned (iv (Price.lawNames p ⟨ra, rb, rc, rd⟩)) ∧ Below W.heap.size W w') := fun W => by
                have := lnames_spec ⟨ra, rb, rc, rd⟩ p W
                rw [HP.out] at this ⊢
                exact this
              obtain ⟨nm, hnm⟩ : ∃ nm, nm = Price.lawNames p ⟨ra, rb, rc, rd⟩ := ⟨_, rfl⟩
              rw [← hnm] at HN HHR HN0 HN1
              obtain ⟨hd, hhd⟩ : ∃ hd, hd = Price.holds ⟨ra, rb, rc, rd⟩ p := ⟨_, rfl⟩
              rw [← hhd] at HHS HN0 HN1
              obtain ⟨ht, hht⟩ : ∃ ht, ht = Price.hit l p ⟨ra, rb, rc, rd⟩ := ⟨_, rfl⟩
              rw [← hht, ← HMO.out] at HHR
              rw [← hht] at HTK2
              have hBx := hB8.only (by omega) hon2.out
              have p0 := hBx.cell
              have p1 := hBx.lt
              have hocx := hoc8.only (g := w2.heap.size) (by omega) hon2.out
              clear hnm hhd hht hr hslx
              have hwa : Below wr.heap.size wr (wr.alloc (.cells #[iv ra, iv rb, iv rc, iv rd] 27)) := (Below.refl _ _).alloc (Nat.le_refl _) _
              have hBa : Blk (wr.alloc (.cells #[iv ra, iv rb, iv rc, iv rd] 27)) wr.heap.size 27 #[iv ra, iv rb, iv rc, iv rd] := Blk.new _ _ _
              have hBpa := hBx.under hwa
              go_wp2_with fail
              generalize wr.alloc (.cells #[iv ra, iv rb, iv rc, iv rd] 27) = wa at *
              have HH1 := Lib.hid (HHS.out wa hwa)
              clear p0 p1 HHS
              refine HH1.out.mono ?_
              rintro e wb ⟨rfl, hwb⟩
              have hBb := hBa.under hwb
              have hBpb := hBpa.under hwb
              have hwb' := hwa.next hwb (Nat.le_refl _)
              have q0 := hBb.cell
              have q1 := hBb.lt
              have q2 := hBpb.cell
              have q3 := hBpb.lt
              clear hwa hBa hBpa hwb HH1
              cases hd with
              | false =>
                obtain rfl : nm = -1 := HN1.out rfl
                have htf : ht = false := by
                  rw [HHR.out.2, Bool.and_eq_false_iff]
                  by_cases h : 0 ≤ m
                  · right; rw [decide_eq_false_iff_not]; omega
                  · left; rw [decide_eq_false_iff_not]; exact h
                subst htf
                go_wp2_with fail
                refine (HN.out wb).mono ?_
                rintro e wd ⟨rfl, hwd⟩
                have hBd := hBb.under hwd
                have hBpd := hBpb.under hwd
                have hwd' := hwb'.next hwd (Nat.le_refl _)
                have s0 := hBd.cell
                have s1 := hBd.lt
                have s2 := hBpd.cell
                have s3 := hBpd.lt
                clear q0 q1 q2 q3
                by_cases hmo : 0 ≤ m
                · have hne : ((-1 : Int) == m) = false := by simp; omega
                  go_wp2_with fail
                  refine (HN.out wd).mono ?_
                  rintro e wf ⟨rfl, hwf⟩
                  have hwf' := hwd'.next hwf (Nat.le_refl _)
                  clear s0 s1 s2 s3
                  go_wp2_with fail
                  go_roundw
                  case rel => exact ⟨j + 1, mt, bsy2, by omega, by go_num, rfl, hmt0, hmt8, (by (have h1 := hmt.out; have h2 := HTK2.out; simp only [Bool.false_eq_true, if_false, Int.add_zero] at h2; show _ = _; rw [h2]; exact h1)), hob2.below hwf', hbl2, (fun i hi => by
                    rw [hbt2.out i hi]
                    congr 1
                    by_cases hij : i = j
                    · subst hij
                      have hcf := HHR.out.1
                      rw [if_neg (by omega), if_neg (by rw [hcf]; simp)]
                    · by_cases hlt3 : i < j
                      · by_cases hc : ct.contains (i : Int) = true
                        · rw [if_pos ⟨hlt3, hc⟩, if_pos ⟨by omega, hc⟩]
                        · rw [if_neg (fun h => hc h.2), if_neg (fun h => hc h.2)]
                      · rw [if_neg (fun h => hlt3 h.1), if_neg (fun h => by have := h.1; omega)]), hon2.out.next hwf' (by omega) (by omega)⟩
                  case measure => simp [intOf]; omega
                · go_wp2_with fail
                  go_roundw
                  case rel => exact ⟨j + 1, mt, bsy2, by omega, by go_num, rfl, hmt0, hmt8, (by (have h1 := hmt.out; have h2 := HTK2.out; simp only [Bool.false_eq_true, if_false, Int.add_zero] at h2; show _ = _; rw [h2]; exact h1)), hob2.below hwd', hbl2, (fun i hi => by
                    rw [hbt2.out i hi]
                    congr 1
                    by_cases hij : i = j
                    · subst hij
                      have hcf := HHR.out.1
                      rw [if_neg (by omega), if_neg (by rw [hcf]; simp)]
                    · by_cases hlt3 : i < j
                      · by_cases hc : ct.contains (i : Int) = true
                        · rw [if_pos ⟨hlt3, hc⟩, if_pos ⟨by omega, hc⟩]
                        · rw [if_neg (fun h => hc h.2), if_neg (fun h => hc h.2)]
                      · rw [if_neg (fun h => hlt3 h.1), if_neg (fun h => by have := h.1; omega)]), hon2.out.next hwd' (by omega) (by omega)⟩
                  case measure => simp [intOf]; omega
              | true =>
                have hn0 : 0 ≤ nm := HN0.out.2 rfl
                have hn0d : decide ((0 : Int) ≤ nm) = true := decide_eq_true hn0
                go_wp2_with fail
                refine (HN.out wb).mono ?_
                rintro e wd ⟨rfl, hwd⟩
                have hBd := hBb.under hwd
                have hBpd := hBpb.under hwd
                have hwd' := hwb'.next hwd (Nat.le_refl _)
                have s0 := hBd.cell
                have s1 := hBd.lt
                have s2 := hBpd.cell
                have s3 := hBpd.lt
                clear q0 q1 q2 q3
                by_cases hmo : 0 ≤ m
                · by_cases hnm : nm = m
                  · have htf : ht = true := by rw [HHR.out.2, decide_eq_true hmo, decide_eq_true hnm]; rfl
                    subst htf
                    have hne : (nm == m) = true := by simpa using hnm
                    clear hnm
                    have hbj := hbt2.out j hjl
                    rw [if_neg (by omega), Int.add_zero] at hbj
                    have hbd := HBD.out j hjl
                    rw [← hbj] at hbd
                    go_wp2_with fail
                    refine (HN.out wd).mono ?_
                    rintro e wf ⟨rfl, hwf⟩
                    have hwf' := hwd'.next hwf (Nat.le_refl _)
                    obtain ⟨vj, hvj⟩ : ∃ vj, vj = bsy2.getD j 0 := ⟨_, rfl⟩
                    obtain ⟨fz, _, hgl, hce, hst⟩ := (hob2.below hwf').store j (by rw [hbl2.out]; exact hjl) (vj + 1)
                    rw [← hvj] at hce hbd
                    have hws : IntKind.i64.wrap (vj + 1) = vj + 1 := IntWalk.i64_in _ (by omega)
                    have HVJ := Lib.hid hvj
                    have HBJ := Lib.hid hbj
                    have HST := Lib.hid hst
                    have hocf := (hocx.below hwf').setCell (p := ⟨w2.heap.size, j, none⟩) (by simp; omega) (iv (vj + 1))
                    have HCO := Lib.hid (contains2I Ac ct cc (j : Int) (wf.setCell ⟨w2.heap.size, j, none⟩ (iv (vj + 1))) (by unfold big; omega) hocf.sl)
                    rw [HHR.out.1] at HCO
                    have HON3 : Hid (Only w2.heap.size w8 (wf.setCell ⟨w2.heap.size, j, none⟩ (iv (vj + 1)))) := (hon2.out.next hwf' (by omega) (by omega)).trans (Only.set_ w2.heap.size j wf (iv (vj + 1)))
                    clear s0 s1 s2 s3 hvj hbj hst hocf
                    go_wp2_with (go_at_call 66; refine HCO.out.mono ?_; rintro e wh ⟨rfl, rfl⟩)
                    go_roundw
                    case rel => exact ⟨j + 1, mt + 1, bsy2.set j (vj + 1), by omega, by go_num, rfl, by omega, (by
                      have h1 := hmt.out
                      have h2 := Price.cn_len (Price.hit l p) (l.take j)
                      rw [← h1, List.length_take] at h2
                      omega), (by (have h1 := hmt.out; have h2 := HTK2.out; simp only [if_true] at h2; show _ = _; rw [h2, ← h1])), HST.out, (by show _ = _; rw [List.length_set]; exact hbl2.out), (fun i hi => by
                      by_cases hij : j = i
                      · subst hij
                        rw [Price.getD_set_same (by rw [hbl2.out]; exact hjl), if_pos ⟨by omega, HHR.out.1⟩, HVJ.out, HBJ.out]
                      · rw [Price.getD_set_ne hij, hbt2.out i hi]
                        congr 1
                        by_cases hlt3 : i < j
                        · by_cases hc : ct.contains (i : Int) = true
                          · rw [if_pos ⟨hlt3, hc⟩, if_pos ⟨by omega, hc⟩]
                          · rw [if_neg (fun h => hc h.2), if_neg (fun h => hc h.2)]
                        · rw [if_neg (fun h => hlt3 h.1), if_neg (fun h => by have := h.1; omega)]), HON3⟩
                    case measure => simp [intOf]; omega
                  · have htf : ht = false := by rw [HHR.out.2, decide_eq_false hnm, Bool.and_false]
                    subst htf
                    have hne : (nm == m) = false := by simpa using hnm
                    clear hnm
                    go_wp2_with fail
                    refine (HN.out wd).mono ?_
                    rintro e wf ⟨rfl, hwf⟩
                    have hwf' := hwd'.next hwf (Nat.le_refl _)
                    clear s0 s1 s2 s3
                    go_wp2_with fail
                    go_roundw
                    case rel => exact ⟨j + 1, mt, bsy2, by omega, by go_num, rfl, hmt0, hmt8, (by (have h1 := hmt.out; have h2 := HTK2.out; simp only [Bool.false_eq_true, if_false, Int.add_zero] at h2; show _ = _; rw [h2]; exact h1)), hob2.below hwf', hbl2, (fun i hi => by
                      rw [hbt2.out i hi]
                      congr 1
                      by_cases hij : i = j
                      · subst hij
                        have hcf := HHR.out.1
                        rw [if_neg (by omega), if_neg (by rw [hcf]; simp)]
                      · by_cases hlt3 : i < j
                        · by_cases hc : ct.contains (i : Int) = true
                          · rw [if_pos ⟨hlt3, hc⟩, if_pos ⟨by omega, hc⟩]
                          · rw [if_neg (fun h => hc h.2), if_neg (fun h => hc h.2)]
                        · rw [if_neg (fun h => hlt3 h.1), if_neg (fun h => by have := h.1; omega)]), hon2.out.next hwf' (by omega) (by omega)⟩
                    case measure => simp [intOf]; omega
                · have htf : ht = false := by rw [HHR.out.2, decide_eq_false hmo, Bool.false_and]
                  subst htf
                  go_wp2_with fail
                  go_roundw
                  case rel => exact ⟨j + 1, mt, bsy2, by omega, by go_num, rfl, hmt0, hmt8, (by (have h1 := hmt.out; have h2 := HTK2.out; simp only [Bool.false_eq_true, if_false, Int.add_zero] at h2; show _ = _; rw [h2]; exact h1)), hob2.below hwd', hbl2, (fun i hi => by
                    rw [hbt2.out i hi]
                    congr 1
                    by_cases hij : i = j
                    · subst hij
                      have hcf := HHR.out.1
                      rw [if_neg (by omega), if_neg (by rw [hcf]; simp)]
                    · by_cases hlt3 : i < j
                      · by_cases hc : ct.contains (i : Int) = true
                        · rw [if_pos ⟨hlt3, hc⟩, if_pos ⟨by omega, hc⟩]
                        · rw [if_neg (fun h => hc h.2), if_neg (fun h => hc h.2)]
                      · rw [if_neg (fun h => hlt3 h.1), if_neg (fun h => by have := h.1; omega)]), hon2.out.next hwd' (by omega) (by omega)⟩
                  case measure => simp [intOf]; omega
            · have hmt' := hmt.out
              rw [List.take_of_length_le (by omega), ← HCN.out] at hmt'
              have hnn : (mt != (ct.length : Int)) = false := by simpa using hmt'
              have honk : Hid (Only w2.heap.size w4 wr) := hon8.out.trans hon2.out
              clear hmt hmt'
              go_wp2_with fail
              go_roundw
              case rel => exact ⟨k + 1, bsy2, by omega, by go_num, hob2, hbl2, (fun i hi => by
                rw [hbt2.out i hi, hbt.out i hi, HTK.out, Price.times_snoc, ← HCT.out]
                congr 1
                by_cases hc : ct.contains (i : Int) = true
                · rw [if_pos ⟨by omega, hc⟩, if_pos hc]
                · rw [if_neg (fun h => hc h.2), if_neg hc]), honk⟩
              case measure => simp [intOf]; omega
    · obtain rfl : k = 60 := by omega
      rw [List.take_of_length_le (by rw [Price.allPieces_length]; omega)] at hbt
      have HID := Lib.hid (idle_spec Al l cl wr (by unfold big; omega) hcl (hsl4.only hfl hon.out))
      rw [show Price.idleOf l = (Price.idleFrom (Price.busyOf l Price.allPieces) 0, 0) by unfold Price.idleOf; rw [if_pos HCK.out]] at HID
      go_wp2_with fail
      refine HID.out.mono ?_
      rintro e x1 ⟨vi, rfl, hoi, hbx1⟩
      obtain ⟨id, hid⟩ : ∃ id, id = Price.idleFrom (Price.busyOf l Price.allPieces) 0 := ⟨_, rfl⟩
      rw [← hid] at hoi
      have HI := Lib.hid hid
      have hidl : id.length ≤ 8 := by
        have := Price.idleFrom_length (Price.busyOf l Price.allPieces) 0
        rw [← hid, Price.busyOf_length] at this; omega
      obtain ⟨Ai, ci, rfl, _, _⟩ := hoi.form
      have hob1 := hob.below hbx1
      have hsl1 := (hsl4.only hfl hon.out).below hbx1
      have hb01 : Below w.heap.size w x1 := (hb04.trans (hon.out.below.mono (by omega))).next hbx1 (by have := hb04.size; omega)
      have hsi := hoi.sl
      have HBT : Hid (∀ j r, l[j]? = some r → bsy.getD j 0 = Price.times l j Price.allPieces ∧ 0 ≤ bsy.getD j 0 ∧ bsy.getD j 0 ≤ 60 ∧ id.contains (j : Int) = decide (bsy.getD j 0 = 0) ∧ (r.b ≠ -1 → r.s ≠ -1 → r.e ≠ -1 → bsy.getD j 0 = 1)) := fun j r hr => by
        have hjl : j < l.length := (List.getElem?_eq_some_iff.1 hr).1
        have h0 := hbt.out j hjl
        refine ⟨h0, ?_, ?_, ?_, ?_⟩
        · rw [h0]; exact Price.cn_nonneg _ _
        · rw [h0]
          have := Price.cn_len (fun p => (Price.counts l p).contains (j : Int)) Price.allPieces
          rw [Price.allPieces_length] at this
          unfold Price.times; omega
        · rw [HI.out, Price.idle_contains l hjl, h0]
        · intro h1 h2 h3
          rw [h0]
          exact Price.times_full hr (HMK.out.ok r (List.mem_of_getElem? hr)).1 h1 h2 h3
      clear hid HID hoi hbx1 hob
      have hz1x := hb01.size
      go_wp2_with fail
      go_loopw [19, 20, 118] (fun _ _ i wx => ∃ j : Nat, j ≤ l.length ∧ i = iv j ∧ Below x1.heap.size x1 wx) (fun _ _ i _ => l.length - (intOf i).toNat)
      case atStart => exact ⟨0, by omega, rfl, Below.refl _ _⟩
      case round =>
        obtain ⟨j, hj, rfl, hbx⟩ := hrel
        by_cases hjl : j < l.length
        · have hji : (j : Int) < (l.length : Int) := by omega
          obtain ⟨br, orr, r, rfl, hbr, hr, hr0, hr1, hr2, hr3⟩ := (hsl1.below hbx).atR hjl
          obtain ⟨_, hb0, hb60, hidc, hfull⟩ := HBT.out j r hr
          obtain ⟨fz, _, hgl, hce, _⟩ := (hob1.below hbx).store j (by rw [hbl.out]; exact hjl) 0
          obtain ⟨b, hb⟩ : ∃ b, b = bsy.getD j 0 := ⟨_, rfl⟩
          rw [← hb] at hb0 hb60 hidc hfull hce
          obtain ⟨ra, rb, rc, rd⟩ := r
          dsimp only at hr0 hr1 hr2 hr3 hfull
          have hsix := hsi.below hbx
          have HFU := Lib.hid hfull
          have HIC := Lib.hid hidc
          clear hr hb hfull hidc
          go_wp2_with fail
          have hwa : Below wr.heap.size wr (wr.alloc (.cells #[iv ra, iv rb, iv rc, iv rd] 27)) := (Below.refl _ _).alloc (Nat.le_refl _) _
          have hBa : Blk (wr.alloc (.cells #[iv ra, iv rb, iv rc, iv rd] 27)) wr.heap.size 27 #[iv ra, iv rb, iv rc, iv rd] := Blk.new _ _ _
          have hcea : (wr.alloc (.cells #[iv ra, iv rb, iv rc, iv rd] 27)).cell? ⟨w2.heap.size, j, none⟩ = some (iv b) := (hwa.cell (p := ⟨w2.heap.size, j, none⟩) hgl).trans hce
          have hgla : w2.heap.size < (wr.alloc (.cells #[iv ra, iv rb, iv rc, iv rd] 27)).heap.size := by simp; omega
          generalize wr.alloc (.cells #[iv ra, iv rb, iv rc, iv rd] 27) = wa at *
          have HFF : Hid (∀ a : World, Below wa.heap.size wa a → a.cell? ⟨w2.heap.size, j, none⟩ = some (iv b) ∧ (a.cell? ⟨wr.heap.size, 0, none⟩ = some (iv ra) ∧ a.cell? ⟨wr.heap.size, 1, none⟩ = some (iv rb) ∧ a.cell? ⟨wr.heap.size, 2, none⟩ = some (iv rc))) := fun a h => ⟨(h.cell (p := ⟨w2.heap.size, j, none⟩) hgla).trans hcea, (hBa.under h).cell 0, (hBa.under h).cell 1, (hBa.under h).cell 2⟩
          have HCO : Hid (∀ a : World, Below wa.heap.size wa a → Calls Try.prog 66 #[.slice Ai id.length ci, iv j] a fun e w' => e = .returned (.bool (decide (b = 0))) ∧ Below a.heap.size a w') := fun a h => by
            have := contains2I Ai id ci (j : Int) a (by unfold big; omega) ((hsix.below hwa).below h)
            rw [HIC.out] at this
            exact this.mono fun e w' h => ⟨h.1, by rw [← h.2]; exact Below.refl _ _⟩
          clear hce hcea hBa hr0 hr1 hr2 hr3 fz
          have hbw' := hbx.next hwa (Nat.le_refl _)
          by_cases e1 : ra = -1
          · have f1 : (ra != -1) = false := by simp [e1]
            by_cases eb : b = 0
            · have fb : (b == 0) = true := by simpa using eb
              rw [decide_eq_true eb] at HCO
              go_wp2_with fail
              refine wp_havoc_lit (by kernel_rfl) (by kernel_rfl) ?_
              repeat (first
                | (refine hv_skip (by rfl) ?_; simp only [Act.put, List.setIfInBounds_toArray, List.set_cons_zero, List.set_cons_succ])
                | (apply hv_val (by rfl); (intro w hw; have F := HFF.out w hw; go_simp; exact rfl); simp only [Act.put, List.setIfInBounds_toArray, List.set_cons_zero, List.set_cons_succ])
                | (apply hv_call (by rfl); (intro w hw; have F := HFF.out w hw; go_simp; exact ⟨rfl, rfl⟩); (intro w hw; have F := HFF.out w hw; with_reducible exact HCO.out w hw); simp only [Act.put, List.setIfInBounds_toArray, List.set_cons_zero, List.set_cons_succ]))
              refine hv_nil ?_
              rintro wf hwf
              go_wp2
              go_roundw
              case rel => exact ⟨j + 1, by omega, by go_num, hbw'.next hwf (Nat.le_refl _)⟩
              case measure => simp [intOf]; omega
            · have fb : (b == 0) = false := by simpa using eb
              rw [decide_eq_false eb] at HCO
              go_wp2_with fail
              refine wp_havoc_lit (by kernel_rfl) (by kernel_rfl) ?_
              repeat (first
                | (refine hv_skip (by rfl) ?_; simp only [Act.put, List.setIfInBounds_toArray, List.set_cons_zero, List.set_cons_succ])
                | (apply hv_val (by rfl); (intro w hw; have F := HFF.out w hw; go_simp; exact rfl); simp only [Act.put, List.setIfInBounds_toArray, List.set_cons_zero, List.set_cons_succ])
                | (apply hv_call (by rfl); (intro w hw; have F := HFF.out w hw; go_simp; exact ⟨rfl, rfl⟩); (intro w hw; have F := HFF.out w hw; with_reducible exact HCO.out w hw); simp only [Act.put, List.setIfInBounds_toArray, List.set_cons_zero, List.set_cons_succ]))
              refine hv_nil ?_
              rintro wf hwf
              go_wp2
              go_roundw
              case rel => exact ⟨j + 1, by omega, by go_num, hbw'.next hwf (Nat.le_refl _)⟩
              case measure => simp [intOf]; omega
          · have f1 : (ra != -1) = true := bne_iff_ne.2 e1
            by_cases e2 : rb = -1
            · have f2 : (rb != -1) = false := by simp [e2]
              by_cases eb : b = 0
              · have fb : (b == 0) = true := by simpa using eb
                rw [decide_eq_true eb] at HCO
                go_wp2_with fail
                refine wp_havoc_lit (by kernel_rfl) (by kernel_rfl) ?_
                repeat (first
                  | (refine hv_skip (by rfl) ?_; simp only [Act.put, List.setIfInBounds_toArray, List.set_cons_zero, List.set_cons_succ])
                  | (apply hv_val (by rfl); (intro w hw; have F := HFF.out w hw; go_simp; exact rfl); simp only [Act.put, List.setIfInBounds_toArray, List.set_cons_zero, List.set_cons_succ])
                  | (apply hv_call (by rfl); (intro w hw; have F := HFF.out w hw; go_simp; exact ⟨rfl, rfl⟩); (intro w hw; have F := HFF.out w hw; with_reducible exact HCO.out w hw); simp only [Act.put, List.setIfInBounds_toArray, List.set_cons_zero, List.set_cons_succ]))
                refine hv_nil ?_
                rintro wf hwf
                go_wp2
                go_roundw
                case rel => exact ⟨j + 1, by omega, by go_num, hbw'.next hwf (Nat.le_refl _)⟩
                case measure => simp [intOf]; omega
              · have fb : (b == 0) = false := by simpa using eb
                rw [decide_eq_false eb] at HCO
                go_wp2_with fail
                refine wp_havoc_lit (by kernel_rfl) (by kernel_rfl) ?_
                repeat (first
                  | (refine hv_skip (by rfl) ?_; simp only [Act.put, List.setIfInBounds_toArray, List.set_cons_zero, List.set_cons_succ])
                  | (apply hv_val (by rfl); (intro w hw; have F := HFF.out w hw; go_simp; exact rfl); simp only [Act.put, List.setIfInBounds_toArray, List.set_cons_zero, List.set_cons_succ])
                  | (apply hv_call (by rfl); (intro w hw; have F := HFF.out w hw; go_simp; exact ⟨rfl, rfl⟩); (intro w hw; have F := HFF.out w hw; with_reducible exact HCO.out w hw); simp only [Act.put, List.setIfInBounds_toArray, List.set_cons_zero, List.set_cons_succ]))
                refine hv_nil ?_
                rintro wf hwf
                go_wp2
                go_roundw
                case rel => exact ⟨j + 1, by omega, by go_num, hbw'.next hwf (Nat.le_refl _)⟩
                case measure => simp [intOf]; omega
            · have f2 : (rb != -1) = true := bne_iff_ne.2 e2
              by_cases e3 : rc = -1
              · have f3 : (rc != -1) = false := by simp [e3]
                by_cases eb : b = 0
                · have fb : (b == 0) = true := by simpa using eb
                  rw [decide_eq_true eb] at HCO
                  go_wp2_with fail
                  refine wp_havoc_lit (by kernel_rfl) (by kernel_rfl) ?_
                  repeat (first
                    | (refine hv_skip (by rfl) ?_; simp only [Act.put, List.setIfInBounds_toArray, List.set_cons_zero, List.set_cons_succ])
                    | (apply hv_val (by rfl); (intro w hw; have F := HFF.out w hw; go_simp; exact rfl); simp only [Act.put, List.setIfInBounds_toArray, List.set_cons_zero, List.set_cons_succ])
                    | (apply hv_call (by rfl); (intro w hw; have F := HFF.out w hw; go_simp; exact ⟨rfl, rfl⟩); (intro w hw; have F := HFF.out w hw; with_reducible exact HCO.out w hw); simp only [Act.put, List.setIfInBounds_toArray, List.set_cons_zero, List.set_cons_succ]))
                  refine hv_nil ?_
                  rintro wf hwf
                  go_wp2
                  go_roundw
                  case rel => exact ⟨j + 1, by omega, by go_num, hbw'.next hwf (Nat.le_refl _)⟩
                  case measure => simp [intOf]; omega
                · have fb : (b == 0) = false := by simpa using eb
                  rw [decide_eq_false eb] at HCO
                  go_wp2_with fail
                  refine wp_havoc_lit (by kernel_rfl) (by kernel_rfl) ?_
                  repeat (first
                    | (refine hv_skip (by rfl) ?_; simp only [Act.put, List.setIfInBounds_toArray, List.set_cons_zero, List.set_cons_succ])
                    | (apply hv_val (by rfl); (intro w hw; have F := HFF.out w hw; go_simp; exact rfl); simp only [Act.put, List.setIfInBounds_toArray, List.set_cons_zero, List.set_cons_succ])
                    | (apply hv_call (by rfl); (intro w hw; have F := HFF.out w hw; go_simp; exact ⟨rfl, rfl⟩); (intro w hw; have F := HFF.out w hw; with_reducible exact HCO.out w hw); simp only [Act.put, List.setIfInBounds_toArray, List.set_cons_zero, List.set_cons_succ]))
                  refine hv_nil ?_
                  rintro wf hwf
                  go_wp2
                  go_roundw
                  case rel => exact ⟨j + 1, by omega, by go_num, hbw'.next hwf (Nat.le_refl _)⟩
                  case measure => simp [intOf]; omega
              · have f3 : (rc != -1) = true := bne_iff_ne.2 e3
                have hb1 := HFU.out e1 e2 e3
                have f4 : (b != 1) = false := by simp [hb1]
                have eb : ¬ b = 0 := by omega
                clear hb1
                have fb : (b == 0) = false := by simpa using eb
                rw [decide_eq_false eb] at HCO
                go_wp2_with fail
                refine wp_havoc_lit (by kernel_rfl) (by kernel_rfl) ?_
                repeat (first
                  | (refine hv_skip (by rfl) ?_; simp only [Act.put, List.setIfInBounds_toArray, List.set_cons_zero, List.set_cons_succ])
                  | (apply hv_val (by rfl); (intro w hw; have F := HFF.out w hw; go_simp; exact rfl); simp only [Act.put, List.setIfInBounds_toArray, List.set_cons_zero, List.set_cons_succ])
                  | (apply hv_call (by rfl); (intro w hw; have F := HFF.out w hw; go_simp; exact ⟨rfl, rfl⟩); (intro w hw; have F := HFF.out w hw; with_reducible exact HCO.out w hw); simp only [Act.put, List.setIfInBounds_toArray, List.set_cons_zero, List.set_cons_succ]))
                refine hv_nil ?_
                rintro wf hwf
                go_wp2
                go_roundw
                case rel => exact ⟨j + 1, by omega, by go_num, hbw'.next hwf (Nat.le_refl _)⟩
                case measure => simp [intOf]; omega
        · have HA := Lib.hid (awake_spec wr)
          go_wp2_with (go_at_call 20; refine HA.out.mono ?_; rintro e wz ⟨rfl, hwz⟩)
          go_ret
          exact ⟨rfl, (hb01.next hbx (by omega)).next hwz (Nat.le_refl _)⟩
end Go.Proofs.Ytblmlpkjocbhpaa
