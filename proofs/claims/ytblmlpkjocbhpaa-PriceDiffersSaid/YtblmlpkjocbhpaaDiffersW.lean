/- PriceDiffers returns true: the walk. Condition: the arguments read as bytes. -/
import Derived.Test.YtblmlpkjocbhpaaOrderW
import Derived.Test.YtblmlpkjocbhpaaSortI
import Derived.Test.YtblmlpkjocbhpaaAllW
import Derived.Test.YtblmlpkjocbhpaaMadeW
import Derived.Test.YtblmlpkjocbhpaaOpen
import Derived.Deep.DeepCutAuto
set_option linter.unusedVariables false
set_option linter.unusedSimpArgs false
namespace Go.Proofs.Ytblmlpkjocbhpaa
open Go.RowKit Go.Shelf
set_option maxRecDepth 100000
theorem rising_of2 {xs : List Int} (h : ∀ (k : Nat) (x y : Int), xs[k]? = some x → xs[k + 1]? = some y → x < y) : Rising xs := fun k x y h1 h2 => by have := h k x y h1 h2; omega
namespace Price
/-- The first piece at which lists differ, and whether there is one, among some pieces. -/
def firstOf (a b : List Rule) (ps : List Piece) : Piece × Bool := match ps.find? (differs a b) with
  | some p => (p, true)
  | none => (⟨0, 0, 0⟩, false)
theorem firstOf_snoc (a b : List Rule) (ps : List Piece) (p : Piece) : firstOf a b (ps ++ [p]) = if (firstOf a b ps).2 then firstOf a b ps else (if differs a b p then (p, true) else firstOf a b ps) := by
  unfold firstOf
  rw [List.find?_append]
  cases h : ps.find? (differs a b) with
  | some q => simp
  | none => cases hd : differs a b p <;> simp [List.find?_cons, hd]
theorem firstOf_differ (a b : List Rule) : ((firstOf a b allPieces).2 = true ∧ differ a b = ((firstOf a b allPieces).1, 0)) ∨ ((firstOf a b allPieces) = (⟨0, 0, 0⟩, false) ∧ differ a b = (⟨0, 0, 0⟩, 6)) := by
  unfold firstOf differ
  cases allPieces.find? (differs a b) with
  | some p => exact .inl ⟨rfl, rfl⟩
  | none => exact .inr ⟨rfl, rfl⟩
theorem differOf_ok {a b : List Rule} (ha : check a = 0) (hb : check b = 0) : differOf a b = differ a b := by
  unfold differOf
  rw [ha, hb]; rfl
end Price
set_option maxHeartbeats 4000000 in
theorem differs_walk (A : Option Addr) (bs : List Int) (c : Nat) (A' : Option Addr) (bs' : List Int) (c' : Nat) (A3 : Option Addr) (bs3 : List Int) (c3 : Nat) (mn : Nat) (w : World) (hs : Sl byteE w A bs) (hs' : Sl byteE w A' bs') (hs3 : Sl byteE w A3 bs3) (hmn : mn ≤ 255) :
    Calls Try.prog 9 #[.slice A bs.length c, .slice A' bs'.length c', .slice A3 bs3.length c3, .int .u8 mn] w fun e w' => e = .returned (.bool true) ∧ Below w.heap.size w w' := by
  go_enter Try.func9, Try.ntmps9
  go_wp2_with fail
  refine (wound_spec A bs c w hs).mono ?_
  rintro e w1 ⟨g, rfl, rfl, hsp1, hb1⟩
  have hz1 := hsp1.2.1
  go_wp2_with fail
  refine (made_spec _ w.heap.size 0 7 w1 hsp1 (by omega) (by omega)).mono ?_
  rintro e w2 ⟨vl, l, k3, rfl, hol, hml, hk3, hsp2, ho2⟩
  have hcl0 := hml.check (by omega)
  have HML := Lib.hid hml
  have HCL := Lib.hid hcl0
  have hl7 := hml.len
  obtain ⟨Al, cl, rfl, hcl, _⟩ := hol.form
  have hsl2 := hol.sl
  have hz2 := ho2.below.size
  have hb02 : Below w.heap.size w w2 := hb1.trans ho2.below
  have hfl : Far w2.heap.size Al := fun b off s h => by
    subst h
    have := (hol.lt b (by simp [Value.ownBlock])).2
    omega
  clear hml hcl0 hsp1 hsp2 ho2 hb1 hol hk3
  go_wp2_with fail
  refine (wound2_spec A' bs' c' w w2 hs' hb02).mono ?_
  rintro e w3 ⟨g2, rfl, rfl, hz3, hb3, HQ⟩
  have hb03 := hb02.next hb3 (by omega)
  have hsp3 := HQ.out w3 (Nat.le_refl _) (fun b hb => hb03.block b hb) rfl
  go_wp2_with fail
  refine (made_spec _ w2.heap.size 0 7 w3 hsp3 (by omega) (by omega)).mono ?_
  rintro e w4 ⟨vk, k, k4, rfl, hok, hmk, hk4, hsp4, ho4⟩
  have hck0 := hmk.check (by omega)
  have HMK := Lib.hid hmk
  have HCK := Lib.hid hck0
  have hk7 := hmk.len
  obtain ⟨Ak, ck, rfl, hck, _⟩ := hok.form
  have hsk4 := hok.sl
  have hz4 := ho4.below.size
  have hsl4 := (hsl2.below hb3).only hfl ho4
  have hb04 : Below w.heap.size w w4 := hb03.trans (ho4.below.mono (by omega))
  clear hmk hck0 hsp3 hsp4 ho4 hok hk4 HQ hsl2 hfl hb3 hb03
  have HD : Hid (∀ W, Below w4.heap.size w4 W → Calls Try.prog 58 #[.slice Al l.length cl, .slice Ak k.length ck] W fun e w' => e = .returned (.tuple #[(Price.differ l k).1.v, iv (Price.differ l k).2]) ∧ Below W.heap.size W w') := fun W h => by
    have := Differ_spec Al l cl Ak k ck W (by unfold big; omega) hcl (hsl4.below h) (by unfold big; omega) hck (hsk4.below h)
    rw [Price.differOf_ok HCL.out HCK.out] at this
    exact this
  obtain ⟨⟨da, db, dc⟩, hdp⟩ : ∃ dp, dp = (Price.differ l k).1 := ⟨_, rfl⟩
  obtain ⟨de, hde⟩ : ∃ de, de = (Price.differ l k).2 := ⟨_, rfl⟩
  rw [← hdp, ← hde] at HD
  have HDP := Lib.hid hdp
  have HDE := Lib.hid hde
  clear hdp hde
  have HD1 := Lib.hid (HD.out w4 (Below.refl _ _))
  go_wp2_with fail
  refine HD1.out.mono ?_
  rintro e w5 ⟨rfl, hb5⟩
  have hb05 := hb04.next hb5 (by have := hb04.size; omega)
  clear HD HD1
  go_wp2_with fail
  have hb6 : Below w5.heap.size w5 ((w5.alloc (.cells #[iv da, iv db, iv dc] 42)).alloc (.cells #[iv 0, iv 0, iv 0] 42)) := ((Below.refl _ _).alloc (Nat.le_refl _) _).alloc (by simp) _
  have hBp : Blk ((w5.alloc (.cells #[iv da, iv db, iv dc] 42)).alloc (.cells #[iv 0, iv 0, iv 0] 42)) w5.heap.size 42 #[iv da, iv db, iv dc] := (Blk.new _ _ _).alloc _
  have hB13 : Blk ((w5.alloc (.cells #[iv da, iv db, iv dc] 42)).alloc (.cells #[iv 0, iv 0, iv 0] 42)) (w5.heap.size + 1) 42 #[iv 0, iv 0, iv 0] := Blk.new_ _ _ _ (by simp)
  have hz6 : ((w5.alloc (.cells #[iv da, iv db, iv dc] 42)).alloc (.cells #[iv 0, iv 0, iv 0] 42)).heap.size = w5.heap.size + 2 := by simp
  generalize (w5.alloc (.cells #[iv da, iv db, iv dc] 42)).alloc (.cells #[iv 0, iv 0, iv 0] 42) = w6 at *
  have hb06 := hb05.next hb6 (by have := hb05.size; omega)
  have hsl6 := (hsl4.below hb5).below hb6
  have hsk6 := (hsk4.below hb5).below hb6
  have hz5 := hb5.size
  refine (all_spec w6).mono ?_
  rintro e w7 ⟨va, rfl, hoa, hb7⟩
  obtain ⟨Aa, ca, rfl, _, _⟩ := hoa.form
  rw [Price.allPieces_length]
  have hsa7 := hoa.sl
  have hfa : Far (w5.heap.size + 1) Aa := fun b off s h => by
    subst h
    have := (hoa.lt b (by simp [Value.ownBlock])).1
    omega
  have hsl7 := hsl6.below hb7
  have hsk7 := hsk6.below hb7
  have hlt5 : ∀ b off s, Al = some ⟨b, off, s⟩ → True := fun _ _ _ _ => trivial
  have hBp7 := hBp.under hb7
  have hB137 := hB13.under hb7
  have hb07 := hb06.next hb7 (by have := hb06.size; omega)
  have hz7 := hb7.size
  have hflA : Sl ruleE w5 Al l ∧ Sl ruleE w5 Ak k := ⟨hsl4.below hb5, hsk4.below hb5⟩
  have HPR : Hid (∀ (W : World) (q : Piece), Below w5.heap.size w5 W → (Calls Try.prog 60 #[.slice Al l.length cl, q.v] W fun e w' => e = .returned (.tuple #[iv (Price.priced l q).1, iv (Price.priced l q).2]) ∧ Below W.heap.size W w') ∧ (Calls Try.prog 60 #[.slice Ak k.length ck, q.v] W fun e w' => e = .returned (.tuple #[iv (Price.priced k q).1, iv (Price.priced k q).2]) ∧ Below W.heap.size W w')) := fun W q h => by
    have h1 := lpriced_spec Al l cl q W (by unfold big; omega) (hflA.1.below h)
    have h2 := lpriced_spec Ak k ck q W (by unfold big; omega) (hflA.2.below h)
    rw [HML.out.law] at h1
    rw [HMK.out.law] at h2
    exact ⟨h1, h2⟩
  have HSL5 : Hid (∀ W, Below w5.heap.size w5 W → Sl ruleE W Al l) := fun W h => hflA.1.below h
  have hb57 : Below w5.heap.size w5 w7 := hb6.next hb7 (by omega)
  clear hsl4 hsk4 hb5 hsl6 hsk6 hb6 hb7 hBp hB13 hoa hlt5 hb06 hflA
  go_wp2_with fail
  go_loopw [14, 16, 17, 18, 19, 20, 48] (fun v14 _ _ _ _ _ i wr => ∃ (j : Nat) (f : Piece) (fd : Bool), j ≤ 60 ∧ i = iv j ∧ v14 = .bool fd ∧ Blk wr (w5.heap.size + 1) 42 #[iv f.b, iv f.s, iv f.e] ∧ Hid (Price.firstOf l k (Price.allPieces.take j) = (f, fd)) ∧ Hid (Only (w5.heap.size + 1) w7 wr)) (fun _ _ _ _ _ _ i _ => 60 - (intOf i).toNat)
  case atStart => exact ⟨0, ⟨0, 0, 0⟩, false, by omega, rfl, rfl, hB137, rfl, Only.refl _ _⟩
  case round =>
    obtain ⟨j, f, fd, hj, rfl, rfl, hB, hf, hon⟩ := hrel
    have hzr := hon.out.below.size
    by_cases hlt : j < 60
    · have hj60 : (j : Int) < 60 := by omega
      have hsar := hsa7.only hfa hon.out
      obtain ⟨ba, oa, q, rfl, hba, hq, hc0, hc1, hc2⟩ := hsar.atP (k := j) (by rw [Price.allPieces_length]; exact hlt)
      have HTK : Hid (Price.firstOf l k (Price.allPieces.take (j + 1)) = if fd then (f, fd) else (if Price.differs l k q then (q, true) else (f, fd))) := by
        show _ = _
        rw [take_at hq, Price.firstOf_snoc, hf.out]
      have HDD : Hid (Price.differs l k q = ((Price.priced l q).1 != (Price.priced k q).1 || (Price.priced l q).2 != (Price.priced k q).2)) := rfl
      obtain ⟨⟨n1, e1⟩, hne1⟩ : ∃ x, x = Price.priced l q := ⟨_, rfl⟩
      obtain ⟨⟨n2, e2⟩, hne2⟩ : ∃ x, x = Price.priced k q := ⟨_, rfl⟩
      have HP1 : Hid (∀ W, Below wr.heap.size wr W → Calls Try.prog 60 #[.slice Al l.length cl, q.v] W fun e w' => e = .returned (.tuple #[iv n1, iv e1]) ∧ Below W.heap.size W w') := fun W h => by
        have := (HPR.out W q ((hb57.trans (hon.out.below.mono (by omega))).next h (by have := hb57.size; omega))).1
        rw [← hne1] at this
        exact this
      have HP2 : Hid (∀ W, Below wr.heap.size wr W → Calls Try.prog 60 #[.slice Ak k.length ck, q.v] W fun e w' => e = .returned (.tuple #[iv n2, iv e2]) ∧ Below W.heap.size W w') := fun W h => by
        have := (HPR.out W q ((hb57.trans (hon.out.below.mono (by omega))).next h (by have := hb57.size; omega))).2
        rw [← hne2] at this
        exact this
      rw [← hne1, ← hne2] at HDD
      dsimp only at HDD
      obtain ⟨x, y, z⟩ := q
      dsimp only at hc0 hc1 hc2
      clear hq hne1 hne2 hsar
      have hwa : Below wr.heap.size wr (wr.alloc (.cells #[iv x, iv y, iv z] 42)) := (Below.refl _ _).alloc (Nat.le_refl _) _
      have hBa : Blk (wr.alloc (.cells #[iv x, iv y, iv z] 42)) wr.heap.size 42 #[iv x, iv y, iv z] := Blk.new _ _ _
      go_wp2_with fail
      generalize wr.alloc (.cells #[iv x, iv y, iv z] 42) = wa at *
      have H1 := Lib.hid (HP1.out wa hwa)
      refine H1.out.mono ?_
      rintro e wb ⟨rfl, hwb⟩
      have hBb := hBa.under hwb
      have hwb' := hwa.next hwb (Nat.le_refl _)
      have H2 := Lib.hid (HP2.out wb hwb')
      have q0 := hBb.cell
      have q1 := hBb.lt
      clear H1 HP1 HP2 hBa hwa hwb
      go_wp2_with fail
      refine H2.out.mono ?_
      rintro e wd ⟨rfl, hwd⟩
      have hwd' := hwb'.next hwd (Nat.le_refl _)
      have hBd := hBb.under hwd
      have hBf := hB.under hwd'
      clear q0 q1 H2 hBb hwb' hwd
      cases fd with
      | true =>
        rw [if_pos rfl] at HTK
        go_wp2_with fail
        go_roundw
        case rel => exact ⟨j + 1, f, true, by omega, by go_num, rfl, hBf, HTK, hon.out.next hwd' (by omega) (by omega)⟩
        case measure => simp [intOf]; omega
      | false =>
        rw [if_neg (by decide)] at HTK
        have q0 := hBd.cell
        have q1 := hBd.lt
        have q2 := hBf.cell
        have q3 := hBf.frozen
        have q4 := hBf.lt
        by_cases ha : n1 = n2
        · have ha' : (n1 != n2) = false := by simp [ha]
          rw [ha', Bool.false_or] at HDD
          by_cases hb : e1 = e2
          · have hb' : (e1 != e2) = false := by simp [hb]
            rw [HDD.out, hb', if_neg (by decide)] at HTK
            clear ha hb
            go_wp2_with fail
            go_roundw
            case rel => exact ⟨j + 1, f, false, by omega, by go_num, rfl, hBf, HTK, hon.out.next hwd' (by omega) (by omega)⟩
            case measure => simp [intOf]; omega
          · have hb' : (e1 != e2) = true := bne_iff_ne.2 hb
            rw [HDD.out, hb', if_pos rfl] at HTK
            clear ha hb
            go_wp2_with fail
            go_roundw
            case rel => exact ⟨j + 1, ⟨x, y, z⟩, true, by omega, by go_num, rfl, ((hBf.set_ 0 _).set_ 1 _).set_ 2 _, HTK, (((hon.out.next hwd' (by omega) (by omega)).trans (Only.set_ _ 0 _ _)).trans (Only.set_ _ 1 _ _)).trans (Only.set_ _ 2 _ _)⟩
            case measure => simp [intOf]; omega
        · have ha' : (n1 != n2) = true := bne_iff_ne.2 ha
          rw [ha', Bool.true_or] at HDD
          rw [HDD.out, if_pos rfl] at HTK
          clear ha
          go_wp2_with fail
          go_roundw
          case rel => exact ⟨j + 1, ⟨x, y, z⟩, true, by omega, by go_num, rfl, ((hBf.set_ 0 _).set_ 1 _).set_ 2 _, HTK, (((hon.out.next hwd' (by omega) (by omega)).trans (Only.set_ _ 0 _ _)).trans (Only.set_ _ 1 _ _)).trans (Only.set_ _ 2 _ _)⟩
          case measure => simp [intOf]; omega
    · obtain rfl : j = 60 := by omega
      have hff := hf.out
      rw [List.take_of_length_le (by rw [Price.allPieces_length]; omega)] at hff
      have hcase : f = ⟨da, db, dc⟩ ∧ ((fd = true ∧ de = 0) ∨ (fd = false ∧ de = 6)) := by
        have h1 := HDP.out
        have h2 := HDE.out
        rcases Price.firstOf_differ l k with ⟨h3, h4⟩ | ⟨h3, h4⟩
        · rw [hff] at h3 h4
          rw [h4] at h1 h2
          exact ⟨h1.symm, .inl ⟨h3, h2⟩⟩
        · rw [hff] at h3
          injection h3 with h3 h5
          rw [h4] at h1 h2
          exact ⟨h3.trans h1.symm, .inr ⟨h5, h2⟩⟩
      obtain ⟨rfl, hcase⟩ := hcase
      have HCS := Lib.hid hcase
      have hBpr := hBp7.only (by omega) hon.out
      have hbr : Below w.heap.size w wr := hb07.trans (hon.out.below.mono (by have := hb05.size; omega))
      have hb5r : Below w5.heap.size w5 wr := hb57.trans (hon.out.below.mono (by omega))
      clear hf hff hcase
      obtain ⟨w8, rfl⟩ : ∃ w8 : World, w8 = wr := ⟨_, rfl⟩
      have hz8 := hb5r.size
      go_upto_region 12 with fail
      go_cut [94] from 78 to 94 (fun v wx => v = .bool false ∧ Below w8.heap.size w8 wx)
      case first =>
        have heq : ∀ w, (Op.equalIn 10000 42 (.agg #[iv da, iv db, iv dc]) (.agg #[iv da, iv db, iv dc])).run Try.prog w = .ok true w := fun w => by have := eqPiece da db dc da db dc w; simpa using this
        have q0 := hB.cell
        have q1 := hB.lt
        have q2 := hBpr.cell
        have q3 := hBpr.lt
        rcases HCS.out with ⟨rfl, rfl⟩ | ⟨rfl, rfl⟩
        · go_wp2_with fail
          go_meet
          exact ⟨rfl, Below.refl _ _⟩
        · go_wp2_with fail
          go_meet
          exact ⟨rfl, Below.refl _ _⟩
      case rest =>
        obtain ⟨rfl, hb89⟩ := hcut
        generalize wc = w9 at *
        have hb09 := hbr.next hb89 (by have := hbr.size; omega)
        have hb59 := hb5r.next hb89 (by omega)
        go_wp2_with (at_make; refine wpMakeN ruleE tyRules ⟨0, 0, 0, 0⟩ ⟨_, _, rfl, rfl, rfl⟩ rfl _ _ rfl l.length rfl rfl (by unfold big; omega) ?_; intro w10 hot hb10)
        have hfull := hot.full
        have hz10 := hb10.size
        have hgt := hfull.1.lt
        have hb010 := hb09.next hb10 (by have := hb09.size; omega)
        have hb510 := hb59.next hb10 (by have := hb59.size; omega)
        refine (wound2_spec A3 bs3 c3 w w10 hs3 hb010).mono ?_
        rintro e w11 ⟨g3, rfl, rfl, hz11, hb11, HQ⟩
        have hb011 := hb010.next hb11 (by have := hb010.size; omega)
        have hb511 := hb510.next hb11 (by have := hb510.size; omega)
        have hsp11 := HQ.out w11 (Nat.le_refl _) (fun b hb => hb011.block b hb) rfl
        have hBt11 := hfull.1.under hb11
        clear HQ hfull hot hb10 hb010 hb510
        go_wp2_with fail
        refine (order_spec _ w10.heap.size 0 l.length w11 hsp11 (by omega) (by omega)).mono ?_
        rintro e w12 ⟨vo, os, rfl, hoo, hosl, hosp, _, ho12⟩
        obtain ⟨Ao, co, hvo, _, _⟩ := hoo.form
        rw [hosl] at hvo
        subst hvo
        have hz12 := ho12.below.size
        have hso := hoo.sl
        have hBt12 := hBt11.only (by omega) ho12
        have hb512 : Below w5.heap.size w5 w12 := hb511.trans (ho12.below.mono (by have := hb59.size; omega))
        have hb012 : Below w.heap.size w w12 := hb011.trans (ho12.below.mono (by have := hb09.size; omega))
        have HOSL := Lib.hid hosl
        have HOSP := Lib.hid hosp
        have hfo : Far w9.heap.size Ao := fun b off s h => by
          subst h
          have := (hoo.lt b (by simp [Value.ownBlock])).1
          omega
        have hsl12 := HSL5.out w12 hb512
        clear hosl hosp hoo hsp11 hBt11 hb511 hb011 ho12 hb11
        go_wp2_with fail
        go_loopw [22, 23, 104] (fun _ _ i wr => ∃ (j : Nat) (ts : List Rule), j ≤ l.length ∧ i = iv j ∧ Blk wr w9.heap.size 27 (ts.flatMap ruleE.cells).toArray ∧ Hid (ts.length = l.length) ∧ Hid (∀ (i : Nat) (x : Int) (r : Rule), i < j → os[i]? = some x → l[i]? = some r → ts[x.toNat]? = some r) ∧ Hid (Only w9.heap.size w12 wr)) (fun _ _ i _ => l.length - (intOf i).toNat)
        case atStart => exact ⟨0, List.replicate l.length ⟨0, 0, 0, 0⟩, by omega, rfl, hBt12, (by show _ = _; simp), (fun i x r hi => absurd hi (Nat.not_lt_zero _)), Only.refl _ _⟩
        case round =>
          obtain ⟨j, ts, hj, rfl, hB2, htl, hts, hon2⟩ := hrel
          have hz13 := hon2.out.below.size
          by_cases hjl : j < l.length
          · have hji : (j : Int) < (l.length : Int) := by omega
            obtain ⟨bo, oo, x, rfl, hbo, hx, hcx⟩ := (hso.only hfo hon2.out).atI (k := j) (by rw [HOSL.out]; exact hjl)
            have hxb := order_mem HOSP.out (mem_at hx)
            obtain ⟨jj, rfl⟩ := Int.eq_ofNat_of_zero_le hxb.1
            have hjjl : jj < l.length := by omega
            have hjji : (jj : Int) < (l.length : Int) := by omega
            have hslr := HSL5.out wr (hb512.trans (hon2.out.below.mono (by have := hb59.size; omega)))
            obtain ⟨bl, ol, r, rfl, hbl, hr, hr0, hr1, hr2, hr3⟩ := hslr.atR hjl
            obtain ⟨t, ht⟩ : ∃ t, ts[jj]? = some t := ⟨_, List.getElem?_eq_getElem (by rw [htl.out]; exact hjjl)⟩
            have cc : ∀ o u, (ruleE.cells t)[o]? = some u → wr.cell? ⟨w9.heap.size, jj * 4 + o, none⟩ = some u := fun o u h => by
              rw [hB2.cell]
              have := flat_get ruleE ts jj t ht o u h
              simpa [ruleE] using this
            have c0 := cc 0 (iv t.b) rfl
            have c1 := cc 1 (iv t.s) rfl
            have c2 := cc 2 (iv t.e) rfl
            have c3 := cc 3 (iv t.p) rfl
            have fz := hB2.frozen
            have hgl := hB2.lt
            have HBS := Lib.hid (blkR_set r hB2 (i := jj) (by rw [htl.out]; exact hjjl))
            have HTS : Hid (∀ (i : Nat) (x : Int) (q : Rule), i < j + 1 → os[i]? = some x → l[i]? = some q → (ts.set jj r)[x.toNat]? = some q) := fun i x q hi hox hlq => by
              by_cases e : i = j
              · subst e
                rw [hx] at hox
                injection hox with hox
                subst hox
                rw [hr] at hlq
                injection hlq with hlq
                subst hlq
                rw [Int.toNat_natCast, List.getElem?_set_self (by rw [htl.out]; exact hjjl)]
              · have h1 := hts.out i x q (by omega) hox hlq
                have hne : jj ≠ x.toNat := fun e2 => by
                  have hxb2 := order_mem HOSP.out (mem_at hox)
                  have hxe : x = (jj : Int) := by omega
                  rw [hxe] at hox
                  have hnd : os.Nodup := HOSP.out.nodup_iff.2 (upTo_nodup _)
                  obtain ⟨hi1, hi2⟩ := List.getElem?_eq_some_iff.1 hox
                  obtain ⟨hj1, hj2⟩ := List.getElem?_eq_some_iff.1 hx
                  exact e ((List.getElem_inj hnd).1 (hi2.trans hj2.symm))
                rw [List.getElem?_set_ne hne]
                exact h1
            have HON : Hid (Only w9.heap.size w12 ((((wr.setCell ⟨w9.heap.size, jj * 4, none⟩ (iv r.b)).setCell ⟨w9.heap.size, jj * 4 + 1, none⟩ (iv r.s)).setCell ⟨w9.heap.size, jj * 4 + 2, none⟩ (iv r.e)).setCell ⟨w9.heap.size, jj * 4 + 3, none⟩ (iv r.p))) := (((hon2.out.trans (Only.set_ _ _ _ _)).trans (Only.set_ _ _ _ _)).trans (Only.set_ _ _ _ _)).trans (Only.set_ _ _ _ _)
            rw [Nat.add_zero] at c0
            obtain ⟨ra, rb, rc, rd⟩ := r
            dsimp only at hr0 hr1 hr2 hr3
            clear hx hr ht cc hB2 hslr hts
            go_wp2_with fail
            go_roundw
            case rel => exact ⟨j + 1, ts.set jj ⟨ra, rb, rc, rd⟩, by omega, by go_num, HBS.out, (by show _ = _; rw [List.length_set]; exact htl.out), HTS, HON.out⟩
            case measure => simp [intOf]; omega
          · obtain rfl : j = l.length := by omega
            have hperm : l.Perm ts := turned_perm HOSP.out htl.out HOSL.out fun i x r h1 h2 => hts.out i x r (by have := (List.getElem?_eq_some_iff.1 h2).1; omega) h1 h2
            have hmt := HML.out.perm hperm
            have hdt : Price.differ l ts = (⟨0, 0, 0⟩, 6) := Price.differ_none fun p _ => Price.priced_perm hperm p
            have hst : Sl ruleE wr (some ⟨w9.heap.size, 0, none⟩) ts := (Own.ofBlk hB2 (Nat.le_refl _) (by rw [htl.out]; unfold maxLen; omega)).sl
            obtain ⟨w13, rfl⟩ : ∃ w13 : World, w13 = wr := ⟨_, rfl⟩
            have hb513 : Below w5.heap.size w5 w13 := hb512.trans (hon2.out.below.mono (by have := hb59.size; omega))
            have hb013 : Below w.heap.size w w13 := hb012.trans (hon2.out.below.mono (by have := hb09.size; omega))
            have HDT : Hid (Calls Try.prog 58 #[.slice Al l.length cl, .slice (some ⟨w9.heap.size, 0, none⟩) l.length l.length] w13 fun e w' => e = .returned (.tuple #[.agg #[iv 0, iv 0, iv 0], iv 6]) ∧ Below w13.heap.size w13 w') := by
              have := Differ_spec Al l cl (some ⟨w9.heap.size, 0, none⟩) ts l.length w13 (by unfold big; omega) hcl (HSL5.out w13 hb513) (by rw [htl.out]; unfold big; omega) (by rw [htl.out]; exact Nat.le_refl _) hst
              rw [Price.differOf_ok HCL.out (hmt.check (by omega)), hdt, htl.out] at this
              exact this
            have hz513 := hb513.size
            have hz013 := hb013.size
            clear hperm hmt hdt hst hB2 hts hon2 hso hsl12
            go_wp2_with fail
            refine HDT.out.mono ?_
            rintro e w14 ⟨rfl, hb14⟩
            have hb514 := hb513.next hb14 (Nat.le_refl _)
            have hb014 := hb013.next hb14 (Nat.le_refl _)
            by_cases hl0 : l.length = 0
            · have hl0' : ((l.length : Int) == 0) = true := by rw [hl0]; rfl
              have HA : Hid (∀ a : World, Calls Try.prog 20 #[] a fun e w' => e = .returned (.bool true) ∧ Below a.heap.size a w') := fun a => awake_spec a
              clear hl0
              go_wp2_with (go_at_call 20; refine (HA.out _).mono ?_; rintro e wz ⟨rfl, hwz⟩)
              go_ret
              exact ⟨rfl, hb014.next hwz.of_alloc (by have := hb014.size; omega)⟩
            · have hl0' : ((l.length : Int) == 0) = false := beq_eq_false_iff_ne.2 (by omega)
              obtain ⟨ii, hii⟩ : ∃ ii, ii = mn % l.length := ⟨_, rfl⟩
              have hil : ii < l.length := by rw [hii]; exact Nat.mod_lt _ (by omega)
              have hwm : IntKind.i64.wrap (mn : Int) = (mn : Int) := IntWalk.i64_in _ (by omega)
              have htl2 : (mn : Int).tmod (l.length : Int) = (ii : Int) := by rw [Int.tmod_eq_emod_of_nonneg (by omega), hii]; rfl
              have hml2 : (mn : Int) % (l.length : Int) = (ii : Int) := by rw [hii]; rfl
              have hn0 : ¬ (l.length : Int) = 0 := by omega
              have hii1 : IntKind.i64.wrap ((ii : Int) + 1) = (ii : Int) + 1 := IntWalk.i64_in _ (by omega)
              have HCLN : Hid (∀ W, Below w5.heap.size w5 W → Calls Try.prog 63 #[.slice Al l.length cl] W fun e w' => ∃ v, e = .returned v ∧ Own ruleE 27 W.heap.size w' v l ∧ Below W.heap.size W w') := fun W h => cloneR Al l cl W (by unfold big; omega) (HSL5.out W h)
              have hwa : Below w14.heap.size w14 (w14.alloc (.cells #[iv 0, iv 0, iv 0] 42)) := (Below.refl _ _).alloc (Nat.le_refl _) _
              clear hii hl0
              go_wp2_with fail
              generalize w14.alloc (.cells #[iv 0, iv 0, iv 0] 42) = w15 at *
              have hb515 := hb514.next hwa (by have := hb514.size; omega)
              have hb015 := hb014.next hwa (by have := hb014.size; omega)
              have HC1 := Lib.hid (HCLN.out w15 hb515)
              refine HC1.out.mono ?_
              rintro e w16 ⟨vc, rfl, hoc, hb16⟩
              have hb516 := hb515.next hb16 (by have := hb515.size; omega)
              have hb016 := hb015.next hb16 (by have := hb015.size; omega)
              have HDL : Hid (Calls Try.prog 62 #[vc, iv ii, iv ((ii : Int) + 1)] w16 fun e w' => ∃ v', e = .returned v' ∧ Own ruleE 27 w15.heap.size w' v' (l.eraseIdx ii) ∧ Below w15.heap.size w16 w') := del_spec ii (ii + 1) w16 hoc rfl hil (by omega)
              have hz15 := hb515.size
              have hz16 := hb16.size
              clear hoc HC1 HCLN hwa
              go_wp2_with fail
              refine HDL.out.mono ?_
              rintro e w17 ⟨vd, rfl, hod, hb17⟩
              have hb517 : Below w5.heap.size w5 w17 := hb516.trans (hb17.mono hz15)
              have hb017 : Below w.heap.size w w17 := hb016.trans (hb17.mono (by have := hb015.size; omega))
              obtain ⟨Ad, cd, rfl, hcd, _⟩ := hod.form
              have hme := HML.out.erase ii
              have hel : (l.eraseIdx ii).length ≤ 7 := hme.len
              have hsd := hod.sl
              obtain ⟨⟨ea, eb, ec⟩, hep⟩ : ∃ dp, dp = (Price.differ l (l.eraseIdx ii)).1 := ⟨_, rfl⟩
              obtain ⟨ee, hee⟩ : ∃ de, de = (Price.differ l (l.eraseIdx ii)).2 := ⟨_, rfl⟩
              have HWT : Hid (∀ W, Below w17.heap.size w17 W → Calls Try.prog 64 #[.slice Al l.length cl, iv ii] W fun e w' => e = .returned (.tuple #[.agg #[iv ea, iv eb, iv ec], iv ee]) ∧ Below W.heap.size W w') := fun W h => by
                have := Witness_spec Al l cl (ii : Int) W (by unfold big; omega) hcl (HSL5.out W (hb517.next h (by have := hb517.size; omega))) (by omega)
                rw [show Price.witnessOf l (ii : Int) = Price.differ l (l.eraseIdx ii) by
                  unfold Price.witnessOf
                  rw [if_pos HCL.out, if_pos (by omega), Int.toNat_natCast], ← hep, ← hee] at this
                exact this
              have HDF : Hid (∀ W, Below w17.heap.size w17 W → Calls Try.prog 58 #[.slice Al l.length cl, .slice Ad (l.eraseIdx ii).length cd] W fun e w' => e = .returned (.tuple #[.agg #[iv ea, iv eb, iv ec], iv ee]) ∧ Below W.heap.size W w') := fun W h => by
                have := Differ_spec Al l cl Ad (l.eraseIdx ii) cd W (by unfold big; omega) hcl (HSL5.out W (hb517.next h (by have := hb517.size; omega))) (by unfold big; omega) hcd (hsd.below h)
                rw [Price.differOf_ok HCL.out (hme.check (by omega)), ← hep, ← hee] at this
                exact this
              have HEE : Hid (ee = 0 ∨ ee = 6) := by rw [hee]; exact Price.differ_err _ _
              have HTM : Hid (Price.times l ii Price.allPieces = 0 → ee = 6) := fun h => by rw [hee, Price.idle_witness hil h]
              clear hep hee hod hb515 hb015 hb516 hb016 hb17 HDL hme hb513 hb013 hb514 hb014 hb14 hb16 HDT
              have HW1 := Lib.hid (HWT.out w17 (Below.refl _ _))
              go_wp2_with fail
              refine HW1.out.mono ?_
              rintro e w18 ⟨rfl, hb18⟩
              have hBw : Blk (w18.alloc (.cells #[iv ea, iv eb, iv ec] 42)) w18.heap.size 42 #[iv ea, iv eb, iv ec] := Blk.new _ _ _
              have hwa2 : Below w18.heap.size w18 (w18.alloc (.cells #[iv ea, iv eb, iv ec] 42)) := (Below.refl _ _).alloc (Nat.le_refl _) _
              go_wp2_with fail
              generalize w18.alloc (.cells #[iv ea, iv eb, iv ec] 42) = w19 at *
              have hb1719 := hb18.next hwa2 (Nat.le_refl _)
              have HF1 := Lib.hid (HDF.out w19 hb1719)
              clear HW1 HWT HDF hb18 hwa2
              refine HF1.out.mono ?_
              rintro e w20 ⟨rfl, hb20⟩
              have hBw20 := hBw.under hb20
              have hb1720 := hb1719.next hb20 (Nat.le_refl _)
              have hBv : Blk (w20.alloc (.cells #[iv ea, iv eb, iv ec] 42)) w20.heap.size 42 #[iv ea, iv eb, iv ec] := Blk.new _ _ _
              have hwa3 : Below w20.heap.size w20 (w20.alloc (.cells #[iv ea, iv eb, iv ec] 42)) := (Below.refl _ _).alloc (Nat.le_refl _) _
              go_wp2_with fail
              generalize w20.alloc (.cells #[iv ea, iv eb, iv ec] 42) = w21 at *
              have hb1721 := hb1720.next hwa3 (Nat.le_refl _)
              have hBw21 := hBw20.under hwa3
              have hb521 := hb517.next hb1721 (Nat.le_refl _)
              have hb021 := hb017.next hb1721 (Nat.le_refl _)
              have HID := Lib.hid (idle_spec Al l cl w21 (by unfold big; omega) hcl (HSL5.out w21 hb521))
              rw [show Price.idleOf l = (Price.idleFrom (Price.busyOf l Price.allPieces) 0, 0) by unfold Price.idleOf; rw [if_pos HCL.out]] at HID
              clear HF1 hBw hBw20 hb20 hb1719 hb1720 hwa3
              refine HID.out.mono ?_
              rintro e w22 ⟨vi, rfl, hoi, hb22⟩
              have HCT := Lib.hid (Price.idle_contains l hil)
              have hidl : (Price.idleFrom (Price.busyOf l Price.allPieces) 0).length ≤ 7 := by
                have := Price.idleFrom_length (Price.busyOf l Price.allPieces) 0
                rw [Price.busyOf_length] at this; omega
              have hidr : Rising (Price.idleFrom (Price.busyOf l Price.allPieces) 0) := rising_of2 fun k x y => Price.idleFrom_rises _ 0 k x y
              obtain ⟨id, hid⟩ : ∃ id, id = Price.idleFrom (Price.busyOf l Price.allPieces) 0 := ⟨_, rfl⟩
              rw [← hid] at hoi HCT hidl hidr
              obtain ⟨Ai, ci, hvi, _, _⟩ := hoi.form
              subst hvi
              have hsi := hoi.sl
              have hBw22 := hBw21.under hb22
              have hBv22 := hBv.under hb22
              have heq : ∀ w, (Op.equalIn 10000 42 (.agg #[iv ea, iv eb, iv ec]) (.agg #[iv ea, iv eb, iv ec])).run Try.prog w = .ok true w := fun w => by have := eqPiece ea eb ec ea eb ec w; simpa using this
              have hb022 := hb021.next hb22 (Nat.le_refl _)
              have HSO : Hid (∀ W, Below w22.heap.size w22 W → Calls Try.prog 67 #[.slice Ai id.length ci] W fun e w' => e = .returned (.bool true) ∧ Below W.heap.size W w') := fun W h => sortedI Ai id ci W (by unfold big; omega) (hsi.below h) hidr
              have HCO : Hid (∀ W, Below w22.heap.size w22 W → Calls Try.prog 66 #[.slice Ai id.length ci, iv ii] W fun e w' => e = .returned (.bool (id.contains (ii : Int))) ∧ W = w') := fun W h => contains2I Ai id ci (ii : Int) W (by unfold big; omega) (hsi.below h)
              have HA : Hid (∀ a : World, Calls Try.prog 20 #[] a fun e w' => e = .returned (.bool true) ∧ Below a.heap.size a w') := fun a => awake_spec a
              have q0 := hBw22.cell
              have q1 := hBw22.lt
              have q2 := hBv22.cell
              have q3 := hBv22.lt
              clear hid hidr hoi hBw21 hBv HID hsi
              rcases HEE.out with rfl | rfl
              · have hcf : id.contains (ii : Int) = false := by
                  rw [HCT.out, decide_eq_false_iff_not]
                  intro h
                  have := HTM.out h
                  omega
                rw [hcf] at HCO
                have HC1 := Lib.hid (HCO.out w22 (Below.refl _ _))
                have HS1 := Lib.hid (HSO.out w22 (Below.refl _ _))
                clear HCT HTM hcf HCO HSO
                go_wp2_with (first
                  | (go_at_call 66; refine HC1.out.mono ?_; rintro e wc2 ⟨rfl, rfl⟩)
                  | (go_at_call 67; refine HS1.out.mono ?_; rintro e wd2 ⟨rfl, hwd2⟩)
                  | (go_at_call 20; refine (HA.out _).mono ?_; rintro e we2 ⟨rfl, hwe2⟩))
                go_ret
                exact ⟨rfl, (hb022.next hwd2 (Nat.le_refl _)).next hwe2 (Nat.le_refl _)⟩
              · have HS1 := Lib.hid (HSO.out w22 (Below.refl _ _))
                clear HCT HTM HCO HSO
                go_wp2_with (first
                  | (go_at_call 67; refine HS1.out.mono ?_; rintro e wd2 ⟨rfl, hwd2⟩)
                  | (go_at_call 20; refine (HA.out _).mono ?_; rintro e we2 ⟨rfl, hwe2⟩))
                go_ret
                exact ⟨rfl, (hb022.next hwd2 (Nat.le_refl _)).next hwe2 (Nat.le_refl _)⟩
end Go.Proofs.Ytblmlpkjocbhpaa
