/- FileParted: the walk. Condition: the library's table of powers of ten lies as the program's text lays it. -/
import Derived.Test.YtkhmkpcihphkcaaDoorChangeF
import Derived.Test.YtkhmkpcihphkcaaDoorFlY
import Derived.Test.YtkhmkpcihphkcaaDoorFilePart
import Derived.Test.YtkhmkpcihphkcaaDoorFree
set_option linter.unusedVariables false
set_option linter.unusedSimpArgs false
namespace Go.Proofs.YtkhmkpcihphkcaaDoor
namespace Fl
open Go.RowKit Go.Shelf
set_option maxRecDepth 100000
theorem stepF_un {P : Program} {ops : Array Oper} {o : Oper} {a : Act} {w : World} {K : Value → World → Prop} (hw : Region.wanted o (yielded ops a.tmps) = false) (hK : K undef w) : StepF P ops o a w K := by
  refine ⟨?_⟩; unfold StepG; rw [if_neg (by rw [hw]; decide)]; exact hK
set_option maxHeartbeats 1000000 in
theorem indexW (A : Option Addr) (l : List ByteArray) (c : Nat) (s : ByteArray) (w : World) (hm : l.length ≤ big) (hs : Sl strE w A l) :
    Calls Tryd.prog 86 #[.slice A l.length c, .string s] w fun e w' => e = .returned (iv (findFrom (fun x => decide (s = x)) l 0)) ∧ Below w.heap.size w w' := by
  unfold big at hm
  obtain ⟨r, hr⟩ : ∃ r, r = findFrom (fun x => decide (s = x)) l 0 := ⟨_, rfl⟩
  rw [← hr]
  go_enter Tryd.func86, Tryd.ntmps86
  go_wp2
  go_loopw [5, 8] (fun _ i wr => ∃ (k : Nat), k ≤ l.length ∧ i = iv k ∧ Hid (findFrom (fun x => decide (s = x)) (l.drop k) k = r) ∧ Below w.heap.size w wr) (fun _ i _ => l.length - (intOf i).toNat)
  case atStart => exact ⟨0, by omega, rfl, hr.symm, Below.refl _ _⟩
  case round =>
    obtain ⟨k, hk, rfl, hf, hbw⟩ := hrel
    by_cases hlt : k < l.length
    · obtain ⟨b, off, p, rfl, hb, hp, hp0⟩ := Sl.atS (hs.below hbw) hlt
      have hli : (k : Int) < (l.length : Int) := by omega
      have hd := hf.out
      rw [drop_at hp] at hd
      simp only [findFrom] at hd
      have HD := Lib.hid hd
      have hsq := str_eq s p
      clear hd hp hf hs
      by_cases hpq : s = p
      · rw [decide_eq_true hpq] at hsq
        have HPQ := Lib.hid hpq
        clear hpq
        go_wp2
        go_ret
        exact ⟨ret_eq (by rw [← HD.out, if_pos (decide_eq_true HPQ.out)]; rfl), hbw⟩
      · rw [decide_eq_false hpq] at hsq
        have HPQ := Lib.hid hpq
        clear hpq
        go_wp2
        go_roundw
        case rel => exact ⟨k + 1, by omega, by go_num, by have := HD.out; rw [if_neg (by simpa using HPQ.out)] at this; exact this, hbw⟩
        case measure => simp [intOf]; omega
    · have hd := hf.out
      rw [drop_end hlt] at hd
      have HD := Lib.hid hd
      clear hd
      go_wp2
      go_ret
      exact ⟨ret_eq (by rw [← HD.out]; rfl), hbw⟩
theorem containsW (A : Option Addr) (l : List ByteArray) (c : Nat) (s : ByteArray) (w : World) (hm : l.length ≤ big) (hs : Sl strE w A l) :
    Calls Tryd.prog 33 #[.slice A l.length c, .string s] w fun e w' => e = .returned (.bool (l.any fun x => decide (s = x))) ∧ Below w.heap.size w w' := by
  go_enter Tryd.func33, Tryd.ntmps33
  go_wp2_with fail
  refine (indexW A l c s w hm hs).mono ?_
  rintro e w1 ⟨rfl, hb1⟩
  go_wp2_with fail
  go_ret
  exact ⟨ret_eq (by rw [← findFrom_nonneg _ l 0 (by omega)]; rfl), hb1⟩
theorem good12 {xs : List ByteArray} (hl : xs.length ≤ 24) (h : ∀ s ∈ xs, LnOk s) : File.check xs = 0 := check_of_good ⟨hl, fun s hs => (h s hs).2, fun s hs => (h s hs).1⟩
theorem mk12p (g : Nat) (w : World) (h : IsSpool (g + 1) w g 0) : Calls Tryd.prog 16 #[.pointer (some ⟨g, 0, none⟩), .int .i64 12] w fun e w' => ∃ (v : Value) (xs : List ByteArray), e = .returned v ∧ Own strE 9 w.heap.size w' v xs ∧ xs.length ≤ 12 ∧ (∀ s ∈ xs, LnOk s) ∧ Only g w w' := by
  have := mk_spec (g + 1) w g 0 12 h (Nat.zero_lt_succ _) (by decide)
  refine this.mono ?_
  rintro e w' ⟨v, xs, k', rfl, h1, h2, h3, _, _, h4⟩
  exact ⟨v, xs, rfl, h1, h2, h3, h4⟩
theorem changed4 (g : Nat) (w : World) (A : Option Addr) (f : List ByteArray) (c : Nat) (h : IsSpool (g + 1) w g 0) (hs : Sl strE w A f) (hf : f.length ≤ 21) (hok : ∀ s ∈ f, LnOk s) :
    Calls Tryd.prog 45 #[.pointer (some ⟨g, 0, none⟩), .slice A f.length c, .int .i64 4] w fun e w' => ∃ (v : Value) (xs : List ByteArray), e = .returned v ∧ Own strE 9 w.heap.size w' v xs ∧ xs.length ≤ 21 ∧ (∀ s ∈ xs, LnOk s) ∧ Only g w w' := by
  have := changed_spec (g + 1) w g 0 4 A f c h (by omega) (by omega) hs hf hok
  refine this.mono ?_
  rintro e w' ⟨v, xs, k', rfl, h1, h2, h3, _, _, h4⟩
  exact ⟨v, xs, rfl, h1, h2, h3, h4⟩
theorem ans_of {base a b : List ByteArray} (h0 : File.check base = 0) (h1 : File.check a = 0) (h2 : File.check b = 0) : File.joinAns base a b = if 24 < (File.join base a b).1.length then (2, [], []) else (0, (File.join base a b).1, (File.join base a b).2) := by
  unfold File.joinAns
  rw [if_neg (by simp [h0]), if_neg (by unfold errOf; rw [if_pos h1]; simp [h2])]
set_option maxHeartbeats 8000000 in
theorem parted_law (A : Option Addr) (bs : List Int) (c : Nat) (A' : Option Addr) (bs' : List Int) (c' : Nat) (A'' : Option Addr) (bs'' : List Int) (c'' : Nat) (w : World) (hs : Sl byteE w A bs) (hs' : Sl byteE w A' bs') (hs'' : Sl byteE w A'' bs'') (ht : Tab w) :
    Calls Tryd.prog 9 #[.slice A bs.length c, .slice A' bs'.length c', .slice A'' bs''.length c''] w fun e w' => e = .returned (.bool true) ∧ Below w.heap.size w w' := by
  have HT := Lib.hid ht
  have HAW : Hid (∀ W, Below w.heap.size w W → Calls Tryd.prog 12 #[] W fun e w' => e = .returned (.bool true) ∧ Below W.heap.size W w') := Lib.hid fun W h => awake_spec W (HT.out.below h)
  clear ht
  go_enter Tryd.func9, Tryd.ntmps9
  go_wp2_with fail
  refine (wound_spec A bs c w hs).mono ?_
  rintro e w1 ⟨_, rfl, rfl, hsp1, hb1⟩
  go_wp2_with fail
  refine (mk12p w.heap.size w1 hsp1).mono ?_
  rintro e w2 ⟨v, base, rfl, hoB, hBl, hBg, hon2⟩
  obtain ⟨Ab, cb, rfl, hcb, _⟩ := hoB.form
  have hb02 : Below w.heap.size w w2 := hb1.trans (hon2.below.mono (Nat.le_refl _))
  go_wp2_with fail
  refine (wound_spec A' bs' c' w2 (hs'.below hb02)).mono ?_
  rintro e w3 ⟨_, rfl, rfl, hsp3, hb3⟩
  have hb03 := hb02.next hb3 (Nat.le_refl _)
  have hoB3 := hoB.below hb3
  go_wp2_with fail
  refine (changed4 w2.heap.size w3 Ab base cb hsp3 hoB3.sl (by omega) hBg).mono ?_
  rintro e w4 ⟨v, a, rfl, hoA, hAl, hAg, hon4⟩
  obtain ⟨Aa, ca, rfl, hca, _⟩ := hoA.form
  have hb04 : Below w.heap.size w w4 := hb03.trans (hon4.below.mono hb02.size)
  have hoB4 := hoB3.keep hon4.below.size fun b hb => hon4.other b (hoB3.lt b hb).2 (by have := (hoB.lt b hb).2; omega)
  go_wp2_with fail
  refine (wound_spec A'' bs'' c'' w4 (hs''.below hb04)).mono ?_
  rintro e w5 ⟨_, rfl, rfl, hsp5, hb5⟩
  have hb05 := hb04.next hb5 (Nat.le_refl _)
  have hoB5 := hoB4.below hb5
  have hoA5 := hoA.below hb5
  go_wp2_with fail
  refine (changed4 w4.heap.size w5 Ab base cb hsp5 hoB5.sl (by omega) hBg).mono ?_
  rintro e w6 ⟨v, b, rfl, hoC, hCl, hCg, hon6⟩
  obtain ⟨Ac, c2, rfl, hcc2, _⟩ := hoC.form
  have hb06 : Below w.heap.size w w6 := hb05.trans (hon6.below.mono hb04.size)
  have hoB6 := hoB5.keep hon6.below.size fun b hb => hon6.other b (hoB5.lt b hb).2 (by have := (hoB4.lt b hb).2; omega)
  have hoA6 := hoA5.keep hon6.below.size fun b hb => hon6.other b (hoA5.lt b hb).2 (by have := (hoA.lt b hb).2; omega)
  have HSB := Lib.hid fun W (h : Below w6.heap.size w6 W) => hoB6.sl.below h
  have HSA := Lib.hid fun W (h : Below w6.heap.size w6 W) => hoA6.sl.below h
  have HSC := Lib.hid fun W (h : Below w6.heap.size w6 W) => hoC.sl.below h
  have hk0 := good12 (by omega) hBg
  have hk1 := good12 (by omega) hAg
  have hk2 := good12 (by omega) hCg
  have hbB : base.length ≤ big := by unfold big; omega
  have hbA : a.length ≤ big := by unfold big; omega
  have hbC : b.length ≤ big := by unfold big; omega
  have HJ := Lib.hid (Join_spec Ab base cb Aa a ca Ac b c2 w6 hbB hbA hbC hcb hca hcc2 (HSB.out w6 (Below.refl _ _)) (HSA.out w6 (Below.refl _ _)) (HSC.out w6 (Below.refl _ _)))
  rw [ans_of hk0 hk1 hk2] at HJ
  have HMEM := Lib.hid fun (s : ByteArray) => File.join_mem (base := base) (a := a) (b := b) (s := s)
  have HPARTS := Lib.hid (File.join_parts base a b)
  have HN : Hid (∀ W, Below w6.heap.size w6 W → Calls Tryd.prog 21 #[.slice none 0 0, .slice Aa a.length ca, .slice Ac b.length c2] W fun e w' => ∃ v0 v1, e = .returned (.tuple #[v0, v1, iv 0]) ∧ Own strE 9 W.heap.size w' v0 (File.join [] a b).1 ∧ Own pairE 44 W.heap.size w' v1 (File.join [] a b).2 ∧ Below W.heap.size W w') := Lib.hid fun W hW => by
    have h := Join_spec none [] 0 Aa a ca Ac b c2 W (by simp [big]) hbA hbC (Nat.zero_le _) hca hcc2 (fun h => absurd rfl h) (HSA.out W hW) (HSC.out W hW)
    have hl : ¬ 24 < (File.join [] a b).1.length := by
      by_cases h1 : a = []
      · rw [h1, File.join_emptyA]; simp only; omega
      · by_cases h2 : b = []
        · rw [h2, File.join_base]; simp only; omega
        · by_cases h3 : a = b
          · rw [h3, File.join_same]; simp only; omega
          · rw [File.join_empty h1 h2 h3]; simp
    rw [ans_of (good12 (by simp) (fun s h => by cases h)) hk1 hk2, if_neg hl] at h
    exact h
  have HN2 : Hid ((a = [] → File.join [] a b = (b, [])) ∧ (a = b → File.join [] a b = (b, [])) ∧ (b = [] → File.join [] a b = (a, [])) ∧ (a ≠ [] → b ≠ [] → a ≠ b → File.join [] a b = ([], [(0, 0)]))) := Lib.hid ⟨fun h => by rw [h]; exact File.join_emptyA b, fun h => by rw [h]; exact File.join_same [] b, fun h => by rw [h]; exact File.join_base [] a, File.join_empty⟩
  generalize File.join base a b = JC at *
  generalize File.join [] a b = PN at *
  clear hs hs' hs'' hsp1 hsp3 hsp5 hon2 hon4 hon6 hb1 hb3 hb5 hb02 hb03 hb04 hb05 hoB hoB3 hoB4 hoB5 hoB6 hoA hoA5 hoA6 hoC hBg hAg hCg hk0 hk1 hk2 hcb hca hcc2
  by_cases h24 : 24 < JC.1.length
  · rw [if_pos h24] at HJ
    clear h24
    go_wp2_with fail
    refine HJ.out.mono ?_
    rintro e w7 ⟨v0, v1, rfl, ho0, ho1, hb7⟩
    obtain ⟨A0, c0, rfl, _, _⟩ := ho0.form
    obtain ⟨A1, c1, rfl, _, _⟩ := ho1.form
    have hb07 := hb06.next hb7 (Nat.le_refl _)
    clear ho0 ho1 HJ
    go_wp2_with fail
    refine (HAW.out _ hb07).mono ?_
    rintro _ wz ⟨rfl, hbz⟩
    go_wp2_with fail
    go_ret
    exact ⟨rfl, (hb07).next hbz (Nat.le_refl _)⟩
  · rw [if_neg h24] at HJ
    obtain ⟨J, C⟩ := JC
    simp only at h24 HJ HMEM HPARTS
    have hC13 : C.length ≤ 13 := by
      by_cases h : C = []
      · rw [h]; simp
      · have := File.parts_len HPARTS.out h; omega
    go_wp2_with fail
    refine HJ.out.mono ?_
    rintro e w7 ⟨v0, v1, rfl, ho0, ho1, hb7⟩
    obtain ⟨A0, c0, rfl, _, _⟩ := ho0.form
    obtain ⟨A1, cc, rfl, _, _⟩ := ho1.form
    have hb07 := hb06.next hb7 (Nat.le_refl _)
    have HO0 := Lib.hid ho0.sl
    have HO1 := Lib.hid ho1.sl
    clear ho0 ho1 HJ
    go_wp2_with fail
    go_loopw [13, 14, 55] (fun _ _ i wr => ∃ k : Nat, k ≤ C.length ∧ i = iv k ∧ Below w7.heap.size w7 wr) (fun _ _ i _ => C.length - (intOf i).toNat)
    case atStart => exact ⟨0, by omega, rfl, Below.refl _ _⟩
    case round =>
      obtain ⟨k, hk, rfl, hbr⟩ := hrel
      by_cases hlt : k < C.length
      · have hki : (k : Int) < (C.length : Int) := by omega
        obtain ⟨b0, off, x, hA1, hb0, hx, hc0, hc1⟩ := Sl.atPr (HO1.out.below hbr) hlt
        subst hA1
        obtain ⟨p1, p2, p3⟩ := File.parts_at HPARTS.out hx
        obtain ⟨lo, hi⟩ := x
        simp only at p1 p2 p3 hc0 hc1
        have hbM : Below wr.heap.size wr (wr.alloc (.cells #[iv (lo : Int), iv (hi : Int)] 44)) := (Below.refl _ _).alloc (Nat.le_refl _) _
        have HBX : Hid (Blk (wr.alloc (.cells #[iv (lo : Int), iv (hi : Int)] 44)) wr.heap.size 44 #[iv (lo : Int), iv (hi : Int)]) := Lib.hid (Blk.new _ _ _)
        go_upto_region 9 with fail
        generalize wr.alloc (.cells #[iv (lo : Int), iv (hi : Int)] 44) = wM at *
        have q1 : ¬ (lo : Int) < 0 := by omega
        have q2 : ¬ (hi : Int) < (lo : Int) := by omega
        have q3 : ¬ (base.length : Int) < (hi : Int) := by omega
        by_cases hkz : k = 0
        · have q4 : ¬ (0 : Int) < (k : Int) := by omega
          clear hkz hc0 hc1
          refine wp_free_lit (by kernel_rfl) 32 (by kernel_rfl) (by kernel_rfl) (by decide) (fun _ x => Below wM.heap.size wM x) (fun x x' => Below x.heap.size x x')
            [fun _ u _ => u = .pointer (some ⟨wr.heap.size, 0, none⟩),
             fun _ u _ => u = iv (lo : Int),
             fun _ u _ => u = .bool false,
             fun _ u _ => u = .bool false,
             fun _ u _ => u = .pointer (some ⟨wr.heap.size, 1, none⟩),
             fun _ u _ => u = iv (hi : Int),
             fun _ u _ => u = .pointer (some ⟨wr.heap.size, 0, none⟩),
             fun _ u _ => u = iv (lo : Int),
             fun _ u _ => u = .bool false,
             fun _ u _ => u = .bool false,
             fun _ u _ => u = .bool false,
             fun _ u _ => u = .pointer (some ⟨wr.heap.size, 1, none⟩),
             fun _ u _ => u = iv (hi : Int),
             fun _ u _ => u = .slice Ab base.length cb,
             fun _ u _ => u = iv (base.length : Int),
             fun _ u _ => u = .bool false,
             fun _ u _ => u = .bool false,
             fun _ u _ => u = .bool false,
             fun _ u _ => u = iv (k : Int),
             fun _ u _ => u = .bool false,
             fun _ u _ => u = .bool false,
             fun _ u _ => u = undef,
             fun _ u _ => u = undef,
             fun _ u _ => u = undef,
             fun _ u _ => u = undef,
             fun _ u _ => u = undef,
             fun _ u _ => u = undef,
             fun _ u _ => u = undef,
             fun _ u _ => u = undef,
             fun _ u _ => u = undef,
             fun _ u _ => u = .bool false,
             fun _ u _ => u = .bool false]
            (Below.refl _ wM).drew ?_ ?_
          · simp only [List.take_succ_cons, List.take_zero, HopL]
            refine ⟨?_, ?_, ?_, ?_, ?_, ?_, ?_, ?_, ?_, ?_, ?_, ?_, ?_, ?_, ?_, ?_, ?_, ?_, ?_, ?_, ?_, ?_, ?_, ?_, ?_, ?_, ?_, ?_, ?_, ?_, ?_, ?_, trivial⟩
            · refine ⟨fun _ _ _ _ _ h => h, fun _ _ _ _ h _ => h, fun v n x hn hR hk => ?_⟩
              simp only [List.take_succ_cons, List.take_zero, frameF, Act.put, List.setIfInBounds_toArray, List.set_cons_zero, List.set_cons_succ]
              exact stepF_val (by first | rfl | simp [Region.wanted, yielded, *]) (by go_simp <;> omega) ⟨rfl, Below.refl _ _, hR⟩
            · refine ⟨fun _ _ _ _ _ h => h, fun _ _ _ _ h _ => h, fun v n x hn hR hk => ?_⟩
              have h0 : v 0 = .pointer (some ⟨wr.heap.size, 0, none⟩) := hk 0 (by kernel_rfl)
              have y0 := (Blk.under HBX.out hR).cell 0
              have y1 := (Blk.under HBX.out hR).cell 1
              simp only [List.take_succ_cons, List.take_zero, frameF, Act.put, List.setIfInBounds_toArray, List.set_cons_zero, List.set_cons_succ]
              exact stepF_val (by first | rfl | simp [Region.wanted, yielded, *]) (by go_simp <;> omega) ⟨rfl, Below.refl _ _, hR⟩
            · refine ⟨fun _ _ _ _ _ h => h, fun _ _ _ _ h _ => h, fun v n x hn hR hk => ?_⟩
              have h1 : v 1 = iv (lo : Int) := hk 1 (by kernel_rfl)
              simp only [List.take_succ_cons, List.take_zero, frameF, Act.put, List.setIfInBounds_toArray, List.set_cons_zero, List.set_cons_succ]
              exact stepF_val (by first | rfl | simp [Region.wanted, yielded, *]) (by go_simp <;> omega) ⟨rfl, Below.refl _ _, hR⟩
            · refine ⟨fun _ _ _ _ _ h => h, fun _ _ _ _ h _ => h, fun v n x hn hR hk => ?_⟩
              have h2 : v 2 = .bool false := hk 2 (by kernel_rfl)
              simp only [List.take_succ_cons, List.take_zero, frameF, Act.put, List.setIfInBounds_toArray, List.set_cons_zero, List.set_cons_succ]
              exact stepF_val (by first | rfl | simp [Region.wanted, yielded, *]) (by go_simp <;> omega) ⟨rfl, Below.refl _ _, hR⟩
            · refine ⟨fun _ _ _ _ _ h => h, fun _ _ _ _ h _ => h, fun v n x hn hR hk => ?_⟩
              have h3 : v 3 = .bool false := hk 3 (by kernel_rfl)
              simp only [List.take_succ_cons, List.take_zero, frameF, Act.put, List.setIfInBounds_toArray, List.set_cons_zero, List.set_cons_succ]
              exact stepF_val (by first | rfl | simp [Region.wanted, yielded, *]) (by go_simp <;> omega) ⟨rfl, Below.refl _ _, hR⟩
            · refine ⟨fun _ _ _ _ _ h => h, fun _ _ _ _ h _ => h, fun v n x hn hR hk => ?_⟩
              have h3 : v 3 = .bool false := hk 3 (by kernel_rfl)
              have h4 : v 4 = .pointer (some ⟨wr.heap.size, 1, none⟩) := hk 4 (by kernel_rfl)
              have y0 := (Blk.under HBX.out hR).cell 0
              have y1 := (Blk.under HBX.out hR).cell 1
              simp only [List.take_succ_cons, List.take_zero, frameF, Act.put, List.setIfInBounds_toArray, List.set_cons_zero, List.set_cons_succ]
              exact stepF_val (by first | rfl | simp [Region.wanted, yielded, *]) (by go_simp <;> omega) ⟨rfl, Below.refl _ _, hR⟩
            · refine ⟨fun _ _ _ _ _ h => h, fun _ _ _ _ h _ => h, fun v n x hn hR hk => ?_⟩
              have h3 : v 3 = .bool false := hk 3 (by kernel_rfl)
              simp only [List.take_succ_cons, List.take_zero, frameF, Act.put, List.setIfInBounds_toArray, List.set_cons_zero, List.set_cons_succ]
              exact stepF_val (by first | rfl | simp [Region.wanted, yielded, *]) (by go_simp <;> omega) ⟨rfl, Below.refl _ _, hR⟩
            · refine ⟨fun _ _ _ _ _ h => h, fun _ _ _ _ h _ => h, fun v n x hn hR hk => ?_⟩
              have h3 : v 3 = .bool false := hk 3 (by kernel_rfl)
              have h6 : v 6 = .pointer (some ⟨wr.heap.size, 0, none⟩) := hk 6 (by kernel_rfl)
              have y0 := (Blk.under HBX.out hR).cell 0
              have y1 := (Blk.under HBX.out hR).cell 1
              simp only [List.take_succ_cons, List.take_zero, frameF, Act.put, List.setIfInBounds_toArray, List.set_cons_zero, List.set_cons_succ]
              exact stepF_val (by first | rfl | simp [Region.wanted, yielded, *]) (by go_simp <;> omega) ⟨rfl, Below.refl _ _, hR⟩
            · refine ⟨fun _ _ _ _ _ h => h, fun _ _ _ _ h _ => h, fun v n x hn hR hk => ?_⟩
              have h3 : v 3 = .bool false := hk 3 (by kernel_rfl)
              have h5 : v 5 = iv (hi : Int) := hk 5 (by kernel_rfl)
              have h7 : v 7 = iv (lo : Int) := hk 7 (by kernel_rfl)
              simp only [List.take_succ_cons, List.take_zero, frameF, Act.put, List.setIfInBounds_toArray, List.set_cons_zero, List.set_cons_succ]
              exact stepF_val (by first | rfl | simp [Region.wanted, yielded, *]) (by go_simp <;> omega) ⟨rfl, Below.refl _ _, hR⟩
            · refine ⟨fun _ _ _ _ _ h => h, fun _ _ _ _ h _ => h, fun v n x hn hR hk => ?_⟩
              have h3 : v 3 = .bool false := hk 3 (by kernel_rfl)
              have h8 : v 8 = .bool false := hk 8 (by kernel_rfl)
              simp only [List.take_succ_cons, List.take_zero, frameF, Act.put, List.setIfInBounds_toArray, List.set_cons_zero, List.set_cons_succ]
              exact stepF_val (by first | rfl | simp [Region.wanted, yielded, *]) (by go_simp <;> omega) ⟨rfl, Below.refl _ _, hR⟩
            · refine ⟨fun _ _ _ _ _ h => h, fun _ _ _ _ h _ => h, fun v n x hn hR hk => ?_⟩
              have h9 : v 9 = .bool false := hk 9 (by kernel_rfl)
              simp only [List.take_succ_cons, List.take_zero, frameF, Act.put, List.setIfInBounds_toArray, List.set_cons_zero, List.set_cons_succ]
              exact stepF_val (by first | rfl | simp [Region.wanted, yielded, *]) (by go_simp <;> omega) ⟨rfl, Below.refl _ _, hR⟩
            · refine ⟨fun _ _ _ _ _ h => h, fun _ _ _ _ h _ => h, fun v n x hn hR hk => ?_⟩
              have h10 : v 10 = .bool false := hk 10 (by kernel_rfl)
              simp only [List.take_succ_cons, List.take_zero, frameF, Act.put, List.setIfInBounds_toArray, List.set_cons_zero, List.set_cons_succ]
              exact stepF_val (by first | rfl | simp [Region.wanted, yielded, *]) (by go_simp <;> omega) ⟨rfl, Below.refl _ _, hR⟩
            · refine ⟨fun _ _ _ _ _ h => h, fun _ _ _ _ h _ => h, fun v n x hn hR hk => ?_⟩
              have h10 : v 10 = .bool false := hk 10 (by kernel_rfl)
              have h11 : v 11 = .pointer (some ⟨wr.heap.size, 1, none⟩) := hk 11 (by kernel_rfl)
              have y0 := (Blk.under HBX.out hR).cell 0
              have y1 := (Blk.under HBX.out hR).cell 1
              simp only [List.take_succ_cons, List.take_zero, frameF, Act.put, List.setIfInBounds_toArray, List.set_cons_zero, List.set_cons_succ]
              exact stepF_val (by first | rfl | simp [Region.wanted, yielded, *]) (by go_simp <;> omega) ⟨rfl, Below.refl _ _, hR⟩
            · refine ⟨fun _ _ _ _ _ h => h, fun _ _ _ _ h _ => h, fun v n x hn hR hk => ?_⟩
              have h10 : v 10 = .bool false := hk 10 (by kernel_rfl)
              simp only [List.take_succ_cons, List.take_zero, frameF, Act.put, List.setIfInBounds_toArray, List.set_cons_zero, List.set_cons_succ]
              exact stepF_val (by first | rfl | simp [Region.wanted, yielded, *]) (by go_simp <;> omega) ⟨rfl, Below.refl _ _, hR⟩
            · refine ⟨fun _ _ _ _ _ h => h, fun _ _ _ _ h _ => h, fun v n x hn hR hk => ?_⟩
              have h10 : v 10 = .bool false := hk 10 (by kernel_rfl)
              have h13 : v 13 = .slice Ab base.length cb := hk 13 (by kernel_rfl)
              simp only [List.take_succ_cons, List.take_zero, frameF, Act.put, List.setIfInBounds_toArray, List.set_cons_zero, List.set_cons_succ]
              exact stepF_val (by first | rfl | simp [Region.wanted, yielded, *]) (by go_simp <;> omega) ⟨rfl, Below.refl _ _, hR⟩
            · refine ⟨fun _ _ _ _ _ h => h, fun _ _ _ _ h _ => h, fun v n x hn hR hk => ?_⟩
              have h10 : v 10 = .bool false := hk 10 (by kernel_rfl)
              have h12 : v 12 = iv (hi : Int) := hk 12 (by kernel_rfl)
              have h14 : v 14 = iv (base.length : Int) := hk 14 (by kernel_rfl)
              simp only [List.take_succ_cons, List.take_zero, frameF, Act.put, List.setIfInBounds_toArray, List.set_cons_zero, List.set_cons_succ]
              exact stepF_val (by first | rfl | simp [Region.wanted, yielded, *]) (by go_simp <;> omega) ⟨rfl, Below.refl _ _, hR⟩
            · refine ⟨fun _ _ _ _ _ h => h, fun _ _ _ _ h _ => h, fun v n x hn hR hk => ?_⟩
              have h10 : v 10 = .bool false := hk 10 (by kernel_rfl)
              have h15 : v 15 = .bool false := hk 15 (by kernel_rfl)
              simp only [List.take_succ_cons, List.take_zero, frameF, Act.put, List.setIfInBounds_toArray, List.set_cons_zero, List.set_cons_succ]
              exact stepF_val (by first | rfl | simp [Region.wanted, yielded, *]) (by go_simp <;> omega) ⟨rfl, Below.refl _ _, hR⟩
            · refine ⟨fun _ _ _ _ _ h => h, fun _ _ _ _ h _ => h, fun v n x hn hR hk => ?_⟩
              have h16 : v 16 = .bool false := hk 16 (by kernel_rfl)
              simp only [List.take_succ_cons, List.take_zero, frameF, Act.put, List.setIfInBounds_toArray, List.set_cons_zero, List.set_cons_succ]
              exact stepF_val (by first | rfl | simp [Region.wanted, yielded, *]) (by go_simp <;> omega) ⟨rfl, Below.refl _ _, hR⟩
            · refine ⟨fun _ _ _ _ _ h => h, fun _ _ _ _ h _ => h, fun v n x hn hR hk => ?_⟩
              have h17 : v 17 = .bool false := hk 17 (by kernel_rfl)
              simp only [List.take_succ_cons, List.take_zero, frameF, Act.put, List.setIfInBounds_toArray, List.set_cons_zero, List.set_cons_succ]
              exact stepF_val (by first | rfl | simp [Region.wanted, yielded, *]) (by go_simp <;> omega) ⟨rfl, Below.refl _ _, hR⟩
            · refine ⟨fun _ _ _ _ _ h => h, fun _ _ _ _ h _ => h, fun v n x hn hR hk => ?_⟩
              have h17 : v 17 = .bool false := hk 17 (by kernel_rfl)
              have h18 : v 18 = iv (k : Int) := hk 18 (by kernel_rfl)
              simp only [List.take_succ_cons, List.take_zero, frameF, Act.put, List.setIfInBounds_toArray, List.set_cons_zero, List.set_cons_succ]
              exact stepF_val (by first | rfl | simp [Region.wanted, yielded, *]) (by go_simp <;> omega) ⟨rfl, Below.refl _ _, hR⟩
            · refine ⟨fun _ _ _ _ _ h => h, fun _ _ _ _ h _ => h, fun v n x hn hR hk => ?_⟩
              have h17 : v 17 = .bool false := hk 17 (by kernel_rfl)
              have h19 : v 19 = .bool false := hk 19 (by kernel_rfl)
              simp only [List.take_succ_cons, List.take_zero, frameF, Act.put, List.setIfInBounds_toArray, List.set_cons_zero, List.set_cons_succ]
              exact stepF_val (by first | rfl | simp [Region.wanted, yielded, *]) (by go_simp <;> omega) ⟨rfl, Below.refl _ _, hR⟩
            · refine ⟨fun _ _ _ _ _ h => h, fun _ _ _ _ h _ => h, fun v n x hn hR hk => ?_⟩
              have h20 : v 20 = .bool false := hk 20 (by kernel_rfl)
              simp only [List.take_succ_cons, List.take_zero, frameF, Act.put, List.setIfInBounds_toArray, List.set_cons_zero, List.set_cons_succ]
              exact stepF_un (by first | rfl | simp [Region.wanted, yielded, *]) ⟨rfl, Below.refl _ _, hR⟩
            · refine ⟨fun _ _ _ _ _ h => h, fun _ _ _ _ h _ => h, fun v n x hn hR hk => ?_⟩
              have h20 : v 20 = .bool false := hk 20 (by kernel_rfl)
              simp only [List.take_succ_cons, List.take_zero, frameF, Act.put, List.setIfInBounds_toArray, List.set_cons_zero, List.set_cons_succ]
              exact stepF_un (by first | rfl | simp [Region.wanted, yielded, *]) ⟨rfl, Below.refl _ _, hR⟩
            · refine ⟨fun _ _ _ _ _ h => h, fun _ _ _ _ h _ => h, fun v n x hn hR hk => ?_⟩
              have h20 : v 20 = .bool false := hk 20 (by kernel_rfl)
              simp only [List.take_succ_cons, List.take_zero, frameF, Act.put, List.setIfInBounds_toArray, List.set_cons_zero, List.set_cons_succ]
              exact stepF_un (by first | rfl | simp [Region.wanted, yielded, *]) ⟨rfl, Below.refl _ _, hR⟩
            · refine ⟨fun _ _ _ _ _ h => h, fun _ _ _ _ h _ => h, fun v n x hn hR hk => ?_⟩
              have h20 : v 20 = .bool false := hk 20 (by kernel_rfl)
              simp only [List.take_succ_cons, List.take_zero, frameF, Act.put, List.setIfInBounds_toArray, List.set_cons_zero, List.set_cons_succ]
              exact stepF_un (by first | rfl | simp [Region.wanted, yielded, *]) ⟨rfl, Below.refl _ _, hR⟩
            · refine ⟨fun _ _ _ _ _ h => h, fun _ _ _ _ h _ => h, fun v n x hn hR hk => ?_⟩
              have h20 : v 20 = .bool false := hk 20 (by kernel_rfl)
              simp only [List.take_succ_cons, List.take_zero, frameF, Act.put, List.setIfInBounds_toArray, List.set_cons_zero, List.set_cons_succ]
              exact stepF_un (by first | rfl | simp [Region.wanted, yielded, *]) ⟨rfl, Below.refl _ _, hR⟩
            · refine ⟨fun _ _ _ _ _ h => h, fun _ _ _ _ h _ => h, fun v n x hn hR hk => ?_⟩
              have h20 : v 20 = .bool false := hk 20 (by kernel_rfl)
              simp only [List.take_succ_cons, List.take_zero, frameF, Act.put, List.setIfInBounds_toArray, List.set_cons_zero, List.set_cons_succ]
              exact stepF_un (by first | rfl | simp [Region.wanted, yielded, *]) ⟨rfl, Below.refl _ _, hR⟩
            · refine ⟨fun _ _ _ _ _ h => h, fun _ _ _ _ h _ => h, fun v n x hn hR hk => ?_⟩
              have h20 : v 20 = .bool false := hk 20 (by kernel_rfl)
              simp only [List.take_succ_cons, List.take_zero, frameF, Act.put, List.setIfInBounds_toArray, List.set_cons_zero, List.set_cons_succ]
              exact stepF_un (by first | rfl | simp [Region.wanted, yielded, *]) ⟨rfl, Below.refl _ _, hR⟩
            · refine ⟨fun _ _ _ _ _ h => h, fun _ _ _ _ h _ => h, fun v n x hn hR hk => ?_⟩
              have h20 : v 20 = .bool false := hk 20 (by kernel_rfl)
              simp only [List.take_succ_cons, List.take_zero, frameF, Act.put, List.setIfInBounds_toArray, List.set_cons_zero, List.set_cons_succ]
              exact stepF_un (by first | rfl | simp [Region.wanted, yielded, *]) ⟨rfl, Below.refl _ _, hR⟩
            · refine ⟨fun _ _ _ _ _ h => h, fun _ _ _ _ h _ => h, fun v n x hn hR hk => ?_⟩
              have h20 : v 20 = .bool false := hk 20 (by kernel_rfl)
              simp only [List.take_succ_cons, List.take_zero, frameF, Act.put, List.setIfInBounds_toArray, List.set_cons_zero, List.set_cons_succ]
              exact stepF_un (by first | rfl | simp [Region.wanted, yielded, *]) ⟨rfl, Below.refl _ _, hR⟩
            · refine ⟨fun _ _ _ _ _ h => h, fun _ _ _ _ h _ => h, fun v n x hn hR hk => ?_⟩
              have h17 : v 17 = .bool false := hk 17 (by kernel_rfl)
              have h20 : v 20 = .bool false := hk 20 (by kernel_rfl)
              simp only [List.take_succ_cons, List.take_zero, frameF, Act.put, List.setIfInBounds_toArray, List.set_cons_zero, List.set_cons_succ]
              exact stepF_val (by first | rfl | simp [Region.wanted, yielded, *]) (by go_simp <;> omega) ⟨rfl, Below.refl _ _, hR⟩
            · refine ⟨fun _ _ _ _ _ h => h, fun _ _ _ _ h _ => h, fun v n x hn hR hk => ?_⟩
              have h17 : v 17 = .bool false := hk 17 (by kernel_rfl)
              have h30 : v 30 = .bool false := hk 30 (by kernel_rfl)
              simp only [List.take_succ_cons, List.take_zero, frameF, Act.put, List.setIfInBounds_toArray, List.set_cons_zero, List.set_cons_succ]
              exact stepF_val (by first | rfl | simp [Region.wanted, yielded, *]) (by go_simp <;> omega) ⟨rfl, Below.refl _ _, hR⟩
          · intro v n x hn hR hall
            have h31 : v 31 = .bool false := hall 31 (by decide)
            clear hall hn
            simp only [List.drop_succ_cons, List.drop_zero, List.drop_nil, List.take_succ_cons, List.take_zero, frameF, Act.put, List.setIfInBounds_toArray, List.set_cons_zero, List.set_cons_succ, Nat.zero_add, Nat.reduceAdd, h31]
            have hbz := hbr.trans ((hbM.mono hbr.size).trans (hR.mono (Nat.le_trans hbr.size hbM.size)))
            go_wp2_with fail
            go_roundw
            case rel => exact ⟨k + 1, by omega, by go_num, hbz⟩
            case measure => simp [intOf]; omega
        · obtain ⟨q, hq⟩ : ∃ q, k = q + 1 := ⟨k - 1, by omega⟩
          have q4 : (0 : Int) < (k : Int) := by omega
          obtain ⟨b0', off', y, hA1', hb0', hy, hd0, hd1⟩ := Sl.atPr (HO1.out.below hbr) (show q < C.length by omega)
          injection hA1' with hA1'
          injection hA1' with e1 e2 _
          subst e1; subst e2
          have hpn := File.parts_next HPARTS.out hy (by rw [← hq]; exact hx)
          obtain ⟨pl, ph⟩ := y
          simp only at hpn hd0 hd1
          have HPV : Hid (∀ x, Below wM.heap.size wM x → x.cell? ⟨b0, off + q * 2 + 1, none⟩ = some (iv (ph : Int))) := Lib.hid fun x h => ((hbM.next h (Nat.le_refl _)).cell (p := ⟨b0, off + q * 2 + 1, none⟩) hb0).trans hd1
          have q5 : ¬ (lo : Int) ≤ (ph : Int) := by omega
          have eq1 : IntKind.i64.wrap ((k : Int) - 1) = (q : Int) := by rw [hq]; rw [show (((q + 1 : Nat) : Int) - 1) = (q : Int) by omega]; exact IntWalk.i64_in _ (by omega)
          have eq2 : (k : Int) - 1 = (q : Int) := by omega
          have eq3 : IntKind.i64.wrap (q : Int) = (q : Int) := IntWalk.i64_in _ (by omega)
          have hql : q < C.length := by omega
          have hqli : (q : Int) < (C.length : Int) := by omega
          have HKQ := Lib.hid hq
          clear hkz hc0 hc1 hq hd0 hd1 hx hy
          refine wp_free_lit (by kernel_rfl) 32 (by kernel_rfl) (by kernel_rfl) (by decide) (fun _ x => Below wM.heap.size wM x) (fun x x' => Below x.heap.size x x')
            [fun _ u _ => u = .pointer (some ⟨wr.heap.size, 0, none⟩),
             fun _ u _ => u = iv (lo : Int),
             fun _ u _ => u = .bool false,
             fun _ u _ => u = .bool false,
             fun _ u _ => u = .pointer (some ⟨wr.heap.size, 1, none⟩),
             fun _ u _ => u = iv (hi : Int),
             fun _ u _ => u = .pointer (some ⟨wr.heap.size, 0, none⟩),
             fun _ u _ => u = iv (lo : Int),
             fun _ u _ => u = .bool false,
             fun _ u _ => u = .bool false,
             fun _ u _ => u = .bool false,
             fun _ u _ => u = .pointer (some ⟨wr.heap.size, 1, none⟩),
             fun _ u _ => u = iv (hi : Int),
             fun _ u _ => u = .slice Ab base.length cb,
             fun _ u _ => u = iv (base.length : Int),
             fun _ u _ => u = .bool false,
             fun _ u _ => u = .bool false,
             fun _ u _ => u = .bool false,
             fun _ u _ => u = iv (k : Int),
             fun _ u _ => u = .bool true,
             fun _ u _ => u = .bool true,
             fun _ u _ => u = .pointer (some ⟨wr.heap.size, 0, none⟩),
             fun _ u _ => u = iv (lo : Int),
             fun _ u _ => u = .slice (some ⟨b0, off, none⟩) C.length cc,
             fun _ u _ => u = iv (k : Int),
             fun _ u _ => u = iv (q : Int),
             fun _ u _ => u = .pointer (some ⟨b0, off + q * 2, none⟩),
             fun _ u _ => u = .pointer (some ⟨b0, off + q * 2 + 1, none⟩),
             fun _ u _ => u = iv (ph : Int),
             fun _ u _ => u = .bool false,
             fun _ u _ => u = .bool false,
             fun _ u _ => u = .bool false]
            (Below.refl _ wM).drew ?_ ?_
          · simp only [List.take_succ_cons, List.take_zero, HopL]
            refine ⟨?_, ?_, ?_, ?_, ?_, ?_, ?_, ?_, ?_, ?_, ?_, ?_, ?_, ?_, ?_, ?_, ?_, ?_, ?_, ?_, ?_, ?_, ?_, ?_, ?_, ?_, ?_, ?_, ?_, ?_, ?_, ?_, trivial⟩
            · refine ⟨fun _ _ _ _ _ h => h, fun _ _ _ _ h _ => h, fun v n x hn hR hk => ?_⟩
              simp only [List.take_succ_cons, List.take_zero, frameF, Act.put, List.setIfInBounds_toArray, List.set_cons_zero, List.set_cons_succ]
              exact stepF_val (by first | rfl | simp [Region.wanted, yielded, *]) (by go_simp <;> omega) ⟨rfl, Below.refl _ _, hR⟩
            · refine ⟨fun _ _ _ _ _ h => h, fun _ _ _ _ h _ => h, fun v n x hn hR hk => ?_⟩
              have h0 : v 0 = .pointer (some ⟨wr.heap.size, 0, none⟩) := hk 0 (by kernel_rfl)
              have y0 := (Blk.under HBX.out hR).cell 0
              have y1 := (Blk.under HBX.out hR).cell 1
              simp only [List.take_succ_cons, List.take_zero, frameF, Act.put, List.setIfInBounds_toArray, List.set_cons_zero, List.set_cons_succ]
              exact stepF_val (by first | rfl | simp [Region.wanted, yielded, *]) (by go_simp <;> omega) ⟨rfl, Below.refl _ _, hR⟩
            · refine ⟨fun _ _ _ _ _ h => h, fun _ _ _ _ h _ => h, fun v n x hn hR hk => ?_⟩
              have h1 : v 1 = iv (lo : Int) := hk 1 (by kernel_rfl)
              simp only [List.take_succ_cons, List.take_zero, frameF, Act.put, List.setIfInBounds_toArray, List.set_cons_zero, List.set_cons_succ]
              exact stepF_val (by first | rfl | simp [Region.wanted, yielded, *]) (by go_simp <;> omega) ⟨rfl, Below.refl _ _, hR⟩
            · refine ⟨fun _ _ _ _ _ h => h, fun _ _ _ _ h _ => h, fun v n x hn hR hk => ?_⟩
              have h2 : v 2 = .bool false := hk 2 (by kernel_rfl)
              simp only [List.take_succ_cons, List.take_zero, frameF, Act.put, List.setIfInBounds_toArray, List.set_cons_zero, List.set_cons_succ]
              exact stepF_val (by first | rfl | simp [Region.wanted, yielded, *]) (by go_simp <;> omega) ⟨rfl, Below.refl _ _, hR⟩
            · refine ⟨fun _ _ _ _ _ h => h, fun _ _ _ _ h _ => h, fun v n x hn hR hk => ?_⟩
              have h3 : v 3 = .bool false := hk 3 (by kernel_rfl)
              simp only [List.take_succ_cons, List.take_zero, frameF, Act.put, List.setIfInBounds_toArray, List.set_cons_zero, List.set_cons_succ]
              exact stepF_val (by first | rfl | simp [Region.wanted, yielded, *]) (by go_simp <;> omega) ⟨rfl, Below.refl _ _, hR⟩
            · refine ⟨fun _ _ _ _ _ h => h, fun _ _ _ _ h _ => h, fun v n x hn hR hk => ?_⟩
              have h3 : v 3 = .bool false := hk 3 (by kernel_rfl)
              have h4 : v 4 = .pointer (some ⟨wr.heap.size, 1, none⟩) := hk 4 (by kernel_rfl)
              have y0 := (Blk.under HBX.out hR).cell 0
              have y1 := (Blk.under HBX.out hR).cell 1
              simp only [List.take_succ_cons, List.take_zero, frameF, Act.put, List.setIfInBounds_toArray, List.set_cons_zero, List.set_cons_succ]
              exact stepF_val (by first | rfl | simp [Region.wanted, yielded, *]) (by go_simp <;> omega) ⟨rfl, Below.refl _ _, hR⟩
            · refine ⟨fun _ _ _ _ _ h => h, fun _ _ _ _ h _ => h, fun v n x hn hR hk => ?_⟩
              have h3 : v 3 = .bool false := hk 3 (by kernel_rfl)
              simp only [List.take_succ_cons, List.take_zero, frameF, Act.put, List.setIfInBounds_toArray, List.set_cons_zero, List.set_cons_succ]
              exact stepF_val (by first | rfl | simp [Region.wanted, yielded, *]) (by go_simp <;> omega) ⟨rfl, Below.refl _ _, hR⟩
            · refine ⟨fun _ _ _ _ _ h => h, fun _ _ _ _ h _ => h, fun v n x hn hR hk => ?_⟩
              have h3 : v 3 = .bool false := hk 3 (by kernel_rfl)
              have h6 : v 6 = .pointer (some ⟨wr.heap.size, 0, none⟩) := hk 6 (by kernel_rfl)
              have y0 := (Blk.under HBX.out hR).cell 0
              have y1 := (Blk.under HBX.out hR).cell 1
              simp only [List.take_succ_cons, List.take_zero, frameF, Act.put, List.setIfInBounds_toArray, List.set_cons_zero, List.set_cons_succ]
              exact stepF_val (by first | rfl | simp [Region.wanted, yielded, *]) (by go_simp <;> omega) ⟨rfl, Below.refl _ _, hR⟩
            · refine ⟨fun _ _ _ _ _ h => h, fun _ _ _ _ h _ => h, fun v n x hn hR hk => ?_⟩
              have h3 : v 3 = .bool false := hk 3 (by kernel_rfl)
              have h5 : v 5 = iv (hi : Int) := hk 5 (by kernel_rfl)
              have h7 : v 7 = iv (lo : Int) := hk 7 (by kernel_rfl)
              simp only [List.take_succ_cons, List.take_zero, frameF, Act.put, List.setIfInBounds_toArray, List.set_cons_zero, List.set_cons_succ]
              exact stepF_val (by first | rfl | simp [Region.wanted, yielded, *]) (by go_simp <;> omega) ⟨rfl, Below.refl _ _, hR⟩
            · refine ⟨fun _ _ _ _ _ h => h, fun _ _ _ _ h _ => h, fun v n x hn hR hk => ?_⟩
              have h3 : v 3 = .bool false := hk 3 (by kernel_rfl)
              have h8 : v 8 = .bool false := hk 8 (by kernel_rfl)
              simp only [List.take_succ_cons, List.take_zero, frameF, Act.put, List.setIfInBounds_toArray, List.set_cons_zero, List.set_cons_succ]
              exact stepF_val (by first | rfl | simp [Region.wanted, yielded, *]) (by go_simp <;> omega) ⟨rfl, Below.refl _ _, hR⟩
            · refine ⟨fun _ _ _ _ _ h => h, fun _ _ _ _ h _ => h, fun v n x hn hR hk => ?_⟩
              have h9 : v 9 = .bool false := hk 9 (by kernel_rfl)
              simp only [List.take_succ_cons, List.take_zero, frameF, Act.put, List.setIfInBounds_toArray, List.set_cons_zero, List.set_cons_succ]
              exact stepF_val (by first | rfl | simp [Region.wanted, yielded, *]) (by go_simp <;> omega) ⟨rfl, Below.refl _ _, hR⟩
            · refine ⟨fun _ _ _ _ _ h => h, fun _ _ _ _ h _ => h, fun v n x hn hR hk => ?_⟩
              have h10 : v 10 = .bool false := hk 10 (by kernel_rfl)
              simp only [List.take_succ_cons, List.take_zero, frameF, Act.put, List.setIfInBounds_toArray, List.set_cons_zero, List.set_cons_succ]
              exact stepF_val (by first | rfl | simp [Region.wanted, yielded, *]) (by go_simp <;> omega) ⟨rfl, Below.refl _ _, hR⟩
            · refine ⟨fun _ _ _ _ _ h => h, fun _ _ _ _ h _ => h, fun v n x hn hR hk => ?_⟩
              have h10 : v 10 = .bool false := hk 10 (by kernel_rfl)
              have h11 : v 11 = .pointer (some ⟨wr.heap.size, 1, none⟩) := hk 11 (by kernel_rfl)
              have y0 := (Blk.under HBX.out hR).cell 0
              have y1 := (Blk.under HBX.out hR).cell 1
              simp only [List.take_succ_cons, List.take_zero, frameF, Act.put, List.setIfInBounds_toArray, List.set_cons_zero, List.set_cons_succ]
              exact stepF_val (by first | rfl | simp [Region.wanted, yielded, *]) (by go_simp <;> omega) ⟨rfl, Below.refl _ _, hR⟩
            · refine ⟨fun _ _ _ _ _ h => h, fun _ _ _ _ h _ => h, fun v n x hn hR hk => ?_⟩
              have h10 : v 10 = .bool false := hk 10 (by kernel_rfl)
              simp only [List.take_succ_cons, List.take_zero, frameF, Act.put, List.setIfInBounds_toArray, List.set_cons_zero, List.set_cons_succ]
              exact stepF_val (by first | rfl | simp [Region.wanted, yielded, *]) (by go_simp <;> omega) ⟨rfl, Below.refl _ _, hR⟩
            · refine ⟨fun _ _ _ _ _ h => h, fun _ _ _ _ h _ => h, fun v n x hn hR hk => ?_⟩
              have h10 : v 10 = .bool false := hk 10 (by kernel_rfl)
              have h13 : v 13 = .slice Ab base.length cb := hk 13 (by kernel_rfl)
              simp only [List.take_succ_cons, List.take_zero, frameF, Act.put, List.setIfInBounds_toArray, List.set_cons_zero, List.set_cons_succ]
              exact stepF_val (by first | rfl | simp [Region.wanted, yielded, *]) (by go_simp <;> omega) ⟨rfl, Below.refl _ _, hR⟩
            · refine ⟨fun _ _ _ _ _ h => h, fun _ _ _ _ h _ => h, fun v n x hn hR hk => ?_⟩
              have h10 : v 10 = .bool false := hk 10 (by kernel_rfl)
              have h12 : v 12 = iv (hi : Int) := hk 12 (by kernel_rfl)
              have h14 : v 14 = iv (base.length : Int) := hk 14 (by kernel_rfl)
              simp only [List.take_succ_cons, List.take_zero, frameF, Act.put, List.setIfInBounds_toArray, List.set_cons_zero, List.set_cons_succ]
              exact stepF_val (by first | rfl | simp [Region.wanted, yielded, *]) (by go_simp <;> omega) ⟨rfl, Below.refl _ _, hR⟩
            · refine ⟨fun _ _ _ _ _ h => h, fun _ _ _ _ h _ => h, fun v n x hn hR hk => ?_⟩
              have h10 : v 10 = .bool false := hk 10 (by kernel_rfl)
              have h15 : v 15 = .bool false := hk 15 (by kernel_rfl)
              simp only [List.take_succ_cons, List.take_zero, frameF, Act.put, List.setIfInBounds_toArray, List.set_cons_zero, List.set_cons_succ]
              exact stepF_val (by first | rfl | simp [Region.wanted, yielded, *]) (by go_simp <;> omega) ⟨rfl, Below.refl _ _, hR⟩
            · refine ⟨fun _ _ _ _ _ h => h, fun _ _ _ _ h _ => h, fun v n x hn hR hk => ?_⟩
              have h16 : v 16 = .bool false := hk 16 (by kernel_rfl)
              simp only [List.take_succ_cons, List.take_zero, frameF, Act.put, List.setIfInBounds_toArray, List.set_cons_zero, List.set_cons_succ]
              exact stepF_val (by first | rfl | simp [Region.wanted, yielded, *]) (by go_simp <;> omega) ⟨rfl, Below.refl _ _, hR⟩
            · refine ⟨fun _ _ _ _ _ h => h, fun _ _ _ _ h _ => h, fun v n x hn hR hk => ?_⟩
              have h17 : v 17 = .bool false := hk 17 (by kernel_rfl)
              simp only [List.take_succ_cons, List.take_zero, frameF, Act.put, List.setIfInBounds_toArray, List.set_cons_zero, List.set_cons_succ]
              exact stepF_val (by first | rfl | simp [Region.wanted, yielded, *]) (by go_simp <;> omega) ⟨rfl, Below.refl _ _, hR⟩
            · refine ⟨fun _ _ _ _ _ h => h, fun _ _ _ _ h _ => h, fun v n x hn hR hk => ?_⟩
              have h17 : v 17 = .bool false := hk 17 (by kernel_rfl)
              have h18 : v 18 = iv (k : Int) := hk 18 (by kernel_rfl)
              simp only [List.take_succ_cons, List.take_zero, frameF, Act.put, List.setIfInBounds_toArray, List.set_cons_zero, List.set_cons_succ]
              exact stepF_val (by first | rfl | simp [Region.wanted, yielded, *]) (by go_simp <;> omega) ⟨rfl, Below.refl _ _, hR⟩
            · refine ⟨fun _ _ _ _ _ h => h, fun _ _ _ _ h _ => h, fun v n x hn hR hk => ?_⟩
              have h17 : v 17 = .bool false := hk 17 (by kernel_rfl)
              have h19 : v 19 = .bool true := hk 19 (by kernel_rfl)
              simp only [List.take_succ_cons, List.take_zero, frameF, Act.put, List.setIfInBounds_toArray, List.set_cons_zero, List.set_cons_succ]
              exact stepF_val (by first | rfl | simp [Region.wanted, yielded, *]) (by go_simp <;> omega) ⟨rfl, Below.refl _ _, hR⟩
            · refine ⟨fun _ _ _ _ _ h => h, fun _ _ _ _ h _ => h, fun v n x hn hR hk => ?_⟩
              have h20 : v 20 = .bool true := hk 20 (by kernel_rfl)
              simp only [List.take_succ_cons, List.take_zero, frameF, Act.put, List.setIfInBounds_toArray, List.set_cons_zero, List.set_cons_succ]
              exact stepF_val (by first | rfl | simp [Region.wanted, yielded, *]) (by go_simp <;> omega) ⟨rfl, Below.refl _ _, hR⟩
            · refine ⟨fun _ _ _ _ _ h => h, fun _ _ _ _ h _ => h, fun v n x hn hR hk => ?_⟩
              have h20 : v 20 = .bool true := hk 20 (by kernel_rfl)
              have h21 : v 21 = .pointer (some ⟨wr.heap.size, 0, none⟩) := hk 21 (by kernel_rfl)
              have y0 := (Blk.under HBX.out hR).cell 0
              have y1 := (Blk.under HBX.out hR).cell 1
              simp only [List.take_succ_cons, List.take_zero, frameF, Act.put, List.setIfInBounds_toArray, List.set_cons_zero, List.set_cons_succ]
              exact stepF_val (by first | rfl | simp [Region.wanted, yielded, *]) (by go_simp <;> omega) ⟨rfl, Below.refl _ _, hR⟩
            · refine ⟨fun _ _ _ _ _ h => h, fun _ _ _ _ h _ => h, fun v n x hn hR hk => ?_⟩
              have h20 : v 20 = .bool true := hk 20 (by kernel_rfl)
              simp only [List.take_succ_cons, List.take_zero, frameF, Act.put, List.setIfInBounds_toArray, List.set_cons_zero, List.set_cons_succ]
              exact stepF_val (by first | rfl | simp [Region.wanted, yielded, *]) (by go_simp <;> omega) ⟨rfl, Below.refl _ _, hR⟩
            · refine ⟨fun _ _ _ _ _ h => h, fun _ _ _ _ h _ => h, fun v n x hn hR hk => ?_⟩
              have h20 : v 20 = .bool true := hk 20 (by kernel_rfl)
              simp only [List.take_succ_cons, List.take_zero, frameF, Act.put, List.setIfInBounds_toArray, List.set_cons_zero, List.set_cons_succ]
              exact stepF_val (by first | rfl | simp [Region.wanted, yielded, *]) (by go_simp <;> omega) ⟨rfl, Below.refl _ _, hR⟩
            · refine ⟨fun _ _ _ _ _ h => h, fun _ _ _ _ h _ => h, fun v n x hn hR hk => ?_⟩
              have h20 : v 20 = .bool true := hk 20 (by kernel_rfl)
              have h24 : v 24 = iv (k : Int) := hk 24 (by kernel_rfl)
              simp only [List.take_succ_cons, List.take_zero, frameF, Act.put, List.setIfInBounds_toArray, List.set_cons_zero, List.set_cons_succ]
              exact stepF_val (by first | rfl | simp [Region.wanted, yielded, *]) (by go_simp <;> omega) ⟨rfl, Below.refl _ _, hR⟩
            · refine ⟨fun _ _ _ _ _ h => h, fun _ _ _ _ h _ => h, fun v n x hn hR hk => ?_⟩
              have h20 : v 20 = .bool true := hk 20 (by kernel_rfl)
              have h23 : v 23 = .slice (some ⟨b0, off, none⟩) C.length cc := hk 23 (by kernel_rfl)
              have h25 : v 25 = iv (q : Int) := hk 25 (by kernel_rfl)
              simp only [List.take_succ_cons, List.take_zero, frameF, Act.put, List.setIfInBounds_toArray, List.set_cons_zero, List.set_cons_succ]
              exact stepF_val (by first | rfl | simp [Region.wanted, yielded, *]) (by go_simp <;> omega) ⟨rfl, Below.refl _ _, hR⟩
            · refine ⟨fun _ _ _ _ _ h => h, fun _ _ _ _ h _ => h, fun v n x hn hR hk => ?_⟩
              have h20 : v 20 = .bool true := hk 20 (by kernel_rfl)
              have h26 : v 26 = .pointer (some ⟨b0, off + q * 2, none⟩) := hk 26 (by kernel_rfl)
              simp only [List.take_succ_cons, List.take_zero, frameF, Act.put, List.setIfInBounds_toArray, List.set_cons_zero, List.set_cons_succ]
              exact stepF_val (by first | rfl | simp [Region.wanted, yielded, *]) (by go_simp <;> omega) ⟨rfl, Below.refl _ _, hR⟩
            · refine ⟨fun _ _ _ _ _ h => h, fun _ _ _ _ h _ => h, fun v n x hn hR hk => ?_⟩
              have h20 : v 20 = .bool true := hk 20 (by kernel_rfl)
              have h27 : v 27 = .pointer (some ⟨b0, off + q * 2 + 1, none⟩) := hk 27 (by kernel_rfl)
              have hm := HPV.out x hR
              simp only [List.take_succ_cons, List.take_zero, frameF, Act.put, List.setIfInBounds_toArray, List.set_cons_zero, List.set_cons_succ]
              exact stepF_val (by first | rfl | simp [Region.wanted, yielded, *]) (by go_simp <;> omega) ⟨rfl, Below.refl _ _, hR⟩
            · refine ⟨fun _ _ _ _ _ h => h, fun _ _ _ _ h _ => h, fun v n x hn hR hk => ?_⟩
              have h20 : v 20 = .bool true := hk 20 (by kernel_rfl)
              have h22 : v 22 = iv (lo : Int) := hk 22 (by kernel_rfl)
              have h28 : v 28 = iv (ph : Int) := hk 28 (by kernel_rfl)
              simp only [List.take_succ_cons, List.take_zero, frameF, Act.put, List.setIfInBounds_toArray, List.set_cons_zero, List.set_cons_succ]
              exact stepF_val (by first | rfl | simp [Region.wanted, yielded, *]) (by go_simp <;> omega) ⟨rfl, Below.refl _ _, hR⟩
            · refine ⟨fun _ _ _ _ _ h => h, fun _ _ _ _ h _ => h, fun v n x hn hR hk => ?_⟩
              have h17 : v 17 = .bool false := hk 17 (by kernel_rfl)
              have h20 : v 20 = .bool true := hk 20 (by kernel_rfl)
              have h29 : v 29 = .bool false := hk 29 (by kernel_rfl)
              simp only [List.take_succ_cons, List.take_zero, frameF, Act.put, List.setIfInBounds_toArray, List.set_cons_zero, List.set_cons_succ]
              exact stepF_val (by first | rfl | simp [Region.wanted, yielded, *]) (by go_simp <;> omega) ⟨rfl, Below.refl _ _, hR⟩
            · refine ⟨fun _ _ _ _ _ h => h, fun _ _ _ _ h _ => h, fun v n x hn hR hk => ?_⟩
              have h17 : v 17 = .bool false := hk 17 (by kernel_rfl)
              have h30 : v 30 = .bool false := hk 30 (by kernel_rfl)
              simp only [List.take_succ_cons, List.take_zero, frameF, Act.put, List.setIfInBounds_toArray, List.set_cons_zero, List.set_cons_succ]
              exact stepF_val (by first | rfl | simp [Region.wanted, yielded, *]) (by go_simp <;> omega) ⟨rfl, Below.refl _ _, hR⟩
          · intro v n x hn hR hall
            have h31 : v 31 = .bool false := hall 31 (by decide)
            clear hall hn
            simp only [List.drop_succ_cons, List.drop_zero, List.drop_nil, List.take_succ_cons, List.take_zero, frameF, Act.put, List.setIfInBounds_toArray, List.set_cons_zero, List.set_cons_succ, Nat.zero_add, Nat.reduceAdd, h31]
            have hbz := hbr.trans ((hbM.mono hbr.size).trans (hR.mono (Nat.le_trans hbr.size hbM.size)))
            go_wp2_with fail
            go_roundw
            case rel => exact ⟨k + 1, by omega, by go_num, hbz⟩
            case measure => simp [intOf]; omega
      · have hki : ¬ (k : Int) < (C.length : Int) := by omega
        have hb0r := hb07.next hbr (Nat.le_refl _)
        have HO0r := Lib.hid (HO0.out.below hbr)
        have hb6r := hb7.next hbr (Nat.le_refl _)
        clear HO1 HPARTS hk hlt HO0
        generalize wr = w8 at *
        go_wp2_with fail
        have hJ24 : J.length ≤ 24 := by omega
        clear h24
        go_loopw [16, 95] (fun _ i wr => ∃ k : Nat, k ≤ J.length ∧ i = iv k ∧ Below w8.heap.size w8 wr) (fun _ i _ => J.length - (intOf i).toNat)
        case atStart => exact ⟨0, by omega, rfl, Below.refl _ _⟩
        case round =>
          obtain ⟨k, hk, rfl, hbr⟩ := hrel
          have hb6w := hb6r.next hbr (Nat.le_refl _)
          by_cases hlt : k < J.length
          · have hki : (k : Int) < (J.length : Int) := by omega
            obtain ⟨b0, off, s, hA0, hb0, hx, hc0⟩ := Sl.atS (HO0r.out.below hbr) hlt
            subst hA0
            have hmem := HMEM.out s (mem_at hx)
            have HCA := Lib.hid fun W (h : Below w6.heap.size w6 W) => containsW Aa a ca s W hbA (HSA.out W h)
            have HCB := Lib.hid fun W (h : Below w6.heap.size w6 W) => containsW Ac b c2 s W hbC (HSC.out W h)
            have HCZ := Lib.hid fun W (h : Below w6.heap.size w6 W) => containsW Ab base cb s W hbB (HSB.out W h)
            have hany : ∀ l : List ByteArray, s ∈ l → (l.any fun x => decide (s = x)) = true := fun l h => List.any_eq_true.2 ⟨s, h, by simp⟩
            have h3 : (a.any fun x => decide (s = x)) = true ∨ ((a.any fun x => decide (s = x)) = false ∧ (b.any fun x => decide (s = x)) = true) ∨ ((a.any fun x => decide (s = x)) = false ∧ (b.any fun x => decide (s = x)) = false ∧ (base.any fun x => decide (s = x)) = true) := by
              rcases hmem with h | h | h
              · have := hany base h
                cases ha : (a.any fun x => decide (s = x)) <;> cases hb : (b.any fun x => decide (s = x)) <;> simp [this]
              · exact .inl (hany a h)
              · have := hany b h
                cases ha : (a.any fun x => decide (s = x)) <;> simp [this]
            generalize (a.any fun x => decide (s = x)) = ia at *
            generalize (b.any fun x => decide (s = x)) = ib at *
            generalize (base.any fun x => decide (s = x)) = ic at *
            clear hx hmem hany
            rcases h3 with rfl | ⟨rfl, rfl⟩ | ⟨rfl, rfl, rfl⟩
            · go_wp2_with fail
              refine (HCA.out _ hb6w).mono ?_
              rintro _ w9 ⟨rfl, hb9⟩
              go_wp2_with fail
              go_roundw
              case rel => exact ⟨k + 1, by omega, by go_num, hbr.next hb9 (Nat.le_refl _)⟩
              case measure => simp [intOf]; omega
            · go_wp2_with fail
              refine (HCA.out _ hb6w).mono ?_
              rintro _ w9 ⟨rfl, hb9⟩
              go_wp2_with fail
              refine (HCB.out _ (hb6w.next hb9 (Nat.le_refl _))).mono ?_
              rintro _ w10 ⟨rfl, hb10⟩
              go_wp2_with fail
              go_roundw
              case rel => exact ⟨k + 1, by omega, by go_num, (hbr.next hb9 (Nat.le_refl _)).next hb10 (Nat.le_refl _)⟩
              case measure => simp [intOf]; omega
            · go_wp2_with fail
              refine (HCA.out _ hb6w).mono ?_
              rintro _ w9 ⟨rfl, hb9⟩
              go_wp2_with fail
              refine (HCB.out _ (hb6w.next hb9 (Nat.le_refl _))).mono ?_
              rintro _ w10 ⟨rfl, hb10⟩
              go_wp2_with fail
              refine (HCZ.out _ ((hb6w.next hb9 (Nat.le_refl _)).next hb10 (Nat.le_refl _))).mono ?_
              rintro _ w11 ⟨rfl, hb11⟩
              go_wp2_with fail
              go_roundw
              case rel => exact ⟨k + 1, by omega, by go_num, ((hbr.next hb9 (Nat.le_refl _)).next hb10 (Nat.le_refl _)).next hb11 (Nat.le_refl _)⟩
              case measure => simp [intOf]; omega
          · have hki : ¬ (k : Int) < (J.length : Int) := by omega
            have hb0w := hb0r.next hbr (Nat.le_refl _)
            clear hb0r hb6r HO0r HMEM hlt hk hb06 hb07 hbr
            generalize wr = w9 at *
            obtain ⟨N, CN⟩ := PN
            simp only at HN HN2
            have HN3 : Hid (∀ W, Below w6.heap.size w6 W → Below w.heap.size w W → True) := Lib.hid fun _ _ _ => trivial
            go_wp2_with fail
            refine (HN.out _ hb6w).mono ?_
            rintro _ w10 ⟨v0, v1, rfl, ho0, ho1, hb10⟩
            obtain ⟨A2, k2, rfl, _, _⟩ := ho0.form
            obtain ⟨A3, k3, rfl, _, _⟩ := ho1.form
            have hb6x := hb6w.next hb10 (Nat.le_refl _)
            have hb0x := hb0w.next hb10 (Nat.le_refl _)
            clear hb6w hb0w HN hb10
            have HEAB := Lib.hid (equalS Aa a ca Ac b c2 w10 hbA (HSA.out w10 hb6x) hbC (HSC.out w10 hb6x))
            by_cases ha0 : a = []
            · have e := HN2.out.1 ha0
              injection e with e1 e2
              (have e1 := e1.symm); subst e1; subst e2
              have hal : a.length = 0 := by rw [ha0]; rfl
              have hai : ((a.length : Int) == 0) = true := by simp [hal]
              have HE := Lib.hid (equalS A2 b k2 Ac b c2 w10 hbC ho0.sl hbC (HSC.out w10 hb6x))
              rw [decide_eq_true rfl] at HE
              clear ha0 hal ho0 ho1 HN2 HEAB
              go_wp2_with fail
              refine HE.out.mono ?_
              rintro _ w11 ⟨rfl, hb11⟩
              have hb0y := hb0x.next hb11 (Nat.le_refl _)
              go_wp2_with fail
              refine (HAW.out _ hb0y).mono ?_
              rintro _ wz ⟨rfl, hbz⟩
              go_wp2_with fail
              go_ret
              exact ⟨rfl, (hb0y).next hbz (Nat.le_refl _)⟩
            · have hal : a.length ≠ 0 := fun h => ha0 (List.eq_nil_of_length_eq_zero h)
              have hai : ((a.length : Int) == 0) = false := by simp; omega
              by_cases hab : a = b
              · have e := HN2.out.2.1 hab
                injection e with e1 e2
                (have e1 := e1.symm); subst e1; subst e2
                rw [decide_eq_true hab] at HEAB
                have HE := Lib.hid fun W (h : Below w10.heap.size w10 W) => equalS A2 b k2 Ac b c2 W hbC (ho0.sl.below h) hbC (HSC.out W (hb6x.next h (Nat.le_refl _)))
                simp only [decide_true] at HE
                clear ha0 hal ho0 ho1 HN2 hab
                go_wp2_with fail
                refine HEAB.out.mono ?_
                rintro _ w11 ⟨rfl, hb11⟩
                have hb0y := hb0x.next hb11 (Nat.le_refl _)
                go_wp2_with fail
                refine (HE.out _ hb11).mono ?_
                rintro _ w12 ⟨rfl, hb12⟩
                have hb0z := hb0y.next hb12 (Nat.le_refl _)
                go_wp2_with fail
                refine (HAW.out _ hb0z).mono ?_
                rintro _ wz ⟨rfl, hbz⟩
                go_wp2_with fail
                go_ret
                exact ⟨rfl, (hb0z).next hbz (Nat.le_refl _)⟩
              · rw [decide_eq_false hab] at HEAB
                by_cases hb0' : b = []
                · have e := HN2.out.2.2.1 hb0'
                  injection e with e1 e2
                  (have e1 := e1.symm); subst e1; subst e2
                  have hbl : b.length = 0 := by rw [hb0']; rfl
                  have hbi : ((b.length : Int) == 0) = true := by simp [hbl]
                  have HE := Lib.hid fun W (h : Below w10.heap.size w10 W) => equalS A2 a k2 Aa a ca W hbA (ho0.sl.below h) hbA (HSA.out W (hb6x.next h (Nat.le_refl _)))
                  simp only [decide_true] at HE
                  clear ha0 hal ho0 ho1 HN2 hab hb0' hbl
                  go_wp2_with fail
                  refine HEAB.out.mono ?_
                  rintro _ w11 ⟨rfl, hb11⟩
                  have hb0y := hb0x.next hb11 (Nat.le_refl _)
                  go_wp2_with fail
                  refine (HE.out _ hb11).mono ?_
                  rintro _ w12 ⟨rfl, hb12⟩
                  have hb0z := hb0y.next hb12 (Nat.le_refl _)
                  go_wp2_with fail
                  refine (HAW.out _ hb0z).mono ?_
                  rintro _ wz ⟨rfl, hbz⟩
                  go_wp2_with fail
                  go_ret
                  exact ⟨rfl, (hb0z).next hbz (Nat.le_refl _)⟩
                · have e := HN2.out.2.2.2 ha0 hb0' hab
                  injection e with e1 e2
                  subst e1; subst e2
                  have hbl : b.length ≠ 0 := fun h => hb0' (List.eq_nil_of_length_eq_zero h)
                  have hbi : ((b.length : Int) == 0) = false := by simp; omega
                  have HSP : Hid (∀ W, Below w10.heap.size w10 W → Calls Tryd.prog 22 #[.slice A3 1 k3, .slice (some ⟨W.heap.size, 0, none⟩) 1 1] (W.alloc (.cells #[iv 0, iv 0] 44)) fun e w' => e = .returned (.bool true) ∧ Below W.heap.size W w') := Lib.hid fun W h => by
                    have hA := Sl.fresh pairE W 44 #[iv 0, iv 0] [(0, 0)] rfl (by simp [maxLen])
                    have := equalSp A3 [(0, 0)] k3 (some ⟨W.heap.size, 0, none⟩) [(0, 0)] 1 (W.alloc (.cells #[iv 0, iv 0] 44)) (by simp [big]) ((ho1.sl.below h).alloc _) (by simp [big]) hA
                    rw [decide_eq_true rfl] at this
                    refine this.mono ?_
                    rintro e w' ⟨h1, h2⟩
                    exact ⟨h1, ((Below.refl _ _).alloc (Nat.le_refl _) _).next h2 (Nat.le_refl _)⟩
                  clear ha0 hal ho0 ho1 HN2 hab hb0' hbl
                  go_wp2_with fail
                  refine HEAB.out.mono ?_
                  rintro _ w11 ⟨rfl, hb11⟩
                  have hb0y := hb0x.next hb11 (Nat.le_refl _)
                  go_wp2_with fail
                  refine (HSP.out _ hb11).mono ?_
                  rintro _ w12 ⟨rfl, hb12⟩
                  have hb0z := hb0y.next hb12 (Nat.le_refl _)
                  go_wp2_with fail
                  refine (HAW.out _ hb0z).mono ?_
                  rintro _ wz ⟨rfl, hbz⟩
                  go_wp2_with fail
                  go_ret
                  exact ⟨rfl, (hb0z).next hbz (Nat.le_refl _)⟩
end Fl
end Go.Proofs.YtkhmkpcihphkcaaDoor
