/- FileAlike: the walk. Condition: the library's table of powers of ten lies as the program's text lays it. -/
import Derived.Test.YtkhmkpcihphkcaaDoorMkF
import Derived.Test.YtkhmkpcihphkcaaDoorFlY
import Derived.Test.YtkhmkpcihphkcaaDoorFileAlk
import Derived.Test.YtkhmkpcihphkcaaDoorFAlikeI
set_option linter.unusedVariables false
set_option linter.unusedSimpArgs false
namespace Go.Proofs.YtkhmkpcihphkcaaDoor
namespace Fl
open Go.RowKit Go.Shelf
set_option maxRecDepth 100000
set_option maxHeartbeats 1000000 in
theorem indexV (A : Option Addr) (l : List ByteArray) (c : Nat) (s : ByteArray) (w : World) (hm : l.length ≤ big) (hs : Sl strE w A l) :
    Calls Tryd.prog 86 #[.slice A l.length c, .string s] w fun e w' => e = .returned (iv (findFrom (fun x => decide (s = x)) l 0)) ∧ Below w.heap.size w w' := by
  unfold big at hm
  obtain ⟨r, hr⟩ : ∃ r, r = findFrom (fun x => decide (s = x)) l 0 := ⟨_, rfl⟩
  rw [← hr]
  go_enter Tryd.func86, Tryd.ntmps86
  go_wp2
  go_loopw [5, 8] (fun _ i wr => ∃ (k : Nat), k ≤ l.length ∧ i = iv k ∧ Hid (findFrom (fun x => decide (s = x)) (l.drop k) k = r) ∧ Below w.heap.size w wr) (fun _ i _ => l.length - (intOf i).toNat)
  case atStart => exact ⟨0, by omega, rfl, hr.symm, Below.refl _ _⟩
  case round =>
    obtain ⟨k, hk, rfl, hf, hbw⟩ := hrel
    by_cases hlt : k < l.length
    · obtain ⟨b, off, p, rfl, hb, hp, hp0⟩ := Sl.atS (hs.below hbw) hlt
      have hli : (k : Int) < (l.length : Int) := by omega
      have hd := hf.out
      rw [drop_at hp] at hd
      simp only [findFrom] at hd
      have HD := Lib.hid hd
      have hsq := str_eq s p
      clear hd hp hf hs
      by_cases hpq : s = p
      · rw [decide_eq_true hpq] at hsq
        have HPQ := Lib.hid hpq
        clear hpq
        go_wp2
        go_ret
        exact ⟨ret_eq (by rw [← HD.out, if_pos (decide_eq_true HPQ.out)]; rfl), hbw⟩
      · rw [decide_eq_false hpq] at hsq
        have HPQ := Lib.hid hpq
        clear hpq
        go_wp2
        go_roundw
        case rel => exact ⟨k + 1, by omega, by go_num, by have := HD.out; rw [if_neg (by simpa using HPQ.out)] at this; exact this, hbw⟩
        case measure => simp [intOf]; omega
    · have hd := hf.out
      rw [drop_end hlt] at hd
      have HD := Lib.hid hd
      clear hd
      go_wp2
      go_ret
      exact ⟨ret_eq (by rw [← HD.out]; rfl), hbw⟩
theorem containsV (A : Option Addr) (l : List ByteArray) (c : Nat) (s : ByteArray) (w : World) (hm : l.length ≤ big) (hs : Sl strE w A l) :
    Calls Tryd.prog 33 #[.slice A l.length c, .string s] w fun e w' => e = .returned (.bool (l.any fun x => decide (s = x))) ∧ Below w.heap.size w w' := by
  go_enter Tryd.func33, Tryd.ntmps33
  go_wp2_with fail
  refine (indexV A l c s w hm hs).mono ?_
  rintro e w1 ⟨rfl, hb1⟩
  go_wp2_with fail
  go_ret
  exact ⟨ret_eq (by rw [← findFrom_nonneg _ l 0 (by omega)]; rfl), hb1⟩
theorem alike1 (s : ByteArray) (g : Nat) (A : Option Addr) (l : List ByteArray) (c : Nat) (w : World) (hm : l.length ≤ big) (hs : Sl strE w A l) (hg : Blk w g 23 #[.slice A l.length c]) :
    Calls Tryd.prog 32 #[.string s, .pointer (some ⟨g, 0, none⟩)] w fun e w' => e = .returned (.bool (l.any fun x => decide (s = x))) ∧ Below w.heap.size w w' := by
  have m0 := hg.cell 0
  have ml := hg.lt
  go_enter Tryd.func32, Tryd.ntmps32
  go_wp2_with fail
  refine (containsV A l c s w hm hs).mono ?_
  rintro e w1 ⟨rfl, hb1⟩
  go_wp2_with fail
  go_ret
  exact ⟨rfl, hb1⟩
set_option maxHeartbeats 1000000 in
theorem equalQ (A : Option Addr) (xs : List ByteArray) (c : Nat) (A' : Option Addr) (ys : List ByteArray) (c' : Nat) (w : World) (hm : xs.length ≤ big) (hs : Sl strE w A xs) (hm' : ys.length ≤ big) (hs' : Sl strE w A' ys) :
    Calls Tryd.prog 15 #[.slice A xs.length c, .slice A' ys.length c'] w fun e w' => e = .returned (.bool (decide (xs = ys))) ∧ ∃ m, w' = w.drewN m := by
  unfold big at hm hm'
  by_cases hl : xs.length = ys.length
  · have hl' : ((xs.length : Int) != (ys.length : Int)) = false := by simp [hl]
    have HL := Lib.hid hl
    clear hl
    go_enter Tryd.func15, Tryd.ntmps15
    go_wp2
    go_loopw [5, 13] (fun _ i wr => ∃ (k : Nat), k ≤ xs.length ∧ i = iv k ∧ Hid (xs.take k = ys.take k) ∧ Hid (∃ m, wr = w.drewN m)) (fun _ i _ => xs.length - (intOf i).toNat)
    case atStart => exact ⟨0, by omega, rfl, rfl, ⟨0, rfl⟩⟩
    case round =>
      obtain ⟨k, hk, rfl, hf, HWM⟩ := hrel
      have hbw : Below w.heap.size w wr := by obtain ⟨m, rfl⟩ := HWM.out; exact ⟨rfl, rfl, rfl, Nat.le_refl _, fun _ _ => rfl⟩
      by_cases hlt : k < xs.length
      · obtain ⟨b, off, p, rfl, hb, hp, hp0⟩ := Sl.atS (hs.below hbw) hlt
        obtain ⟨b', off', q, rfl, hb', hq, hq0⟩ := Sl.atS (hs'.below hbw) (by have := HL.out; omega : k < ys.length)
        have hly : (k : Int) < (ys.length : Int) := by have := HL.out; omega
        have hlx : (k : Int) < (xs.length : Int) := by omega
        have HP := Lib.hid hp
        have HQ := Lib.hid hq
        clear hp hq hs hs'
        have hsq := str_eq p q
        by_cases hpq : p = q
        · rw [decide_eq_true hpq] at hsq
          have HPQ := Lib.hid hpq
          clear hpq
          go_wp2
          go_quiet (fail)
          have hqd : Hid (∃ m, wr.drewN nq = w.drewN m) := Lib.hid (by obtain ⟨m, rfl⟩ := HWM.out; exact ⟨m + nq, by rw [World.drewN_drewN]⟩)
          generalize wr.drewN nq = wq at *
          go_wp2
          go_roundw
          case rel => exact ⟨k + 1, by omega, by go_num, by
            show xs.take (k + 1) = ys.take (k + 1)
            rw [List.take_add_one, List.take_add_one, HP.out, HQ.out, HPQ.out, hf.out], hqd⟩
          case measure => simp [intOf]; omega
        · rw [decide_eq_false hpq] at hsq
          have HPQ := Lib.hid hpq
          clear hpq
          go_wp2
          go_quiet (fail)
          have hqd : Hid (∃ m, wr.drewN nq = w.drewN m) := Lib.hid (by obtain ⟨m, rfl⟩ := HWM.out; exact ⟨m + nq, by rw [World.drewN_drewN]⟩)
          generalize wr.drewN nq = wq at *
          go_wp2
          go_ret
          exact ⟨ret_eq (by rw [decide_eq_false (take_ne' HP.out HQ.out HPQ.out)]; rfl), hqd.out⟩
      · have he : xs = ys := by
          have := hf.out
          rwa [List.take_of_length_le (by omega), List.take_of_length_le (by have := HL.out; omega)] at this
        have HE := Lib.hid he
        clear he
        go_wp2
        go_ret
        exact ⟨ret_eq (by rw [decide_eq_true HE.out]; rfl), HWM.out⟩
  · have hl' : ((xs.length : Int) != (ys.length : Int)) = true := by simp; omega
    go_enter Tryd.func15, Tryd.ntmps15
    go_wp2
    go_ret
    exact ⟨ret_eq (by rw [decide_eq_false (fun h => hl (by rw [h]))]; rfl), 0, rfl⟩
theorem good_mk {xs : List ByteArray} {n : Nat} (hl : xs.length ≤ n) (hn : n ≤ 24) (h : ∀ s ∈ xs, File.okLine s = true ∧ s.size ≤ 40) : File.check xs = 0 := by
  unfold File.check File.lined
  rw [if_neg (by omega), if_pos (List.all_eq_true.2 fun s hs => by have := (h s hs).2; simp only [File.wide, decide_eq_true_eq]; omega), if_pos (List.all_eq_true.2 fun s hs => (h s hs).1)]
theorem check_snoc {a : List ByteArray} (h : File.check a = 0) (hl : a.length ≤ 12) : File.check (a ++ [⟨#[101, 110, 100]⟩]) = 0 := by
  have g := good_of_check h
  refine good_mk (n := 13) (by rw [List.length_append]; simp; omega) (by omega) fun s hs => ?_
  rcases List.mem_append.1 hs with hs | hs
  · exact ⟨g.ok s hs, g.wide s hs⟩
  · rw [List.mem_singleton.1 hs]; decide
theorem alike_none {a b : List ByteArray} (ha : File.check a = 0) (hb : File.check b = 0) (h : a.length + b.length = 0) : alikeOf a b = (0, 0, 6) := by
  unfold alikeOf errOf
  rw [if_pos (by rw [if_pos ha]; exact hb), if_pos h]
theorem alike_some {a b : List ByteArray} (ha : File.check a = 0) (hb : File.check b = 0) (h : 0 < a.length + b.length) : alikeOf a b = (((File.ratio (2 * File.lcs a b) (a.length + b.length)).1 : Int), ((File.ratio (2 * File.lcs a b) (a.length + b.length)).2 : Int), 0) := by
  unfold alikeOf errOf
  rw [if_pos (by rw [if_pos ha]; exact hb), if_neg (by omega), File.common_length]
  rfl
theorem fieldsRatio : ((Tryd.prog).fieldsOf 54).toList.map (fun f => (f.name, f.type, f.offset)) = [("Num", 3, 0), ("Den", 3, 1)] := by kernel_rfl
theorem eqRatioG (a b c d : Int) (w : World) : (Op.equalIn 10000 54 (.agg #[iv a, iv b]) (.agg #[iv c, iv d])).run Tryd.prog w = .ok (a == c && b == d) w := by
  have hh := run_equalIn_agg (P := Tryd.prog) w 9999 54 #[iv a, iv b] #[iv c, iv d] (by kernel_rfl) (by kernel_rfl)
  rw [hh]
  have h3 : ∀ (x y : Int) (d : Nat), (Op.equalIn (d + 1) 3 (iv x) (iv y)).run Tryd.prog w = .ok (x == y) w := fun x y d => run_equalIn_int w d _ _ _ _ _ Tryd.underlying3
  have hf := fieldsRatio
  have hlen : ((Tryd.prog).fieldsOf 54).toList.length = 2 := by have := congrArg List.length hf; simpa using this
  obtain ⟨f0, f1, hl⟩ := len2 _ hlen
  rw [hl] at hf ⊢
  simp only [List.map_cons, List.map_nil, List.cons.injEq, Prod.mk.injEq, and_true] at hf
  obtain ⟨⟨n0, t0, o0⟩, ⟨n1, t1, o1⟩⟩ := hf
  have hp0 : ∀ a b : Int, (part 3 #[iv a, iv b] 0).run Tryd.prog w = .ok (iv a) w := fun _ _ => by kernel_rfl
  have hp1 : ∀ a b : Int, (part 3 #[iv a, iv b] 1).run Tryd.prog w = .ok (iv b) w := fun _ _ => by kernel_rfl
  simp only [Op.eqFields, n0, n1, t0, t1, o0, o1]
  by_cases h1 : a = c <;> by_cases h2 : b = d <;>
    simp [hp0, hp1, h3, Result.andThen, h1, h2, Sem.run_bind]
theorem mk12 (g : Nat) (w : World) (h : IsSpool (g + 1) w g 0) : Calls Tryd.prog 16 #[.pointer (some ⟨g, 0, none⟩), .int .i64 12] w fun e w' => ∃ (v : Value) (xs : List ByteArray), e = .returned v ∧ Own strE 9 w.heap.size w' v xs ∧ xs.length ≤ 12 ∧ (∀ s ∈ xs, File.okLine s = true ∧ s.size ≤ 40) ∧ Only g w w' := by
  have := mk_spec (g + 1) w g 0 12 h (Nat.zero_lt_succ _) (by decide)
  refine this.mono ?_
  rintro e w' ⟨v, xs, k', rfl, h1, h2, h3, _, _, h4⟩
  exact ⟨v, xs, rfl, h1, h2, h3, h4⟩
set_option maxHeartbeats 4000000 in
theorem alike_law (A : Option Addr) (bs : List Int) (c : Nat) (A' : Option Addr) (bs' : List Int) (c' : Nat) (w : World) (hs : Sl byteE w A bs) (hs' : Sl byteE w A' bs') (ht : Tab w) :
    Calls Tryd.prog 7 #[.slice A bs.length c, .slice A' bs'.length c'] w fun e w' => e = .returned (.bool true) ∧ Below w.heap.size w w' := by
  have HT := Lib.hid ht
  clear ht
  have hmf : ∀ (fn : Fn) (first cap : Array Value) (w : World), (Instr.makeFunc fn first cap).run Tryd.prog w = .ok (.func fn first cap) w := fun _ _ _ _ => rfl
  go_enter Tryd.func7, Tryd.ntmps7
  go_wp2_with fail
  refine (wound_spec A bs c w hs).mono ?_
  rintro e w1 ⟨_, rfl, rfl, hsp1, hb1⟩
  go_wp2_with fail
  refine (mk12 w.heap.size w1 hsp1).mono ?_
  rintro e w2 ⟨va, a, rfl, hoa, hla, hga, ho2⟩
  have hz1 := hb1.size
  have hb02 : Below w.heap.size w w2 := hb1.trans (ho2.below.mono (by omega))
  have HOA := Lib.hid (hoa.base hz1)
  clear hoa ho2 hsp1 hb1 hs
  go_wp2_with fail
  refine (wound_spec A' bs' c' w2 (hs'.below hb02)).mono ?_
  rintro e w3 ⟨_, rfl, rfl, hsp3, hb3⟩
  go_wp2_with fail
  refine (mk12 w2.heap.size w3 hsp3).mono ?_
  rintro e w4 ⟨vb, b, rfl, hob, hlb, hgb, ho4⟩
  have hz3 := hb3.size
  have hb24 : Below w2.heap.size w2 w4 := hb3.trans (ho4.below.mono (by omega))
  have hz2 := hb02.size
  have HOA4 := Lib.hid (HOA.out.below hb24)
  have HOB4 := Lib.hid (hob.base (Nat.le_trans hz2 hz3))
  have hb04 := hb02.next hb24 (Nat.le_refl _)
  obtain ⟨Aa, ca, rfl, hca, _⟩ := HOA4.out.form
  obtain ⟨Ab, cb, rfl, hcb, _⟩ := HOB4.out.form
  have HCA := Lib.hid (good_mk hla (by omega) hga)
  have HCB := Lib.hid (good_mk hlb (by omega) hgb)
  clear HOA hob hsp3 hb3 ho4 hs' hb02 hb24 hga hgb
  have hbB : Below w4.heap.size w4 (w4.alloc (.cells #[.slice Ab b.length cb] 23)) := (Below.refl _ _).alloc (Nat.le_refl _) _
  have hBB : Blk (w4.alloc (.cells #[.slice Ab b.length cb] 23)) w4.heap.size 23 #[.slice Ab b.length cb] := Blk.new _ _ _
  go_upto_region 2 with fail
  generalize w4.alloc (.cells #[.slice Ab b.length cb] 23) = w5 at *
  have hA5 := HOA4.out.sl.below hbB
  have hB5 := HOB4.out.sl.below hbB
  have hb05 := hb04.next hbB (Nat.le_refl _)
  have m0 := hBB.cell 0
  have ml := hBB.lt
  clear HOA4 HOB4 hb04 hbB
  by_cases h0 : a.length + b.length = 0
  · have HXY := Lib.hid (alike_none HCA.out HCB.out h0)
    have HYX := Lib.hid (alike_none HCB.out HCA.out (by omega))
    have HAL := Alike_spec Aa a ca Ab b cb w5 (by unfold big; omega) (by unfold big; omega) hA5 hB5
    rw [HXY.out] at HAL
    go_wp2_with fail
    refine HAL.mono ?_
    rintro e w6 ⟨rfl, hb6⟩
    have hx7 : Below w6.heap.size w6 (w6.alloc (.cells #[iv 0, iv 0] 54)) := (Below.refl _ _).alloc (Nat.le_refl _) _
    have hX7 : Blk (w6.alloc (.cells #[iv 0, iv 0] 54)) w6.heap.size 54 #[iv 0, iv 0] := Blk.new _ _ _
    go_upto_region 3 with fail
    generalize w6.alloc (.cells #[iv 0, iv 0] 54) = w7 at *
    have hb57 : Below w5.heap.size w5 w7 := hb6.next hx7 (Nat.le_refl _)
    have hB7 := hBB.under hb57
    have m70 := hB7.cell 0
    have m7l := hB7.lt
    have HAM := Alike_spec Ab b cb Aa a ca w7 (by unfold big; omega) (by unfold big; omega) (hB5.below hb57) (hA5.below hb57)
    rw [HYX.out] at HAM
    clear HAL hb6 hx7 m0 ml
    go_wp2_with fail
    refine HAM.mono ?_
    rintro e w8 ⟨rfl, hb8⟩
    have hx9 : Below w8.heap.size w8 (w8.alloc (.cells #[iv 0, iv 0] 54)) := (Below.refl _ _).alloc (Nat.le_refl _) _
    have hX9 : Blk (w8.alloc (.cells #[iv 0, iv 0] 54)) w8.heap.size 54 #[iv 0, iv 0] := Blk.new _ _ _
    go_upto_region 4 with fail
    generalize w8.alloc (.cells #[iv 0, iv 0] 54) = w9 at *
    have hb79 : Below w7.heap.size w7 w9 := hb8.next hx9 (Nat.le_refl _)
    have hb59 := hb57.next hb79 (Nat.le_refl _)
    have hXR := hX7.under hb79
    have hBR := hB7.under hb79
    have hAR := hA5.below hb59
    have hbR := hB5.below hb59
    have hb09 := hb05.next hb59 (Nat.le_refl _)
    have r0 := hBR.cell 0
    have rl := hBR.lt
    clear HAM hb57 hB7 m70 m7l hX7 hb8 hx9 hb79 hb59 hA5 hB5 hBB
    have hz : ((a.length : Int) + (b.length : Int)) = 0 := by omega
    have hla0 : a.length = 0 := by omega
    have hlb0 : b.length = 0 := by omega
    have heqr := eqRatioG
    have n0 := hXR.cell 0
    have n1 := hXR.cell 1
    have nl := hXR.lt
    rw [hla0, hlb0]
    go_wp2_with fail
    refine (awake_spec _ (HT.out.below hb09)).mono ?_
    rintro e wz ⟨rfl, hbz⟩
    go_wp2_with fail
    go_ret
    exact ⟨rfl, hb09.next hbz (Nat.le_refl _)⟩
  · have hpos : 0 < a.length + b.length := by omega
    have HXY := Lib.hid (alike_some HCA.out HCB.out hpos)
    have HYX := Lib.hid (alike_some HCB.out HCA.out (by omega))
    have hyx : File.ratio (2 * File.lcs b a) (b.length + a.length) = File.ratio (2 * File.lcs a b) (a.length + b.length) := by rw [File.lcs_comm, Nat.add_comm]
    rw [hyx] at HYX
    have hr1 := (File.ratio_pos (x := 2 * File.lcs a b) hpos).2
    have hr2 : (File.ratio (2 * File.lcs a b) (a.length + b.length)).1 ≤ (File.ratio (2 * File.lcs a b) (a.length + b.length)).2 := File.ratio_le (by have := File.lcs_most a b; have := File.lcs_most_r a b; omega)
    have hr3 := File.ratio_one (x := 2 * File.lcs a b) hpos
    have hr4 := File.ratio_zero (x := 2 * File.lcs a b) hpos
    have HM := Lib.hid (fun e => File.alike_more a b e hpos)
    have hr5 : (File.ratio (2 * File.lcs a b) (a.length + b.length)).2 ≤ 24 := Nat.le_trans (Nat.div_le_self _ _) (by omega)
    generalize File.ratio (2 * File.lcs a b) (a.length + b.length) = R at *
    obtain ⟨p, q⟩ := R
    simp only at hr1 hr2 hr5 HM HXY HYX
    have HAL := Alike_spec Aa a ca Ab b cb w5 (by unfold big; omega) (by unfold big; omega) hA5 hB5
    rw [HXY.out] at HAL
    go_wp2_with fail
    refine HAL.mono ?_
    rintro e w6 ⟨rfl, hb6⟩
    have hx7 : Below w6.heap.size w6 (w6.alloc (.cells #[iv (p : Int), iv (q : Int)] 54)) := (Below.refl _ _).alloc (Nat.le_refl _) _
    have hX7 : Blk (w6.alloc (.cells #[iv (p : Int), iv (q : Int)] 54)) w6.heap.size 54 #[iv (p : Int), iv (q : Int)] := Blk.new _ _ _
    go_upto_region 3 with fail
    generalize w6.alloc (.cells #[iv (p : Int), iv (q : Int)] 54) = w7 at *
    have hb57 : Below w5.heap.size w5 w7 := hb6.next hx7 (Nat.le_refl _)
    have hB7 := hBB.under hb57
    have m70 := hB7.cell 0
    have m7l := hB7.lt
    have HAM := Alike_spec Ab b cb Aa a ca w7 (by unfold big; omega) (by unfold big; omega) (hB5.below hb57) (hA5.below hb57)
    rw [HYX.out] at HAM
    clear HAL hb6 hx7 m0 ml
    go_wp2_with fail
    refine HAM.mono ?_
    rintro e w8 ⟨rfl, hb8⟩
    have hx9 : Below w8.heap.size w8 (w8.alloc (.cells #[iv (p : Int), iv (q : Int)] 54)) := (Below.refl _ _).alloc (Nat.le_refl _) _
    have hX9 : Blk (w8.alloc (.cells #[iv (p : Int), iv (q : Int)] 54)) w8.heap.size 54 #[iv (p : Int), iv (q : Int)] := Blk.new _ _ _
    go_upto_region 4 with fail
    generalize w8.alloc (.cells #[iv (p : Int), iv (q : Int)] 54) = w9 at *
    have hb79 : Below w7.heap.size w7 w9 := hb8.next hx9 (Nat.le_refl _)
    have hb59 := hb57.next hb79 (Nat.le_refl _)
    have hXR := hX7.under hb79
    have hBR := hB7.under hb79
    have hAR := hA5.below hb59
    have hbR := hB5.below hb59
    have hb09 := hb05.next hb59 (Nat.le_refl _)
    have r0 := hBR.cell 0
    have rl := hBR.lt
    clear HAM hb57 hB7 m70 m7l hX7 hb8 hx9 hb79 hb59 hA5 hB5 hBB
    have hz : ¬ ((a.length : Int) + (b.length : Int)) = 0 := by omega
    have hz2 : (((a.length : Int) + (b.length : Int)) == 0) = false := by simpa using hz
    have HY := hX9
    have hCF := containsS Aa a ca 32 #[.pointer (some ⟨w4.heap.size, 0, none⟩)] (fun x => b.any fun y => decide (x = y)) w9 (by unfold big; omega) hAR ⟨callFunc_run (by kernel_rfl), fun x hx w' hw' => alike1 x w4.heap.size Ab b cb w' (by unfold big; omega) (hbR.below hw') (hBR.under hw')⟩
    obtain ⟨met, hmet⟩ : ∃ met, met = a.any fun x => b.any fun y => decide (x = y) := ⟨_, rfl⟩
    rw [← hmet] at hCF
    have hb1 : ((p : Int) == 1 && (q : Int) == 1) = decide (a = b) := by
      have h1 : (p : Int) = 1 ∧ (q : Int) = 1 ↔ a = b := by
        have hpe : (p : Int) = 1 ∧ (q : Int) = 1 ↔ (p, q) = (1, 1) := by
          rw [Prod.mk.injEq]; omega
        rw [hpe, hr3]
        constructor
        · intro h
          have h2 := File.lcs_most a b
          have h3 := File.lcs_most_r a b
          exact File.lcs_all (by omega) (by omega)
        · rintro rfl
          rw [File.lcs_self]; omega
      by_cases hab : a = b
      · have := h1.2 hab
        simp [hab, this.1, this.2]
      · have hn : ¬ ((p : Int) = 1 ∧ (q : Int) = 1) := fun h => hab (h1.1 h)
        rw [decide_eq_false hab]
        by_cases hp1 : (p : Int) = 1
        · have hq1 : ¬ (q : Int) = 1 := fun h => hn ⟨hp1, h⟩
          simp [hq1]
        · simp [hp1]
    have hb2 : ((p : Int) == 0 && (q : Int) == 1) = !met := by
      have h1 : (p : Int) = 0 ∧ (q : Int) = 1 ↔ met = false := by
        have hpe : (p : Int) = 0 ∧ (q : Int) = 1 ↔ (p, q) = (0, 1) := by
          rw [Prod.mk.injEq]; omega
        rw [hpe, hr4, hmet, List.any_eq_false]
        have h2 : 2 * File.lcs a b = 0 ↔ File.lcs a b = 0 := by omega
        rw [h2, File.lcs_met]
        constructor
        · intro h x hx
          simp only [List.any_eq_true, decide_eq_true_eq, not_exists, not_and]
          rintro y hy rfl
          exact h x hx hy
        · intro h x hx hy
          have := h x hx
          simp only [List.any_eq_true, decide_eq_true_eq, not_exists, not_and] at this
          exact this x hy rfl
      cases hmm : met
      · have := h1.2 hmm
        simp [this.1, this.2]
      · have hn : ¬ ((p : Int) = 0 ∧ (q : Int) = 1) := fun h => by rw [h1.1 h] at hmm; cases hmm
        by_cases hp1 : (p : Int) = 0
        · have hq1 : ¬ (q : Int) = 1 := fun h => hn ⟨hp1, h⟩
          simp [hq1]
        · have hp0 : ((p : Int) == 0) = false := by simpa using hp1
          rw [hp0]; rfl
    have heq1 : ∀ w, (Op.equalIn 10000 54 (.agg #[iv (p : Int), iv (q : Int)]) (.agg #[iv (p : Int), iv (q : Int)])).run Tryd.prog w = .ok true w := fun w => by rw [eqRatioG]; simp
    have heq2 : ∀ w, (Op.equalIn 10000 54 (.agg #[iv (p : Int), iv (q : Int)]) (.agg #[iv 1, iv 1])).run Tryd.prog w = .ok (decide (a = b)) w := fun w => by rw [eqRatioG, hb1]
    have heq3 : ∀ w, (Op.equalIn 10000 54 (.agg #[iv (p : Int), iv (q : Int)]) (.agg #[iv 0, iv 1])).run Tryd.prog w = .ok (!met) w := fun w => by rw [eqRatioG, hb2]
    obtain ⟨bE, hbE⟩ : ∃ bE, bE = decide (a = b) := ⟨_, rfl⟩
    have HEQ : ∀ W, Below w9.heap.size w9 W → Hid (Calls Tryd.prog 15 #[.slice Aa a.length ca, .slice Ab b.length cb] W fun e w' => e = .returned (.bool bE) ∧ ∃ m, w' = W.drewN m) := fun W hW => Lib.hid (by
      rw [hbE]; exact equalQ Aa a ca Ab b cb W (by unfold big; omega) (hAR.below hW) (by unfold big; omega) (hbR.below hW))
    rw [← hbE] at heq2
    have hlp : ¬ (p : Int) < 0 := by omega
    have hlq : ¬ (q : Int) < 1 := by omega
    have hpq : ¬ (q : Int) < (p : Int) := by omega
    clear hb1 hb2 hmet hbE hr3 hr4
    go_wp2_with fail
    refine hCF.mono ?_
    rintro e wc ⟨rfl, hbc⟩
    have hXc := hXR.under hbc
    have hYc := HY.under hbc
    have hBc := hBR.under hbc
    have x0 := hXc.cell 0
    have x1 := hXc.cell 1
    have xl := hXc.lt
    have y0 := hYc.cell 0
    have y1 := hYc.cell 1
    have yl := hYc.lt
    have c0 := hBc.cell 0
    have cl := hBc.lt
    clear hCF r0 rl
    go_upto_region 7 with fail
    have HEQ2 : ∀ n, Hid (Calls Tryd.prog 15 #[.slice Aa a.length ca, .slice Ab b.length cb] (wc.drewN n) fun e w' => e = .returned (.bool bE) ∧ ∃ m, w' = (wc.drewN n).drewN m) := fun n => HEQ _ ⟨hbc.os, hbc.tape, hbc.output, hbc.size, hbc.block⟩
    clear HEQ
    go_cut [98] from 55 to 98 (fun v wx => v = .bool false ∧ Below wc.heap.size wc wx)
    case first =>
      cases bE <;> cases met
      all_goals go_quiet (exact Calls.quiet_of (HEQ2 _).out)
      all_goals go_wp2
      all_goals go_meet
      all_goals exact ⟨congrArg Value.bool (by rw [decide_eq_false (by omega), decide_eq_false (by omega), decide_eq_false (by omega)]; rfl), rfl, rfl, rfl, Nat.le_refl _, fun _ _ => rfl⟩
    case rest =>
      obtain ⟨rfl, hbx⟩ := hcut
      generalize wc = w10 at *
      have hXd := hXc.under hbx
      have hb9x := hbc.next hbx (Nat.le_refl _)
      have hA10 := hAR.below hb9x
      have hB10 := hbR.below hb9x
      have hBox := hBR.under hb9x
      have hb0x := hb09.next hb9x (Nat.le_refl _)
      obtain ⟨en, hen⟩ : ∃ en : ByteArray, en = ⟨#[101, 110, 100]⟩ := ⟨_, rfl⟩
      have hpos2 : 0 < (a ++ [en]).length + (b ++ [en]).length := by simp only [List.length_append, List.length_singleton]; omega
      have HZZ := Lib.hid (alike_some (a := a ++ [en]) (b := b ++ [en]) (by rw [hen]; exact check_snoc HCA.out hla) (by rw [hen]; exact check_snoc HCB.out hlb) hpos2)
      have hme := HM.out en
      have hq2 := (File.ratio_pos (x := 2 * File.lcs (a ++ [en]) (b ++ [en])) hpos2).2
      have hq3 : (File.ratio (2 * File.lcs (a ++ [en]) (b ++ [en])) ((a ++ [en]).length + (b ++ [en]).length)).1 ≤ 26 ∧ (File.ratio (2 * File.lcs (a ++ [en]) (b ++ [en])) ((a ++ [en]).length + (b ++ [en]).length)).2 ≤ 26 := by
        have h1 := File.lcs_most (a ++ [en]) (b ++ [en])
        have h2 : (a ++ [en]).length = a.length + 1 := by simp
        have h3 : (b ++ [en]).length = b.length + 1 := by simp
        refine ⟨Nat.le_trans (Nat.div_le_self _ _) (by omega), Nat.le_trans (Nat.div_le_self _ _) (by omega)⟩
      generalize File.ratio (2 * File.lcs (a ++ [en]) (b ++ [en])) ((a ++ [en]).length + (b ++ [en]).length) = R2 at *
      obtain ⟨p2, q2⟩ := R2
      simp only at hme hq2 hq3 HZZ
      have HAL2 : Hid (∀ (Ax : Option Addr) (cx : Nat) (Ay : Option Addr) (cy : Nat) (x : World), Sl strE x Ax (a ++ [en]) → Sl strE x Ay (b ++ [en]) → Calls Tryd.prog 30 #[.slice Ax (a ++ [en]).length cx, .slice Ay (b ++ [en]).length cy] x fun e w' => e = .returned (.tuple #[.agg #[iv (p2 : Int), iv (q2 : Int)], iv 0]) ∧ Below x.heap.size x w') := Lib.hid fun Ax cx Ay cy x h1 h2 => by
        have := Alike_spec Ax (a ++ [en]) cx Ay (b ++ [en]) cy x (by unfold big; rw [List.length_append]; simp; omega) (by unfold big; rw [List.length_append]; simp; omega) h1 h2
        rw [HZZ.out] at this
        exact this
      have HCLA : Hid (∀ x, Below w10.heap.size w10 x → Calls Tryd.prog 20 #[.slice Aa a.length ca] x fun e w' => ∃ v, e = .returned v ∧ Own strE 9 x.heap.size w' v a ∧ Below x.heap.size x w') := Lib.hid fun x hx => cloneS Aa a ca x (by unfold big; omega) (hA10.below hx)
      have HCLB : Hid (∀ x, Below w10.heap.size w10 x → Calls Tryd.prog 20 #[.slice Ab b.length cb] x fun e w' => ∃ v, e = .returned v ∧ Own strE 9 x.heap.size w' v b ∧ Below x.heap.size x w') := Lib.hid fun x hx => cloneS Ab b cb x (by unfold big; omega) (hB10.below hx)
      clear hbx hb9x hA10 hB10 hXc hYc hBc x0 x1 xl y0 y1 yl c0 cl hbc HEQ2 heq1 heq2 heq3 hAR hbR hBR hb09 hXR HY hz hz2 hlp hlq hpq HM HZZ hpos2
      go_upto_region 9 with fail
      refine wp_inv_lit (by kernel_rfl) 14 (by kernel_rfl) (by kernel_rfl) (by decide) (JI w10.heap.size w10 (.slice Aa a.length ca) (.slice Ab b.length cb) a b en p2 q2) (fun v => ⟨(Below.refl _ w10).drew, fun e => (by cases e), fun e => (by cases e), fun e => (by cases e), fun e => (by cases e), fun e => (by cases e), fun e => (by cases e), fun e => (by cases e), fun e => (by cases e), fun e => (by cases e), fun e => (by cases e), fun e => (by cases e), fun e => (by cases e), fun e => (by cases e), fun e => (by cases e), fun e => (by cases e), fun e => (by cases e)⟩) ?_ ?_
      · simp only [List.take_succ_cons, List.take_zero, InvL]
        refine ⟨?_, ?_, ?_, ?_, ?_, ?_, ?_, ?_, ?_, ?_, ?_, ?_, ?_, ?_, trivial⟩
        · refine ⟨fun T v x hI hT hk hcl => ?_⟩
          simp only [List.take_succ_cons, List.take_zero, frameF, Act.put, List.setIfInBounds_toArray, List.set_cons_zero, List.set_cons_succ]
          exact stepF_val (by rfl) (by go_simp) (hI.s0 rfl)
        · refine ⟨fun T v x hI hT hk hcl => ?_⟩
          simp only [List.take_succ_cons, List.take_zero, frameF, Act.put, List.setIfInBounds_toArray, List.set_cons_zero, List.set_cons_succ]
          have h0 := hI.f0 (hk 0 (by kernel_rfl))
          refine stepF_call (by rfl) (by go_simp) (HCLA.out x hI.bel) ?_
          rintro e x' ⟨r, rfl, ho, hb⟩
          exact ⟨_, rfl, hI.s1 hb rfl ho fun e => hcl 7 e 3 (by kernel_rfl)⟩
        · refine ⟨fun T v x hI hT hk hcl => ?_⟩
          simp only [List.take_succ_cons, List.take_zero, frameF, Act.put, List.setIfInBounds_toArray, List.set_cons_zero, List.set_cons_succ]
          exact stepF_new (u := .slice (some ⟨x.heap.size, 0, none⟩) 1 1) (w' := x.alloc (.cells #[.string en] 9)) (by rfl) (by rw [hen]; go_simp) (hI.s2 ((Below.refl _ _).alloc (Nat.le_refl _) _) rfl (Own.ofBlk (xs := [en]) (Blk.new _ _ _) (Nat.le_refl _) (by simp [maxLen])))
        · refine ⟨fun T v x hI hT hk hcl => ?_⟩
          simp only [List.take_succ_cons, List.take_zero, frameF, Act.put, List.setIfInBounds_toArray, List.set_cons_zero, List.set_cons_succ]
          have t1 := hk 1 (by kernel_rfl)
          have t2 := hk 2 (by kernel_rfl)
          have o1 := hI.f1 t1 hT
          obtain ⟨g2, c2, e2, _, _⟩ := Own.at0 (hI.f2 t2 hT) (by simp)
          have o2 := hI.f2 t2 hT
          rw [e2] at o2
          refine stepF_app strE tyStrs (by rfl) _ _ (by rfl) o1 o2.sl rfl (by first | rfl | exact rfl) (by first | exact e2 | rfl) (Nat.le_trans (Nat.le_refl _) hI.bel.size) (by unfold big; simp; omega) ?_
          intro v' x' hown hb hkk
          exact hI.s3 hown hb hkk t1 hT (fun e => hcl 5 e 3 (by kernel_rfl)) (fun e => hcl 7 e 3 (by kernel_rfl))
        · refine ⟨fun T v x hI hT hk hcl => ?_⟩
          simp only [List.take_succ_cons, List.take_zero, frameF, Act.put, List.setIfInBounds_toArray, List.set_cons_zero, List.set_cons_succ]
          have hBx := hBox.under hI.bel
          have b0 := hBx.cell 0
          have bl := hBx.lt
          exact stepF_val (by rfl) (by go_simp) (hI.s4 rfl)
        · refine ⟨fun T v x hI hT hk hcl => ?_⟩
          simp only [List.take_succ_cons, List.take_zero, frameF, Act.put, List.setIfInBounds_toArray, List.set_cons_zero, List.set_cons_succ]
          have h4 := hI.f4 (hk 4 (by kernel_rfl))
          refine stepF_call (by rfl) (by go_simp) (HCLB.out x hI.bel) ?_
          rintro e x' ⟨r, rfl, ho, hb⟩
          exact ⟨_, rfl, hI.s5 hb rfl ho⟩
        · refine ⟨fun T v x hI hT hk hcl => ?_⟩
          simp only [List.take_succ_cons, List.take_zero, frameF, Act.put, List.setIfInBounds_toArray, List.set_cons_zero, List.set_cons_succ]
          exact stepF_new (u := .slice (some ⟨x.heap.size, 0, none⟩) 1 1) (w' := x.alloc (.cells #[.string en] 9)) (by rfl) (by rw [hen]; go_simp) (hI.s6 ((Below.refl _ _).alloc (Nat.le_refl _) _) rfl (Own.ofBlk (xs := [en]) (Blk.new _ _ _) (Nat.le_refl _) (by simp [maxLen])))
        · refine ⟨fun T v x hI hT hk hcl => ?_⟩
          simp only [List.take_succ_cons, List.take_zero, frameF, Act.put, List.setIfInBounds_toArray, List.set_cons_zero, List.set_cons_succ]
          have t3 := hk 3 (by kernel_rfl)
          have t5 := hk 5 (by kernel_rfl)
          have t6 := hk 6 (by kernel_rfl)
          have o5 := hI.f5 t5 hT
          obtain ⟨g6, c6, e6, _, _⟩ := Own.at0 (hI.f6 t6 hT) (by simp)
          have o6 := hI.f6 t6 hT
          rw [e6] at o6
          refine stepF_app strE tyStrs (by rfl) _ _ (by rfl) o5 o6.sl rfl (by first | rfl | exact rfl) (by first | exact e6 | rfl) (Nat.le_trans (Nat.le_refl _) hI.bel.size) (by unfold big; simp; omega) ?_
          intro v' x' hown hb hkk
          exact hI.s7 hown hb hkk t3 t5 hT
        · refine ⟨fun T v x hI hT hk hcl => ?_⟩
          simp only [List.take_succ_cons, List.take_zero, frameF, Act.put, List.setIfInBounds_toArray, List.set_cons_zero, List.set_cons_succ]
          have o3 := hI.f3 (hk 3 (by kernel_rfl))
          have o7 := hI.f7 (hk 7 (by kernel_rfl))
          obtain ⟨A3, c3, e3, _, _⟩ := o3.form
          obtain ⟨A7, c7, e7, _, _⟩ := o7.form
          rw [e3] at o3
          rw [e7] at o7
          refine stepF_call (by rfl) (by go_simp) (HAL2.out A3 c3 A7 c7 x o3.sl o7.sl) ?_
          rintro e x' ⟨rfl, hb⟩
          exact ⟨_, rfl, hI.s8 hb rfl rfl⟩
        · refine ⟨fun T v x hI hT hk hcl => ?_⟩
          simp only [List.take_succ_cons, List.take_zero, frameF, Act.put, List.setIfInBounds_toArray, List.set_cons_zero, List.set_cons_succ]
          have h8 := hI.f8 (hk 8 (by kernel_rfl))
          exact stepF_val (by rfl) (by go_simp) (hI.s9 rfl)
        · refine ⟨fun T v x hI hT hk hcl => ?_⟩
          simp only [List.take_succ_cons, List.take_zero, frameF, Act.put, List.setIfInBounds_toArray, List.set_cons_zero, List.set_cons_succ]
          have h9 := hI.f9 (hk 9 (by kernel_rfl))
          exact stepF_val (by rfl) (by go_simp) (hI.s10 rfl)
        · refine ⟨fun T v x hI hT hk hcl => ?_⟩
          simp only [List.take_succ_cons, List.take_zero, frameF, Act.put, List.setIfInBounds_toArray, List.set_cons_zero, List.set_cons_succ]
          have h9 := hI.f9 (hk 9 (by kernel_rfl))
          exact stepF_val (by rfl) (by go_simp) (hI.s11 rfl)
        · refine ⟨fun T v x hI hT hk hcl => ?_⟩
          simp only [List.take_succ_cons, List.take_zero, frameF, Act.put, List.setIfInBounds_toArray, List.set_cons_zero, List.set_cons_succ]
          exact stepF_new (u := .pointer (some ⟨x.heap.size, 0, none⟩)) (w' := x.alloc (.cells #[iv 0, iv 0] 54)) (by rfl) (by go_simp) (hI.s12 rfl rfl (fun e => hcl 13 e 12 (by kernel_rfl)) hT)
        · refine ⟨fun T v x hI hT hk hcl => ?_⟩
          simp only [List.take_succ_cons, List.take_zero, frameF, Act.put, List.setIfInBounds_toArray, List.set_cons_zero, List.set_cons_succ]
          have h10 := hI.f10 (hk 10 (by kernel_rfl))
          obtain ⟨gb, h12, hgb, hBx⟩ := hI.f12 (hk 12 (by kernel_rfl)) hT
          have z0 := hBx.cell 0
          have z1 := hBx.cell 1
          have zl := hBx.lt
          have y0 := hBx.frozen 0
          have y1 := hBx.frozen 1
          exact stepF_skip (w' := (x.setCell ⟨gb, 0, none⟩ (iv p2)).setCell ⟨gb, 1, none⟩ (iv q2)) (by rfl) (by go_simp) (hI.s13 h12 hgb hBx (hk 3 (by kernel_rfl)) (hk 7 (by kernel_rfl)))
      · intro T v x hall hI
        have h11 := hI.f11 (hall 11 (by decide))
        obtain ⟨gb, h12, hgb, hBx⟩ := hI.f13 (hall 12 (by decide)) (hall 13 (by decide))
        have hXx := hXd.under hI.bel
        have hb0y := hb0x.next hI.bel (Nat.le_refl _)
        have hgx : gb ≠ w6.heap.size := by have := hXd.lt; omega
        clear hall
        simp only [List.drop_succ_cons, List.drop_zero, List.take_succ_cons, List.take_zero, frameF, Act.put, List.setIfInBounds_toArray, List.set_cons_zero, List.set_cons_succ, h11, h12]
        have z0 := hBx.cell 0
        have z1 := hBx.cell 1
        have zl := hBx.lt
        have w0 := hXx.cell 0
        have w1 := hXx.cell 1
        have wl := hXx.lt
        have hpp1 : p2 * q ≤ 26 * 24 := Nat.mul_le_mul hq3.1 hr5
        have hpp2 : p * q2 ≤ 26 * 24 := Nat.le_trans hme hpp1
        have hle : (p : Int) * (q2 : Int) ≤ (p2 : Int) * (q : Int) := by exact_mod_cast hme
        have hc1 : ((p2 * q : Nat) : Int) = (p2 : Int) * (q : Int) := by push_cast; rfl
        have hc2 : ((p * q2 : Nat) : Int) = (p : Int) * (q2 : Int) := by push_cast; rfl
        have hw1 : IntKind.i64.wrap ((p2 : Int) * (q : Int)) = (p2 : Int) * (q : Int) := IntWalk.i64_in _ (by omega)
        have hw2 : IntKind.i64.wrap ((p : Int) * (q2 : Int)) = (p : Int) * (q2 : Int) := IntWalk.i64_in _ (by omega)
        have hq2i : (0 : Int) < (q2 : Int) := by omega
        have HAW := Lib.hid (awake_spec x (HT.out.below hb0y))
        clear hme hpp1 hpp2 hc1 hc2
        go_wp2_with fail
        refine HAW.out.mono ?_
        rintro e wz ⟨rfl, hbz⟩
        go_wp2_with fail
        go_ret
        exact ⟨rfl, hb0y.next hbz (Nat.le_refl _)⟩
end Fl
end Go.Proofs.YtkhmkpcihphkcaaDoor
