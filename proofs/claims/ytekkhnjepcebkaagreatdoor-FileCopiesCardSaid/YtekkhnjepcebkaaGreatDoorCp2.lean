/- What the proof of the claim's theorem uses, part 2. The conditions stand in each statement. -/
import Derived.WalkKit
import Derived.WalkSpells
import Derived.WalkLawsBesides
import Derived.WalkSmall
import Derived.Lib.Hide
import Derived.Laws.OwnMore
import Derived.Laws.CopyOwn
import Derived.Deep.Draws
import Derived.Laws.AppendOwnNone
import Derived.Test.YtekkhnjepcebkaaGreatDoorProg
import Derived.Outline
import Derived.BigQuiet
import Derived.Deep.QuietTactic
import Derived.Lib.OthersKept
import Derived.Laws.EntriesVeiled
import Derived.Shelf.Strings.Builder1
import Derived.Shelf.LaysM
import Derived.Shelf.Strconv.Itoa3
import Derived.Orders
import Derived.RegionTactic
import Derived.BigRegion
import Derived.Deep.DeepCutAuto
import Derived.Maps.OwnRows
import Derived.Maps.GroupsBeside
import Derived.Deep.RegionHeld3
import Derived.Lib.SliceRun
import Derived.RangeFuncNested
import Derived.RangeFuncBound
import Derived.RangeFuncCalls
import Derived.RangeFuncLeaves
import Derived.Shelf.Abstract
import Derived.Shelf.RegionOpen
import Derived.OwnWalkIn
import Derived.TacticsInMore
import Derived.LoopNIn
import Derived.LoopIn
import Derived.Sort.QuietIn
import Derived.Deep.Quiet
import Derived.Maps.AppendAt
import Derived.Shelf.Bits.Mul64
import Derived.ArgAppend
import Derived.Lib.MinMax
import Derived.ChangeKeysEq
import Derived.WalkMore
import Derived.Deep.CutBlock
import Derived.Laws.BytesArg
import Derived.Laws.IdiomStrings
import Derived.Shelf.Spec.SlicesInsert
import Derived.Shelf.Spec.SlicesInsertGrow
import Derived.Deep.RegionLaw
import Derived.Test.YtekkhnjepcebkaaGreatDoorCards
import Derived.Test.YtekkhnjepcebkaaGreatDoorTie
import Derived.ProofKit
import Derived.Deep.DeepHandedRow
import Derived.Lib.LaidTab
import Derived.Stop.LaidErr
import Derived.ChangeSame
import Derived.RowKit3
import Derived.ReadAgain
import Derived.OpenShut
import Derived.ChangeSlices
import Derived.SliceStrings
import Derived.Deep.Slices
import Derived.Deep.Fields
import Derived.Test.YtekkhnjepcebkaaGreatDoorCp1
set_option linter.unusedVariables false
set_option linter.unusedSimpArgs false
section
namespace Go.Proofs.YtekkhnjepcebkaaGreatDoor
namespace Fl
open Go.RowKit
set_option maxRecDepth 100000
set_option maxHeartbeats 2000000 in
theorem rmeet_spec (x y : EdV) (w : World) (hx : 0 ≤ x.at_ ∧ x.at_ ≤ 24) (hy : 0 ≤ y.at_ ∧ y.at_ ≤ 24) (h1 : x.old.length ≤ 24) (h2 : y.old.length ≤ 24) :
    Calls Tryz.prog 77 #[x.v, y.v] w fun e w' => e = .returned (.bool (File.meet x.ed y.ed)) ∧ Below w.heap.size w w' := by
  obtain ⟨xa, xA, xc, xo, xA', xc', xn⟩ := x
  obtain ⟨ya, yA, yc, yo, yA', yc', yn⟩ := y
  simp only at hx hy h1 h2
  have hm : File.meet (EdV.ed ⟨xa, xA, xc, xo, xA', xc', xn⟩) (EdV.ed ⟨ya, yA, yc, yo, yA', yc', yn⟩) = (decide (xa ≤ ya + (yo.length : Int)) && decide (ya ≤ xa + (xo.length : Int))) := rfl
  rw [hm]
  have ew1 : IntKind.i64.wrap (ya + (yo.length : Int)) = ya + (yo.length : Int) := IntWalk.i64_in _ (by omega)
  have ew2 : IntKind.i64.wrap (xa + (xo.length : Int)) = xa + (xo.length : Int) := IntWalk.i64_in _ (by omega)
  simp only [EdV.v]
  by_cases hA : xa ≤ ya + (yo.length : Int)
  · rw [decide_eq_true hA, Bool.true_and]
    obtain ⟨t, ht⟩ : ∃ t, decide (ya ≤ xa + (xo.length : Int)) = t := ⟨_, rfl⟩
    rw [ht]
    go_enter Tryz.func77, Tryz.ntmps77
    go_wp2_with fail
    go_ret
    exact ⟨rfl, ((Below.refl _ _).alloc (Nat.le_refl _) _).alloc (by simp) _⟩
  · rw [decide_eq_false hA, Bool.false_and]
    go_enter Tryz.func77, Tryz.ntmps77
    go_wp2_with fail
    go_ret
    exact ⟨rfl, ((Below.refl _ _).alloc (Nat.le_refl _) _).alloc (by simp) _⟩
set_option maxHeartbeats 4000000 in
theorem rsame_spec (A : Option Addr) (xs : List ByteArray) (c : Nat) (A' : Option Addr) (ys : List ByteArray) (c' : Nat) (w : World) (hm : xs.length ≤ big) (hs : Sl strE w A xs) (hm' : ys.length ≤ big) (hs' : Sl strE w A' ys) :
    Calls Tryz.prog 79 #[.slice A xs.length c, .slice A' ys.length c'] w fun e w' => e = .returned (.bool (decide (xs = ys))) ∧ Below w.heap.size w w' := by
  unfold big at hm hm'
  by_cases hl : xs.length = ys.length
  · have hl' : ((xs.length : Int) != (ys.length : Int)) = false := by simp [hl]
    have HL := Lib.hid hl
    clear hl
    go_enter Tryz.func79, Tryz.ntmps79
    go_wp2
    go_loopw [5] (fun i wr => ∃ (k : Nat), k ≤ xs.length ∧ i = iv k ∧ Hid (xs.take k = ys.take k) ∧ Below w.heap.size w wr) (fun i _ => xs.length - (intOf i).toNat)
    case atStart => exact ⟨0, by omega, rfl, rfl, Below.refl _ _⟩
    case round =>
      obtain ⟨k, hk, rfl, hf, hbw⟩ := hrel
      by_cases hlt : k < xs.length
      · obtain ⟨b, off, p, rfl, hb, hp, hp0⟩ := Sl.atS (hs.below hbw) hlt
        obtain ⟨b', off', q, rfl, hb', hq, hq0⟩ := Sl.atS (hs'.below hbw) (by have := HL.out; omega : k < ys.length)
        have hly : (k : Int) < (ys.length : Int) := by have := HL.out; omega
        have hlx : (k : Int) < (xs.length : Int) := by omega
        have HP := Lib.hid hp
        have HQ := Lib.hid hq
        clear hp hq hs hs'
        have hsq := str_eq p q
        by_cases hpq : p = q
        · rw [decide_eq_true hpq] at hsq
          have HPQ := Lib.hid hpq
          clear hpq
          go_wp2
          go_quiet (fail)
          have hqd : Below w.heap.size w (wr.drewN nq) := ⟨hbw.os, hbw.tape, hbw.output, hbw.size, hbw.block⟩
          generalize wr.drewN nq = wq at *
          go_wp2
          go_roundw
          case rel => exact ⟨k + 1, by omega, by go_num, by
            show xs.take (k + 1) = ys.take (k + 1)
            rw [List.take_add_one, List.take_add_one, HP.out, HQ.out, HPQ.out, hf.out], hqd⟩
          case measure => simp [intOf]; omega
        · rw [decide_eq_false hpq] at hsq
          have HPQ := Lib.hid hpq
          clear hpq
          go_wp2
          go_quiet (fail)
          have hqd : Below w.heap.size w (wr.drewN nq) := ⟨hbw.os, hbw.tape, hbw.output, hbw.size, hbw.block⟩
          generalize wr.drewN nq = wq at *
          go_wp2
          go_ret
          exact ⟨ret_eq (by rw [decide_eq_false (take_ne' HP.out HQ.out HPQ.out)]; rfl), hqd⟩
      · have he : xs = ys := by
          have := hf.out
          rwa [List.take_of_length_le (by omega), List.take_of_length_le (by have := HL.out; omega)] at this
        have HE := Lib.hid he
        clear he
        go_wp2
        go_ret
        exact ⟨ret_eq (by rw [decide_eq_true HE.out]; rfl), (by first | exact hbw | exact hbw.drew)⟩
  · have hl' : ((xs.length : Int) != (ys.length : Int)) = true := by simp; omega
    go_enter Tryz.func79, Tryz.ntmps79
    go_wp2
    go_ret
    exact ⟨ret_eq (by rw [decide_eq_false (fun h => hl (by rw [h]))]; rfl), Below.refl _ _⟩
theorem hasGo_le {base : List ByteArray} {hi : Nat} : ∀ {c : List (File.Edit ByteArray)} {at_ : Nat}, (∀ x ∈ c, x.new.length ≤ 24) → (File.hasGo base hi at_ c).length ≤ base.length + c.length * (base.length + 24)
  | [], at_, _ => by
    unfold File.hasGo
    have := File.cut_len base at_ hi
    simp; omega
  | x :: r, at_, h => by
    have ih := hasGo_le (base := base) (hi := hi) (c := r) (at_ := x.hi) fun y hy => h y (List.mem_cons_of_mem _ hy)
    have h1 := h x (by simp)
    have h2 := File.cut_len base at_ x.lo
    unfold File.hasGo
    simp only [List.length_append, List.length_cons, Nat.add_mul]
    omega
set_option maxHeartbeats 8000000 in
theorem rhas_spec (A : Option Addr) (base : List ByteArray) (c : Nat) (A' : Option Addr) (vs : List EdV) (c' : Nat) (lo hi : Nat) (w : World) (ha : base.length ≤ 24) (hv : vs.length ≤ 30) (hac : base.length ≤ c) (hlh : lo ≤ hi) (hh : hi ≤ base.length)
    (hsa : Sl strE w A base) (hsv : Sl edE w A' vs) (hok : ∀ r ∈ vs, EdOk w r) (hsm : ∀ r ∈ vs, 0 ≤ r.at_ ∧ r.at_ ≤ 24 ∧ r.old.length ≤ 24 ∧ r.new.length ≤ 24) (hch : File.Chain lo (vs.map EdV.ed)) (hwi : File.Within hi (vs.map EdV.ed)) :
    Calls Tryz.prog 78 #[.slice A base.length c, .slice A' vs.length c', iv (lo : Int), iv (hi : Int)] w fun e w' => ∃ v, e = .returned v ∧ Own strE 9 w.heap.size w' v (File.hasGo base hi lo (vs.map EdV.ed)) ∧ Below w.heap.size w w' := by
  have hRl := hasGo_le (base := base) (hi := hi) (c := vs.map EdV.ed) (at_ := lo) (fun x hx => by
    obtain ⟨r, hr, rfl⟩ := List.mem_map.1 hx
    exact (hsm r hr).2.2.2)
  rw [List.length_map] at hRl
  have hRl2 : (File.hasGo base hi lo (vs.map EdV.ed)).length ≤ 2000 := by
    have : vs.length * (base.length + 24) ≤ 30 * 48 := Nat.mul_le_mul hv (by omega)
    omega
  obtain ⟨R, hR⟩ : ∃ R, R = File.hasGo base hi lo (vs.map EdV.ed) := ⟨_, rfl⟩
  rw [← hR] at hRl2
  rw [← hR]
  have HR := Lib.hid hR.symm
  have HOK := Lib.hid hok
  have HSM := Lib.hid hsm
  have HCH := Lib.hid hch
  have HWI := Lib.hid hwi
  clear hR hok hsm hch hwi hRl
  go_enter Tryz.func78, Tryz.ntmps78
  go_wp2_with fail
  go_loopw [9, 10, 11] (fun u v1 v2 wr => ∃ (k p : Nat) (out : List ByteArray), k ≤ vs.length ∧ p ≤ hi ∧ v1 = iv (p : Int) ∧ v2 = iv (k : Int) ∧ Hid (out ++ File.hasGo base hi p ((vs.map EdV.ed).drop k) = R) ∧ Hid (File.Chain p ((vs.map EdV.ed).drop k)) ∧ Hid (Own strE 9 w.heap.size wr u out) ∧ Below w.heap.size w wr) (fun _ _ v2 _ => vs.length - (intOf v2).toNat)
  case atStart => exact ⟨0, lo, [], Nat.zero_le _, hlh, rfl, rfl, HR, HCH, Own.nil, Below.refl _ _⟩
  case round =>
    clear HR HCH
    obtain ⟨k, p, out, hk, hp, rfl, rfl, HR, HCH, HO, hbr⟩ := hrel
    by_cases hlt : k < vs.length
    · have hki : (k : Int) < (vs.length : Int) := by omega
      obtain ⟨bv, ov, y, rfl, hbv, hy, _, _, _⟩ := Sl.atEd (hsv.below hbr) hlt
      have HCY : Hid (∀ W, Below w.heap.size w W → W.cell? ⟨bv, ov + k * 3, none⟩ = some (iv y.at_) ∧ W.cell? ⟨bv, ov + k * 3 + 1, none⟩ = some (.slice y.A y.old.length y.c) ∧ W.cell? ⟨bv, ov + k * 3 + 2, none⟩ = some (.slice y.A' y.new.length y.c')) := Lib.hid (Sl.cellEd hsv hy)
      have hys := HSM.out y (mem_at hy)
      have HYN : Hid (∀ W, Below w.heap.size w W → Sl strE W y.A' y.new) := Lib.hid fun W h => (HOK.out y (mem_at hy)).new.below h
      have hr := HR.out
      have hc := HCH.out
      have hw := HWI.out y.ed (List.mem_map_of_mem (mem_at hy))
      rw [drop_ed hy] at hr hc
      unfold File.hasGo at hr
      obtain ⟨hc1, hc2⟩ := hc
      have HC2 := Lib.hid hc2
      obtain ⟨ya, yA, yc, yo, yA', yc', yn⟩ := y
      simp only at hys HCY HYN
      obtain ⟨n, rfl⟩ : ∃ n : Nat, ya = (n : Int) := ⟨ya.toNat, by omega⟩
      have hr : out ++ (File.cut base p n ++ (yn ++ File.hasGo base hi (n + yo.length) ((vs.map EdV.ed).drop (k + 1)))) = R := hr
      have hw : n + yo.length ≤ hi := hw
      have hc1 : (p : Int) ≤ (n : Int) := hc1
      have HC3 : Hid (File.Chain (n + yo.length) ((vs.map EdV.ed).drop (k + 1))) := Lib.hid (HC2.out.weaken (Nat.le_succ _))
      obtain ⟨X1, n1, yb, hyb, hybl, _, hsy, hC1⟩ := cut_run' (i := p) (x := n) hac (by omega) (by omega) (hsa.below hbr)
      have HSY : Hid (∀ W, Below w.heap.size w W → Sl strE W X1 yb) := Lib.hid (by
        obtain ⟨X1', n1', yb', hyb', _, _, hsy', hC1'⟩ := cut_run' (i := p) (x := n) hac (by omega) (by omega) hsa
        have e1 := (hC1 wr).symm.trans (hC1' wr)
        have e2 : yb' = yb := by rw [hyb, hyb']
        subst e2
        injection e1 with e1 _
        injection e1 with e1 _ _
        subst e1
        exact fun W h => hsy'.below h)
      rw [← hyb] at hr
      have HR2 : Hid (((out ++ yb) ++ yn) ++ File.hasGo base hi (n + yo.length) ((vs.map EdV.ed).drop (k + 1)) = R) := Lib.hid (by rw [← hr]; simp)
      have HLEN : Hid (out.length + yb.length + yn.length ≤ 2000) := Lib.hid (by
        have := congrArg List.length HR2.out
        simp only [List.length_append] at this
        omega)
      have ewn : IntKind.i64.wrap ((n : Int) + (yo.length : Int)) = (n : Int) + (yo.length : Int) := IntWalk.i64_in _ (by omega)
      clear hr hc1 hc2 HC2 HCH HR hyb hsy hy
      go_upto_region 6 with fail
      refine wp_one_lit (by kernel_rfl) 15 (by kernel_rfl) (by kernel_rfl) (by decide) 9 (by decide) (fun x => Below w.heap.size wr x)
        [u9,
         .slice A base.length c,
         iv (p : Int),
         .slice (some ⟨bv, ov, none⟩) vs.length c',
         iv (k : Int),
         .pointer (some ⟨bv, ov + k * 3, none⟩),
         .pointer (some ⟨bv, ov + k * 3, none⟩),
         iv (n : Int),
         .slice X1 yb.length n1,
         undef,
         .slice (some ⟨bv, ov, none⟩) vs.length c',
         iv (k : Int),
         .pointer (some ⟨bv, ov + k * 3, none⟩),
         .pointer (some ⟨bv, ov + k * 3 + 2, none⟩),
         .slice yA' yn.length yc']
        (fun x => Own strE 9 w.heap.size x u9 out) (fun u x => Own strE 9 w.heap.size x u (out ++ yb)) ((Below.refl _ wr).drew) ?_ ?_ ?_
      rotate_left
      · simp only [List.take_succ_cons, List.take_zero, OneL]
        refine ⟨?_, ?_, ?_, ?_, ?_, ?_, ?_, ?_, ?_, ?_, ?_, ?_, ?_, ?_, ?_, trivial⟩
        · refine one_plain (by decide) fun v x hR hk => ?_
          simp only [List.take_succ_cons, List.take_zero, frameF, Act.put, List.setIfInBounds_toArray, List.set_cons_zero, List.set_cons_succ]
          exact stepF_val (by first | rfl | simp [Region.wanted, yielded, *]) (by go_simp <;> omega) ⟨rfl, rfl⟩
        · refine one_plain (by decide) fun v x hR hk => ?_
          simp only [List.take_succ_cons, List.take_zero, frameF, Act.put, List.setIfInBounds_toArray, List.set_cons_zero, List.set_cons_succ]
          exact stepF_val (by first | rfl | simp [Region.wanted, yielded, *]) (by go_simp <;> omega) ⟨rfl, rfl⟩
        · refine one_plain (by decide) fun v x hR hk => ?_
          simp only [List.take_succ_cons, List.take_zero, frameF, Act.put, List.setIfInBounds_toArray, List.set_cons_zero, List.set_cons_succ]
          exact stepF_val (by first | rfl | simp [Region.wanted, yielded, *]) (by go_simp <;> omega) ⟨rfl, rfl⟩
        · refine one_plain (by decide) fun v x hR hk => ?_
          simp only [List.take_succ_cons, List.take_zero, frameF, Act.put, List.setIfInBounds_toArray, List.set_cons_zero, List.set_cons_succ]
          exact stepF_val (by first | rfl | simp [Region.wanted, yielded, *]) (by go_simp <;> omega) ⟨rfl, rfl⟩
        · refine one_plain (by decide) fun v x hR hk => ?_
          simp only [List.take_succ_cons, List.take_zero, frameF, Act.put, List.setIfInBounds_toArray, List.set_cons_zero, List.set_cons_succ]
          exact stepF_val (by first | rfl | simp [Region.wanted, yielded, *]) (by go_simp <;> omega) ⟨rfl, rfl⟩
        · refine one_plain (by decide) fun v x hR hk => ?_
          have h3 : v 3 = .slice (some ⟨bv, ov, none⟩) vs.length c' := hk 3 (by kernel_rfl) (by decide)
          have h4 : v 4 = iv (k : Int) := hk 4 (by kernel_rfl) (by decide)
          simp only [List.take_succ_cons, List.take_zero, frameF, Act.put, List.setIfInBounds_toArray, List.set_cons_zero, List.set_cons_succ]
          exact stepF_val (by first | rfl | simp [Region.wanted, yielded, *]) (by go_simp <;> omega) ⟨rfl, rfl⟩
        · refine one_plain (by decide) fun v x hR hk => ?_
          have h5 : v 5 = .pointer (some ⟨bv, ov + k * 3, none⟩) := hk 5 (by kernel_rfl) (by decide)
          simp only [List.take_succ_cons, List.take_zero, frameF, Act.put, List.setIfInBounds_toArray, List.set_cons_zero, List.set_cons_succ]
          exact stepF_val (by first | rfl | simp [Region.wanted, yielded, *]) (by go_simp <;> omega) ⟨rfl, rfl⟩
        · refine one_plain (by decide) fun v x hR hk => ?_
          have h6 : v 6 = .pointer (some ⟨bv, ov + k * 3, none⟩) := hk 6 (by kernel_rfl) (by decide)
          have g1 := (HCY.out x (hbr.trans hR)).1
          simp only [List.take_succ_cons, List.take_zero, frameF, Act.put, List.setIfInBounds_toArray, List.set_cons_zero, List.set_cons_succ]
          exact stepF_val (by first | rfl | simp [Region.wanted, yielded, *]) (by go_simp <;> omega) ⟨rfl, rfl⟩
        · refine one_plain (by decide) fun v x hR hk => ?_
          have h1 : v 1 = .slice A base.length c := hk 1 (by kernel_rfl) (by decide)
          have h2 : v 2 = iv (p : Int) := hk 2 (by kernel_rfl) (by decide)
          have h7 : v 7 = iv (n : Int) := hk 7 (by kernel_rfl) (by decide)
          simp only [List.take_succ_cons, List.take_zero, frameF, Act.put, List.setIfInBounds_toArray, List.set_cons_zero, List.set_cons_succ]
          exact stepF_val (by first | rfl | simp [Region.wanted, yielded, *]) (by go_simp <;> omega) ⟨rfl, rfl⟩
        · refine one_special rfl fun v x hR hpre hk => ?_
          have h0 : v 0 = u9 := hk 0 (by kernel_rfl) (by decide)
          have h8 : v 8 = .slice X1 yb.length n1 := hk 8 (by kernel_rfl) (by decide)
          simp only [List.take_succ_cons, List.take_zero, frameF, Act.put, List.setIfInBounds_toArray, List.set_cons_zero, List.set_cons_succ]
          refine stepF_appA strE tyStrs (by rfl) _ _ rfl hpre (HSY.out x (hbr.trans hR)) rfl (by simpa [go_sem] using h0) (by simpa [go_sem] using h8) (Nat.le_trans hbr.size hR.size) (by have := HLEN.out; unfold big; omega) ?_
          intro v' w' ho hb _
          exact ⟨ho, hR.trans hb⟩
        · refine one_plain (by decide) fun v x hR hk => ?_
          simp only [List.take_succ_cons, List.take_zero, frameF, Act.put, List.setIfInBounds_toArray, List.set_cons_zero, List.set_cons_succ]
          exact stepF_val (by first | rfl | simp [Region.wanted, yielded, *]) (by go_simp <;> omega) ⟨rfl, rfl⟩
        · refine one_plain (by decide) fun v x hR hk => ?_
          simp only [List.take_succ_cons, List.take_zero, frameF, Act.put, List.setIfInBounds_toArray, List.set_cons_zero, List.set_cons_succ]
          exact stepF_val (by first | rfl | simp [Region.wanted, yielded, *]) (by go_simp <;> omega) ⟨rfl, rfl⟩
        · refine one_plain (by decide) fun v x hR hk => ?_
          have h10 : v 10 = .slice (some ⟨bv, ov, none⟩) vs.length c' := hk 10 (by kernel_rfl) (by decide)
          have h11 : v 11 = iv (k : Int) := hk 11 (by kernel_rfl) (by decide)
          simp only [List.take_succ_cons, List.take_zero, frameF, Act.put, List.setIfInBounds_toArray, List.set_cons_zero, List.set_cons_succ]
          exact stepF_val (by first | rfl | simp [Region.wanted, yielded, *]) (by go_simp <;> omega) ⟨rfl, rfl⟩
        · refine one_plain (by decide) fun v x hR hk => ?_
          have h12 : v 12 = .pointer (some ⟨bv, ov + k * 3, none⟩) := hk 12 (by kernel_rfl) (by decide)
          simp only [List.take_succ_cons, List.take_zero, frameF, Act.put, List.setIfInBounds_toArray, List.set_cons_zero, List.set_cons_succ]
          exact stepF_val (by first | rfl | simp [Region.wanted, yielded, *]) (by go_simp <;> omega) ⟨rfl, rfl⟩
        · refine one_plain (by decide) fun v x hR hk => ?_
          have h13 : v 13 = .pointer (some ⟨bv, ov + k * 3 + 2, none⟩) := hk 13 (by kernel_rfl) (by decide)
          have g1 := (HCY.out x (hbr.trans hR)).2.2
          simp only [List.take_succ_cons, List.take_zero, frameF, Act.put, List.setIfInBounds_toArray, List.set_cons_zero, List.set_cons_succ]
          exact stepF_val (by first | rfl | simp [Region.wanted, yielded, *]) (by go_simp <;> omega) ⟨rfl, rfl⟩
      · intro v x1 hR hpost hall
        have h14 : v 14 = .slice yA' yn.length yc' := hall 14 (by decide) (by decide)
        clear hall
        simp only [List.drop_succ_cons, List.drop_zero, List.take_succ_cons, List.take_zero, frameF, Act.put, List.setIfInBounds_toArray, List.set_cons_zero, List.set_cons_succ, Nat.zero_add, Nat.reduceAdd, h14]
        generalize v 9 = vSp at *
        have hb0x := hbr.trans hR
        go_wp2_with (at_builtin; refine wpAppS strE tyStrs rfl _ _ rfl hpost (HYN.out _ hb0x) rfl rfl hb0x.size (by rw [List.length_append]; have := HLEN.out; unfold big; omega) ?_; intro v3 w2 hown3 hb3 hk3)
        have hb02 := hb0x.trans hb3
        have HO3 := Lib.hid hown3
        clear hown3 hk3 hb3 hpost hb0x hR hC1
        go_upto_region 7 with fail
        refine wp_free_lit (by kernel_rfl) 13 (by kernel_rfl) (by kernel_rfl) (by decide) (fun nR x => Below w2.heap.size w2 x) (fun x x' => Below x.heap.size x x')
          [fun _ u _ => u = .slice (some ⟨bv, ov, none⟩) vs.length c',
           fun _ u _ => u = iv (k : Int),
           fun _ u _ => u = .pointer (some ⟨bv, ov + k * 3, none⟩),
           fun _ u _ => u = .pointer (some ⟨bv, ov + k * 3, none⟩),
           fun _ u _ => u = iv (n : Int),
           fun _ u _ => u = .slice (some ⟨bv, ov, none⟩) vs.length c',
           fun _ u _ => u = iv (k : Int),
           fun _ u _ => u = .pointer (some ⟨bv, ov + k * 3, none⟩),
           fun _ u _ => u = .pointer (some ⟨bv, ov + k * 3 + 1, none⟩),
           fun _ u _ => u = .slice yA yo.length yc,
           fun _ u _ => u = iv (yo.length : Int),
           fun _ u _ => u = iv ((n : Int) + (yo.length : Int)),
           fun _ u _ => u = iv ((n : Int) + (yo.length : Int))]
          (Below.refl _ w2).drew ?_ ?_
        · simp only [List.take_succ_cons, List.take_zero, HopL]
          refine ⟨?_, ?_, ?_, ?_, ?_, ?_, ?_, ?_, ?_, ?_, ?_, ?_, ?_, trivial⟩
          · refine ⟨fun _ _ _ _ _ h => h, fun _ _ _ _ h _ => h, fun v nR x hnR hR hk => ?_⟩
            simp only [List.take_succ_cons, List.take_zero, frameF, Act.put, List.setIfInBounds_toArray, List.set_cons_zero, List.set_cons_succ]
            exact stepF_val (by first | rfl | simp [Region.wanted, yielded, *]) (by go_simp <;> omega) ⟨rfl, Below.refl _ _, hR⟩
          · refine ⟨fun _ _ _ _ _ h => h, fun _ _ _ _ h _ => h, fun v nR x hnR hR hk => ?_⟩
            simp only [List.take_succ_cons, List.take_zero, frameF, Act.put, List.setIfInBounds_toArray, List.set_cons_zero, List.set_cons_succ]
            exact stepF_val (by first | rfl | simp [Region.wanted, yielded, *]) (by go_simp <;> omega) ⟨rfl, Below.refl _ _, hR⟩
          · refine ⟨fun _ _ _ _ _ h => h, fun _ _ _ _ h _ => h, fun v nR x hnR hR hk => ?_⟩
            have h0 : v 0 = .slice (some ⟨bv, ov, none⟩) vs.length c' := hk 0 (by kernel_rfl)
            have h1 : v 1 = iv (k : Int) := hk 1 (by kernel_rfl)
            simp only [List.take_succ_cons, List.take_zero, frameF, Act.put, List.setIfInBounds_toArray, List.set_cons_zero, List.set_cons_succ]
            exact stepF_val (by first | rfl | simp [Region.wanted, yielded, *]) (by go_simp <;> omega) ⟨rfl, Below.refl _ _, hR⟩
          · refine ⟨fun _ _ _ _ _ h => h, fun _ _ _ _ h _ => h, fun v nR x hnR hR hk => ?_⟩
            have h2 : v 2 = .pointer (some ⟨bv, ov + k * 3, none⟩) := hk 2 (by kernel_rfl)
            simp only [List.take_succ_cons, List.take_zero, frameF, Act.put, List.setIfInBounds_toArray, List.set_cons_zero, List.set_cons_succ]
            exact stepF_val (by first | rfl | simp [Region.wanted, yielded, *]) (by go_simp <;> omega) ⟨rfl, Below.refl _ _, hR⟩
          · refine ⟨fun _ _ _ _ _ h => h, fun _ _ _ _ h _ => h, fun v nR x hnR hR hk => ?_⟩
            have h3 : v 3 = .pointer (some ⟨bv, ov + k * 3, none⟩) := hk 3 (by kernel_rfl)
            have g1 := (HCY.out x (hb02.next hR (Nat.le_refl _))).1
            simp only [List.take_succ_cons, List.take_zero, frameF, Act.put, List.setIfInBounds_toArray, List.set_cons_zero, List.set_cons_succ]
            exact stepF_val (by first | rfl | simp [Region.wanted, yielded, *]) (by go_simp <;> omega) ⟨rfl, Below.refl _ _, hR⟩
          · refine ⟨fun _ _ _ _ _ h => h, fun _ _ _ _ h _ => h, fun v nR x hnR hR hk => ?_⟩
            simp only [List.take_succ_cons, List.take_zero, frameF, Act.put, List.setIfInBounds_toArray, List.set_cons_zero, List.set_cons_succ]
            exact stepF_val (by first | rfl | simp [Region.wanted, yielded, *]) (by go_simp <;> omega) ⟨rfl, Below.refl _ _, hR⟩
          · refine ⟨fun _ _ _ _ _ h => h, fun _ _ _ _ h _ => h, fun v nR x hnR hR hk => ?_⟩
            simp only [List.take_succ_cons, List.take_zero, frameF, Act.put, List.setIfInBounds_toArray, List.set_cons_zero, List.set_cons_succ]
            exact stepF_val (by first | rfl | simp [Region.wanted, yielded, *]) (by go_simp <;> omega) ⟨rfl, Below.refl _ _, hR⟩
          · refine ⟨fun _ _ _ _ _ h => h, fun _ _ _ _ h _ => h, fun v nR x hnR hR hk => ?_⟩
            have h5 : v 5 = .slice (some ⟨bv, ov, none⟩) vs.length c' := hk 5 (by kernel_rfl)
            have h6 : v 6 = iv (k : Int) := hk 6 (by kernel_rfl)
            simp only [List.take_succ_cons, List.take_zero, frameF, Act.put, List.setIfInBounds_toArray, List.set_cons_zero, List.set_cons_succ]
            exact stepF_val (by first | rfl | simp [Region.wanted, yielded, *]) (by go_simp <;> omega) ⟨rfl, Below.refl _ _, hR⟩
          · refine ⟨fun _ _ _ _ _ h => h, fun _ _ _ _ h _ => h, fun v nR x hnR hR hk => ?_⟩
            have h7 : v 7 = .pointer (some ⟨bv, ov + k * 3, none⟩) := hk 7 (by kernel_rfl)
            simp only [List.take_succ_cons, List.take_zero, frameF, Act.put, List.setIfInBounds_toArray, List.set_cons_zero, List.set_cons_succ]
            exact stepF_val (by first | rfl | simp [Region.wanted, yielded, *]) (by go_simp <;> omega) ⟨rfl, Below.refl _ _, hR⟩
          · refine ⟨fun _ _ _ _ _ h => h, fun _ _ _ _ h _ => h, fun v nR x hnR hR hk => ?_⟩
            have h8 : v 8 = .pointer (some ⟨bv, ov + k * 3 + 1, none⟩) := hk 8 (by kernel_rfl)
            have g1 := (HCY.out x (hb02.next hR (Nat.le_refl _))).2.1
            simp only [List.take_succ_cons, List.take_zero, frameF, Act.put, List.setIfInBounds_toArray, List.set_cons_zero, List.set_cons_succ]
            exact stepF_val (by first | rfl | simp [Region.wanted, yielded, *]) (by go_simp <;> omega) ⟨rfl, Below.refl _ _, hR⟩
          · refine ⟨fun _ _ _ _ _ h => h, fun _ _ _ _ h _ => h, fun v nR x hnR hR hk => ?_⟩
            have h9 : v 9 = .slice yA yo.length yc := hk 9 (by kernel_rfl)
            simp only [List.take_succ_cons, List.take_zero, frameF, Act.put, List.setIfInBounds_toArray, List.set_cons_zero, List.set_cons_succ]
            exact stepF_val (by first | rfl | simp [Region.wanted, yielded, *]) (by go_simp <;> omega) ⟨rfl, Below.refl _ _, hR⟩
          · refine ⟨fun _ _ _ _ _ h => h, fun _ _ _ _ h _ => h, fun v nR x hnR hR hk => ?_⟩
            have h4 : v 4 = iv (n : Int) := hk 4 (by kernel_rfl)
            have h10 : v 10 = iv (yo.length : Int) := hk 10 (by kernel_rfl)
            simp only [List.take_succ_cons, List.take_zero, frameF, Act.put, List.setIfInBounds_toArray, List.set_cons_zero, List.set_cons_succ]
            exact stepF_val (by first | rfl | simp [Region.wanted, yielded, *]) (by go_simp <;> omega) ⟨rfl, Below.refl _ _, hR⟩
          · refine ⟨fun _ _ _ _ _ h => h, fun _ _ _ _ h _ => h, fun v nR x hnR hR hk => ?_⟩
            have h11 : v 11 = iv ((n : Int) + (yo.length : Int)) := hk 11 (by kernel_rfl)
            simp only [List.take_succ_cons, List.take_zero, frameF, Act.put, List.setIfInBounds_toArray, List.set_cons_zero, List.set_cons_succ]
            exact stepF_val (by first | rfl | simp [Region.wanted, yielded, *]) (by go_simp <;> omega) ⟨rfl, Below.refl _ _, hR⟩
        · intro v nR x4 hnR hR hall
          have h12 : v 12 = iv ((n : Int) + (yo.length : Int)) := hall 12 (by decide)
          clear hall hnR
          simp only [List.drop_succ_cons, List.drop_zero, List.take_succ_cons, List.take_zero, frameF, Act.put, List.setIfInBounds_toArray, List.set_cons_zero, List.set_cons_succ, Nat.zero_add, Nat.reduceAdd, h12]
          have hb04 := hb02.next hR (Nat.le_refl _)
          have HO4 := Lib.hid (HO3.out.below hR)
          go_wp2_with fail
          go_roundw
          case rel => exact ⟨k + 1, n + yo.length, (out ++ yb) ++ yn, by omega, by omega, by go_num, by go_num, HR2, HC3, HO4, hb04⟩
          case measure => simp [intOf]; omega
      · exact HO.out.below (Below.refl _ wr).drew
    · have hki : ¬ (k : Int) < (vs.length : Int) := by omega
      have hr := HR.out
      rw [List.drop_eq_nil_of_le (by rw [List.length_map]; omega), File.hasGo] at hr
      obtain ⟨X1, n1, yb, hyb, hybl, _, hsy, hC1⟩ := cut_run' (i := p) (x := hi) hac hp hh (hsa.below hbr)
      rw [← hyb] at hr
      have HR2 := Lib.hid hr
      have hol : out.length ≤ 2000 := by have := congrArg List.length hr; rw [List.length_append] at this; omega
      clear hr HR hyb
      go_wp2_with (at_builtin; refine wpAppS strE tyStrs rfl _ _ rfl HO.out hsy rfl rfl hbr.size (by unfold big; omega) ?_; intro v3 w2 hown3 hb3 hk3)
      go_ret
      exact ⟨_, rfl, by rw [← HR2.out]; exact hown3, hbr.trans hb3⟩
end Fl
end Go.Proofs.YtekkhnjepcebkaaGreatDoor
end
