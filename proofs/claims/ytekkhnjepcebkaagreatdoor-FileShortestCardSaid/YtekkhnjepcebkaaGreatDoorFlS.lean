/- Package file: the iterator over the edits of two copies. Conditions: what the rounds write is not what it reads. -/
import Derived.Test.YtekkhnjepcebkaaGreatDoorFlR
import Derived.Test.YtekkhnjepcebkaaGreatDoorRangeBox
import Derived.Sort.QuietIn
set_option linter.unusedVariables false
set_option linter.unusedSimpArgs false
namespace Go.Proofs.YtekkhnjepcebkaaGreatDoor
namespace Fl
open Go.RowKit Go.ChangeShapes Go.Shelf
set_option maxRecDepth 100000
attribute [local go_sem] Oper.semAt_some
def mergeV : Nat → List EdV → List EdV → List (Bool × EdV)
  | 0, _, _ => []
  | _ + 1, [], [] => []
  | n + 1, [], y :: d => (true, y) :: mergeV n [] d
  | n + 1, x :: c, [] => (false, x) :: mergeV n c []
  | n + 1, x :: c, y :: d => if y.at_ < x.at_ then (true, y) :: mergeV n (x :: c) d else (false, x) :: mergeV n c (y :: d)
theorem mergeV_map : ∀ (n : Nat) (c d : List EdV), (mergeV n c d).map (fun p => (p.1, p.2.ed)) = File.mergeGo n (c.map EdV.ed) (d.map EdV.ed) := by
  intro n
  induction n with
  | zero => intro c d; rfl
  | succ n ih =>
    intro c d
    cases c with
    | nil =>
      cases d with
      | nil => rfl
      | cons y d => simp only [mergeV, List.map_cons, List.map_nil, File.mergeGo, ih]
    | cons x c =>
      cases d with
      | nil => simp only [mergeV, List.map_cons, List.map_nil, File.mergeGo, ih]
      | cons y d =>
        simp only [mergeV, List.map_cons, File.mergeGo]
        show List.map _ (if y.at_ < x.at_ then _ else _) = if y.at_ < x.at_ then _ else _
        split <;> simp [ih]
theorem mergeV_length : ∀ (n : Nat) (c d : List EdV), c.length + d.length = n → (mergeV n c d).length = n := by
  intro n
  induction n with
  | zero => intro c d h; rfl
  | succ n ih =>
    intro c d h
    cases c with
    | nil =>
      cases d with
      | nil => simp at h
      | cons y d => simp only [mergeV, List.length_cons, ih [] d (by simpa using h)]
    | cons x c =>
      cases d with
      | nil => simp only [mergeV, List.length_cons, ih c [] (by simpa using h)]
      | cons y d =>
        simp only [mergeV]
        simp only [List.length_cons] at h
        split <;> simp only [List.length_cons]
        · rw [ih (x :: c) d (by simp only [List.length_cons]; omega)]
        · rw [ih c (y :: d) (by simp only [List.length_cons]; omega)]
/-- What is handed over. -/
def encP (p : Bool × EdV) : Array Value := #[iv (if p.1 then 1 else 0), p.2.v]
def numAt (w : World) (g o : Nat) : Nat := match w.cell? ⟨g, o, none⟩ with
  | some (.int _ n) => n.toNat
  | _ => 0
/-- A slice of edits that the rounds do not write. -/
structure Edits (w : World) (A : Option Addr) (vs : List EdV) (g : Nat) : Prop where
  sl : Sl edE w A vs
  apart : vs ≠ [] → ∀ b off, A = some ⟨b, off, none⟩ → b ≠ g
theorem Edits.kept {w W : World} {A : Option Addr} {vs : List EdV} {g : Nat} (h : Edits w A vs g) (hk : KeptBut w.heap.size g w W) : Sl edE W A vs := fun hne => by
  obtain ⟨b, off, hA, hb, hc⟩ := h.sl hne
  refine ⟨b, off, hA, Nat.lt_of_lt_of_le hb hk.size, fun i x hx j u hu => ?_⟩
  rw [World.cell?_of_block (w := w) (hk.same b hb (h.apart hne b off hA))]
  exact hc i x hx j u hu
theorem grown_setCell (W : World) (g o : Nat) (v : Value) : W.grownBy (W.setCell ⟨g, o, none⟩ v) (some g) :=
  ⟨rfl, rfl, rfl, by simp [World.setCell], fun b _ hb => Below.heap_setCell W ⟨g, o, none⟩ v b (fun e => hb (by rw [e]))⟩
set_option maxHeartbeats 4000000 in
theorem edits1_all (n : Nat) (hn : 1 ≤ n) (p : Nat) (A0 : Option Addr) (c0 : Nat) (A1 : Option Addr) (c1 : Nat) (vs0 vs1 : List EdV) (g : Nat) (w : World)
    (hp : Blk w p 129 #[.slice A0 vs0.length c0, .slice A1 vs1.length c1]) (hpg : p ≠ g) (h0 : Edits w A0 vs0 g) (h1 : Edits w A1 vs1 g) (hl : vs0.length + vs1.length ≤ 1000) (hgl : g < w.heap.size) :
    SeqAll Fence.wide n Tryz.prog 182 #[.pointer (some ⟨p, 0, none⟩)] encP (mergeV (vs0.length + vs1.length) vs0 vs1) g w := by
  intro l J W hk hJ hY hJ0
  refine callsIn_of_wp Tryz.func182 rfl trivial ?_ rfl
  simp only [Tryz.ntmps182, List.size_toArray, List.length_cons, List.length_nil, Nat.reduceAdd, Nat.reduceSub, Array.replicate_succ, Array.replicate_zero, List.push_toArray, List.append_toArray, List.nil_append, List.cons_append]
  have hJa : J 0 (W.alloc (.cells #[iv 0, iv 0] 83)) := hJ 0 _ _ none hJ0 (World.grownBy_alloc _ _ _) (fun r e => by cases e)
  have hAt : Blk (W.alloc (.cells #[iv 0, iv 0] 83)) W.heap.size 83 #[iv 0, iv 0] := Blk.new _ _ _
  have hka : KeptBut w.heap.size g w (W.alloc (.cells #[iv 0, iv 0] 83)) := hk.trans (KeptBut.alloc _ _ _ _ hk.size)
  have HE0 := Lib.hid h0
  have HE1 := Lib.hid h1
  have HP := Lib.hid hp
  have hplt := hp.lt
  have hWz := hk.size
  clear h0 h1 hp hJ0 hk
  obtain ⟨xs, hxs⟩ : ∃ xs, xs = mergeV (vs0.length + vs1.length) vs0 vs1 := ⟨_, rfl⟩
  rw [← hxs] at hY ⊢
  have HXL : Hid (xs.length = vs0.length + vs1.length) := Lib.hid (by rw [hxs]; exact mergeV_length _ _ _ rfl)
  have HX0 : Hid (xs.drop 0 = mergeV (vs0.length + vs1.length - 0) (vs0.drop 0) (vs1.drop 0)) := Lib.hid (by rw [hxs]; rfl)
  have HY := Lib.hid hY
  have HJ := Lib.hid hJ
  clear hxs hY hJ
  gi_wp2
  generalize W.alloc (.cells #[iv 0, iv 0] 83) = Wa at *
  gi_loopw [4] (fun _ wr => ∃ (i j : Nat), i ≤ vs0.length ∧ j ≤ vs1.length ∧ Blk wr W.heap.size 83 #[iv (i : Int), iv (j : Int)] ∧ J (i + j) wr ∧ KeptBut w.heap.size g w wr ∧ Hid (xs.drop (i + j) = mergeV (vs0.length + vs1.length - (i + j)) (vs0.drop i) (vs1.drop j)))
    (fun _ wr => vs0.length + vs1.length - (numAt wr W.heap.size 0 + numAt wr W.heap.size 1))
  case atStart => exact ⟨0, 0, Nat.zero_le _, Nat.zero_le _, hAt, hJa, hka, HX0⟩
  case round =>
    obtain ⟨i, j, hi, hj, hat, hJr, hkr, HX⟩ := hrel
    have a0 := hat.cell 0
    have a1 := hat.cell 1
    have al := hat.lt
    have hpr : Blk wr p 129 #[.slice A0 vs0.length c0, .slice A1 vs1.length c1] := (hkr.same p hplt hpg).trans HP.out
    have p0 := hpr.cell 0
    have p1 := hpr.cell 1
    have pl := hpr.lt
    by_cases hi0 : i < vs0.length
    · obtain ⟨b0, o0, x, hA0, hb0, hx, x0, x1, x2⟩ := Sl.atEd (HE0.out.kept hkr) hi0
      have hi0i : (i : Int) < (vs0.length : Int) := by omega
      have hi0e : ((i : Int) == (vs0.length : Int)) = false := by simp; omega
      by_cases hj0 : j < vs1.length
      · obtain ⟨b1, o1, y, hA1, hb1, hy, y0, y1, y2⟩ := Sl.atEd (HE1.out.kept hkr) hj0
        have hj0i : (j : Int) < (vs1.length : Int) := by omega
        subst hA0 hA1
        by_cases hlt : y.at_ < x.at_
        · have hd : xs.drop (i + j) = (true, y) :: mergeV (vs0.length + vs1.length - (i + (j + 1))) (vs0.drop i) (vs1.drop (j + 1)) := by
            rw [HX.out, drop_at hx, drop_at hy, show vs0.length + vs1.length - (i + j) = (vs0.length + vs1.length - (i + (j + 1))) + 1 by omega]
            simp only [mergeV]
            rw [if_pos hlt]
          have hxk : xs[i + j]? = some (true, y) := by
            have h6 := congrArg List.head? hd
            rw [List.head?_drop] at h6
            simpa using h6
          have HD2 : Hid (xs.drop (i + (j + 1)) = mergeV (vs0.length + vs1.length - (i + (j + 1))) (vs0.drop i) (vs1.drop (j + 1))) := Lib.hid (by
            rw [show i + (j + 1) = (i + j) + 1 by omega, ← List.drop_drop, hd, show i + j + 1 = i + (j + 1) by omega]
            rfl)
          clear hd HX
          gi_wp2
          gi_quiet (fail)
          have hgr : wr.grownBy (wr.drewN (nq + 1)) none := ⟨rfl, rfl, rfl, Nat.le_refl _, fun _ _ _ => rfl⟩
          obtain ⟨fn, tmps, assign, body, hy2, hR⟩ := HY.out (i + j) _ (wr.drewN (nq + 1)) hxk (HJ.out _ _ _ none hJr hgr (fun r e => by cases e)) al
          have hy3 : (Instr.yield l #[Value.int .i64 1, .agg #[iv y.at_, .slice y.A y.old.length y.c, .slice y.A' y.new.length y.c']]).run Tryz.prog (wr.drewN (nq + 1)) = .ok (.round l fn tmps assign body) (wr.drewN (nq + 1)) := hy2
          clear hy2
          have hmix : (Tryz.prog).follows .mixedOrders = true := by kernel_rfl
          gi_wp2_with fail
          gi_region_with_o (refine hR.mono ?_; rintro e W3 ⟨rfl, hJ3, hz3, hk3⟩)
          all_goals
            have hat3 : Blk W3 W.heap.size 83 #[iv (i : Int), iv (j : Int)] := (hk3 W.heap.size (.inr rfl) (by omega)).trans hat
            have hkr3 : KeptBut w.heap.size g w W3 := hkr.trans ⟨hz3, fun b hb hbg => hk3 b (.inl hb) hbg⟩
            have c0 := hat3.cell 0
            have c1 := hat3.cell 1
            have cl := hat3.lt
            have cf := hat3.frozen 1
            have ew : IntKind.i64.wrap ((j : Int) + 1) = ((j + 1 : Nat) : Int) := IntWalk.i64_in _ (by omega)
            have hat4 := hat3.set_ 1 (iv ((j + 1 : Nat) : Int))
            have hkr4 : KeptBut w.heap.size g w (W3.setCell ⟨W.heap.size, 1, none⟩ (iv ((j + 1 : Nat) : Int))) := hkr3.trans (KeptBut.set_ _ (.inr hWz) _)
            have HJ4 : Hid (J (i + (j + 1)) (W3.setCell ⟨W.heap.size, 1, none⟩ (iv ((j + 1 : Nat) : Int)))) := Lib.hid (by
              rw [show i + (j + 1) = i + j + 1 by omega]
              exact HJ.out _ W3 _ (some W.heap.size) hJ3 (grown_setCell W3 W.heap.size 1 _) (fun r e => by cases e; rfl))
            gi_wp2
            go_roundw
            case rel => exact ⟨i, (j + 1), by omega, by omega, hat4, HJ4.out, hkr4, HD2⟩
            case measure =>
              have e0 : numAt wr W.heap.size 0 = i := by unfold numAt; rw [a0]; simp
              have e1 : numAt wr W.heap.size 1 = j := by unfold numAt; rw [a1]; simp
              have f0 := hat4.cell 0
              have f1 := hat4.cell 1
              have e2 : numAt (W3.setCell ⟨W.heap.size, 1, none⟩ (iv ((j + 1 : Nat) : Int))) W.heap.size 0 = i := by unfold numAt; rw [f0]; simp; try omega
              have e3 : numAt (W3.setCell ⟨W.heap.size, 1, none⟩ (iv ((j + 1 : Nat) : Int))) W.heap.size 1 = (j + 1) := by unfold numAt; rw [f1]; simp; try omega
              rw [e0, e1]
              show vs0.length + vs1.length - (numAt (W3.setCell ⟨W.heap.size, 1, none⟩ (iv ((j + 1 : Nat) : Int))) W.heap.size 0 + numAt (W3.setCell ⟨W.heap.size, 1, none⟩ (iv ((j + 1 : Nat) : Int))) W.heap.size 1) < _
              rw [e2, e3]
              omega
        · have hd : xs.drop (i + j) = (false, x) :: mergeV (vs0.length + vs1.length - ((i + 1) + j)) (vs0.drop (i + 1)) (vs1.drop j) := by
            rw [HX.out, drop_at hx, drop_at hy, show vs0.length + vs1.length - (i + j) = (vs0.length + vs1.length - ((i + 1) + j)) + 1 by omega]
            simp only [mergeV]
            rw [if_neg hlt]
          have hxk : xs[i + j]? = some (false, x) := by
            have h6 := congrArg List.head? hd
            rw [List.head?_drop] at h6
            simpa using h6
          have HD2 : Hid (xs.drop ((i + 1) + j) = mergeV (vs0.length + vs1.length - ((i + 1) + j)) (vs0.drop (i + 1)) (vs1.drop j)) := Lib.hid (by
            rw [show (i + 1) + j = (i + j) + 1 by omega, ← List.drop_drop, hd, show i + j + 1 = (i + 1) + j by omega]
            rfl)
          clear hd HX
          gi_wp2
          gi_quiet (fail)
          have hgr : wr.grownBy (wr.drewN (nq + 1)) none := ⟨rfl, rfl, rfl, Nat.le_refl _, fun _ _ _ => rfl⟩
          obtain ⟨fn, tmps, assign, body, hy2, hR⟩ := HY.out (i + j) _ (wr.drewN (nq + 1)) hxk (HJ.out _ _ _ none hJr hgr (fun r e => by cases e)) al
          have hy3 : (Instr.yield l #[Value.int .i64 0, .agg #[iv x.at_, .slice x.A x.old.length x.c, .slice x.A' x.new.length x.c']]).run Tryz.prog (wr.drewN (nq + 1)) = .ok (.round l fn tmps assign body) (wr.drewN (nq + 1)) := hy2
          clear hy2
          have hmix : (Tryz.prog).follows .mixedOrders = true := by kernel_rfl
          gi_wp2_with fail
          gi_region_with_o (refine hR.mono ?_; rintro e W3 ⟨rfl, hJ3, hz3, hk3⟩)
          all_goals
            have hat3 : Blk W3 W.heap.size 83 #[iv (i : Int), iv (j : Int)] := (hk3 W.heap.size (.inr rfl) (by omega)).trans hat
            have hkr3 : KeptBut w.heap.size g w W3 := hkr.trans ⟨hz3, fun b hb hbg => hk3 b (.inl hb) hbg⟩
            have c0 := hat3.cell 0
            have c1 := hat3.cell 1
            have cl := hat3.lt
            have cf := hat3.frozen 0
            have ew : IntKind.i64.wrap ((i : Int) + 1) = ((i + 1 : Nat) : Int) := IntWalk.i64_in _ (by omega)
            have hat4 := hat3.set_ 0 (iv ((i + 1 : Nat) : Int))
            have hkr4 : KeptBut w.heap.size g w (W3.setCell ⟨W.heap.size, 0, none⟩ (iv ((i + 1 : Nat) : Int))) := hkr3.trans (KeptBut.set_ _ (.inr hWz) _)
            have HJ4 : Hid (J ((i + 1) + j) (W3.setCell ⟨W.heap.size, 0, none⟩ (iv ((i + 1 : Nat) : Int)))) := Lib.hid (by
              rw [show (i + 1) + j = i + j + 1 by omega]
              exact HJ.out _ W3 _ (some W.heap.size) hJ3 (grown_setCell W3 W.heap.size 0 _) (fun r e => by cases e; rfl))
            gi_wp2
            go_roundw
            case rel => exact ⟨(i + 1), j, by omega, by omega, hat4, HJ4.out, hkr4, HD2⟩
            case measure =>
              have e0 : numAt wr W.heap.size 0 = i := by unfold numAt; rw [a0]; simp
              have e1 : numAt wr W.heap.size 1 = j := by unfold numAt; rw [a1]; simp
              have f0 := hat4.cell 0
              have f1 := hat4.cell 1
              have e2 : numAt (W3.setCell ⟨W.heap.size, 0, none⟩ (iv ((i + 1 : Nat) : Int))) W.heap.size 0 = (i + 1) := by unfold numAt; rw [f0]; simp; try omega
              have e3 : numAt (W3.setCell ⟨W.heap.size, 0, none⟩ (iv ((i + 1 : Nat) : Int))) W.heap.size 1 = j := by unfold numAt; rw [f1]; simp; try omega
              rw [e0, e1]
              show vs0.length + vs1.length - (numAt (W3.setCell ⟨W.heap.size, 0, none⟩ (iv ((i + 1 : Nat) : Int))) W.heap.size 0 + numAt (W3.setCell ⟨W.heap.size, 0, none⟩ (iv ((i + 1 : Nat) : Int))) W.heap.size 1) < _
              rw [e2, e3]
              omega
      · have hj0i : ¬ (j : Int) < (vs1.length : Int) := by omega
        subst hA0
        have hd : xs.drop (i + j) = (false, x) :: mergeV (vs0.length + vs1.length - ((i + 1) + j)) (vs0.drop (i + 1)) (vs1.drop j) := by
          rw [HX.out, drop_at hx, List.drop_eq_nil_of_le (show vs1.length ≤ j by omega), show vs0.length + vs1.length - (i + j) = (vs0.length + vs1.length - ((i + 1) + j)) + 1 by omega]
          simp only [mergeV]
        have hxk : xs[i + j]? = some (false, x) := by
          have h6 := congrArg List.head? hd
          rw [List.head?_drop] at h6
          simpa using h6
        have HD2 : Hid (xs.drop ((i + 1) + j) = mergeV (vs0.length + vs1.length - ((i + 1) + j)) (vs0.drop (i + 1)) (vs1.drop j)) := Lib.hid (by
          rw [show (i + 1) + j = (i + j) + 1 by omega, ← List.drop_drop, hd, show i + j + 1 = (i + 1) + j by omega]
          rfl)
        clear hd HX
        gi_wp2
        gi_quiet (fail)
        have hgr : wr.grownBy (wr.drewN (nq + 1)) none := ⟨rfl, rfl, rfl, Nat.le_refl _, fun _ _ _ => rfl⟩
        obtain ⟨fn, tmps, assign, body, hy2, hR⟩ := HY.out (i + j) _ (wr.drewN (nq + 1)) hxk (HJ.out _ _ _ none hJr hgr (fun r e => by cases e)) al
        have hy3 : (Instr.yield l #[Value.int .i64 0, .agg #[iv x.at_, .slice x.A x.old.length x.c, .slice x.A' x.new.length x.c']]).run Tryz.prog (wr.drewN (nq + 1)) = .ok (.round l fn tmps assign body) (wr.drewN (nq + 1)) := hy2
        clear hy2
        have hmix : (Tryz.prog).follows .mixedOrders = true := by kernel_rfl
        gi_wp2_with fail
        gi_region_with_o (refine hR.mono ?_; rintro e W3 ⟨rfl, hJ3, hz3, hk3⟩)
        all_goals
          have hat3 : Blk W3 W.heap.size 83 #[iv (i : Int), iv (j : Int)] := (hk3 W.heap.size (.inr rfl) (by omega)).trans hat
          have hkr3 : KeptBut w.heap.size g w W3 := hkr.trans ⟨hz3, fun b hb hbg => hk3 b (.inl hb) hbg⟩
          have c0 := hat3.cell 0
          have c1 := hat3.cell 1
          have cl := hat3.lt
          have cf := hat3.frozen 0
          have ew : IntKind.i64.wrap ((i : Int) + 1) = ((i + 1 : Nat) : Int) := IntWalk.i64_in _ (by omega)
          have hat4 := hat3.set_ 0 (iv ((i + 1 : Nat) : Int))
          have hkr4 : KeptBut w.heap.size g w (W3.setCell ⟨W.heap.size, 0, none⟩ (iv ((i + 1 : Nat) : Int))) := hkr3.trans (KeptBut.set_ _ (.inr hWz) _)
          have HJ4 : Hid (J ((i + 1) + j) (W3.setCell ⟨W.heap.size, 0, none⟩ (iv ((i + 1 : Nat) : Int)))) := Lib.hid (by
            rw [show (i + 1) + j = i + j + 1 by omega]
            exact HJ.out _ W3 _ (some W.heap.size) hJ3 (grown_setCell W3 W.heap.size 0 _) (fun r e => by cases e; rfl))
          gi_wp2
          go_roundw
          case rel => exact ⟨(i + 1), j, by omega, by omega, hat4, HJ4.out, hkr4, HD2⟩
          case measure =>
            have e0 : numAt wr W.heap.size 0 = i := by unfold numAt; rw [a0]; simp
            have e1 : numAt wr W.heap.size 1 = j := by unfold numAt; rw [a1]; simp
            have f0 := hat4.cell 0
            have f1 := hat4.cell 1
            have e2 : numAt (W3.setCell ⟨W.heap.size, 0, none⟩ (iv ((i + 1 : Nat) : Int))) W.heap.size 0 = (i + 1) := by unfold numAt; rw [f0]; simp; try omega
            have e3 : numAt (W3.setCell ⟨W.heap.size, 0, none⟩ (iv ((i + 1 : Nat) : Int))) W.heap.size 1 = j := by unfold numAt; rw [f1]; simp; try omega
            rw [e0, e1]
            show vs0.length + vs1.length - (numAt (W3.setCell ⟨W.heap.size, 0, none⟩ (iv ((i + 1 : Nat) : Int))) W.heap.size 0 + numAt (W3.setCell ⟨W.heap.size, 0, none⟩ (iv ((i + 1 : Nat) : Int))) W.heap.size 1) < _
            rw [e2, e3]
            omega
    · have hi0i : ¬ (i : Int) < (vs0.length : Int) := by omega
      have hi0e : ((i : Int) == (vs0.length : Int)) = true := by simp; omega
      by_cases hj0 : j < vs1.length
      · obtain ⟨b1, o1, y, hA1, hb1, hy, y0, y1, y2⟩ := Sl.atEd (HE1.out.kept hkr) hj0
        have hj0i : (j : Int) < (vs1.length : Int) := by omega
        subst hA1
        have hd : xs.drop (i + j) = (true, y) :: mergeV (vs0.length + vs1.length - (i + (j + 1))) (vs0.drop i) (vs1.drop (j + 1)) := by
          rw [HX.out, drop_at hy, List.drop_eq_nil_of_le (show vs0.length ≤ i by omega), show vs0.length + vs1.length - (i + j) = (vs0.length + vs1.length - (i + (j + 1))) + 1 by omega]
          simp only [mergeV]
        have hxk : xs[i + j]? = some (true, y) := by
          have h6 := congrArg List.head? hd
          rw [List.head?_drop] at h6
          simpa using h6
        have HD2 : Hid (xs.drop (i + (j + 1)) = mergeV (vs0.length + vs1.length - (i + (j + 1))) (vs0.drop i) (vs1.drop (j + 1))) := Lib.hid (by
          rw [show i + (j + 1) = (i + j) + 1 by omega, ← List.drop_drop, hd, show i + j + 1 = i + (j + 1) by omega]
          rfl)
        clear hd HX
        gi_wp2
        gi_quiet (fail)
        have hgr : wr.grownBy (wr.drewN (nq + 1)) none := ⟨rfl, rfl, rfl, Nat.le_refl _, fun _ _ _ => rfl⟩
        obtain ⟨fn, tmps, assign, body, hy2, hR⟩ := HY.out (i + j) _ (wr.drewN (nq + 1)) hxk (HJ.out _ _ _ none hJr hgr (fun r e => by cases e)) al
        have hy3 : (Instr.yield l #[Value.int .i64 1, .agg #[iv y.at_, .slice y.A y.old.length y.c, .slice y.A' y.new.length y.c']]).run Tryz.prog (wr.drewN (nq + 1)) = .ok (.round l fn tmps assign body) (wr.drewN (nq + 1)) := hy2
        clear hy2
        have hmix : (Tryz.prog).follows .mixedOrders = true := by kernel_rfl
        gi_wp2_with fail
        gi_region_with_o (refine hR.mono ?_; rintro e W3 ⟨rfl, hJ3, hz3, hk3⟩)
        all_goals
          have hat3 : Blk W3 W.heap.size 83 #[iv (i : Int), iv (j : Int)] := (hk3 W.heap.size (.inr rfl) (by omega)).trans hat
          have hkr3 : KeptBut w.heap.size g w W3 := hkr.trans ⟨hz3, fun b hb hbg => hk3 b (.inl hb) hbg⟩
          have c0 := hat3.cell 0
          have c1 := hat3.cell 1
          have cl := hat3.lt
          have cf := hat3.frozen 1
          have ew : IntKind.i64.wrap ((j : Int) + 1) = ((j + 1 : Nat) : Int) := IntWalk.i64_in _ (by omega)
          have hat4 := hat3.set_ 1 (iv ((j + 1 : Nat) : Int))
          have hkr4 : KeptBut w.heap.size g w (W3.setCell ⟨W.heap.size, 1, none⟩ (iv ((j + 1 : Nat) : Int))) := hkr3.trans (KeptBut.set_ _ (.inr hWz) _)
          have HJ4 : Hid (J (i + (j + 1)) (W3.setCell ⟨W.heap.size, 1, none⟩ (iv ((j + 1 : Nat) : Int)))) := Lib.hid (by
            rw [show i + (j + 1) = i + j + 1 by omega]
            exact HJ.out _ W3 _ (some W.heap.size) hJ3 (grown_setCell W3 W.heap.size 1 _) (fun r e => by cases e; rfl))
          gi_wp2
          go_roundw
          case rel => exact ⟨i, (j + 1), by omega, by omega, hat4, HJ4.out, hkr4, HD2⟩
          case measure =>
            have e0 : numAt wr W.heap.size 0 = i := by unfold numAt; rw [a0]; simp
            have e1 : numAt wr W.heap.size 1 = j := by unfold numAt; rw [a1]; simp
            have f0 := hat4.cell 0
            have f1 := hat4.cell 1
            have e2 : numAt (W3.setCell ⟨W.heap.size, 1, none⟩ (iv ((j + 1 : Nat) : Int))) W.heap.size 0 = i := by unfold numAt; rw [f0]; simp; try omega
            have e3 : numAt (W3.setCell ⟨W.heap.size, 1, none⟩ (iv ((j + 1 : Nat) : Int))) W.heap.size 1 = (j + 1) := by unfold numAt; rw [f1]; simp; try omega
            rw [e0, e1]
            show vs0.length + vs1.length - (numAt (W3.setCell ⟨W.heap.size, 1, none⟩ (iv ((j + 1 : Nat) : Int))) W.heap.size 0 + numAt (W3.setCell ⟨W.heap.size, 1, none⟩ (iv ((j + 1 : Nat) : Int))) W.heap.size 1) < _
            rw [e2, e3]
            omega
      · have hj0i : ¬ (j : Int) < (vs1.length : Int) := by omega
        have hJe : J xs.length wr := by rw [HXL.out, show vs0.length + vs1.length = i + j by omega]; exact hJr
        gi_wp2
        go_end0
        exact ⟨⟨_, rfl⟩, hJe⟩
end Fl
end Go.Proofs.YtekkhnjepcebkaaGreatDoor
