/- What the proof of the claim's theorem uses, part 5. The conditions stand in each statement. -/
import Derived.WalkKit
import Derived.WalkSpells
import Derived.WalkLawsBesides
import Derived.WalkSmall
import Derived.Lib.Hide
import Derived.Laws.OwnMore
import Derived.Laws.CopyOwn
import Derived.Deep.Draws
import Derived.Laws.AppendOwnNone
import Derived.Test.YtkmcacgeecfjgaaGreatDoorProg
import Derived.Outline
import Derived.BigQuiet
import Derived.Deep.QuietTactic
import Derived.Lib.OthersKept
import Derived.Laws.EntriesVeiled
import Derived.Shelf.Strings.Builder1
import Derived.Shelf.LaysM
import Derived.Shelf.Strconv.Itoa3
import Derived.Orders
import Derived.RegionTactic
import Derived.BigRegion
import Derived.Deep.DeepCutAuto
import Derived.Maps.OwnRows
import Derived.Maps.GroupsBeside
import Derived.Deep.RegionHeld3
import Derived.Lib.SliceRun
import Derived.RangeFuncNested
import Derived.RangeFuncBound
import Derived.RangeFuncCalls
import Derived.RangeFuncLeaves
import Derived.Shelf.Abstract
import Derived.Shelf.RegionOpen
import Derived.OwnWalkIn
import Derived.TacticsInMore
import Derived.LoopNIn
import Derived.LoopIn
import Derived.Sort.QuietIn
import Derived.Deep.Quiet
import Derived.Maps.AppendAt
import Derived.Test.YtkmcacgeecfjgaaGreatDoorCards
import Derived.Test.YtkmcacgeecfjgaaGreatDoorTie
import Derived.ProofKit
import Derived.Deep.DeepHandedRow
import Derived.Lib.LaidTab
import Derived.Stop.LaidErr
import Derived.ChangeSame
import Derived.RowKit3
import Derived.ReadAgain
import Derived.OpenShut
import Derived.ChangeSlices
import Derived.Shelf.Bits.Mul64
import Derived.ArgAppend
import Derived.WalkMore
import Derived.Laws.BytesArg
import Derived.Laws.IdiomStrings
import Derived.Shelf.Spec.SlicesInsert
import Derived.Shelf.Spec.SlicesInsertGrow
import Derived.Deep.RegionLaw
import Derived.Maps.Own
import Derived.Maps.OwnOps
import Derived.Maps.OwnSet
import Derived.ChangeKeysEq
import Derived.Test.YtkmcacgeecfjgaaGreatDoorPr4
set_option linter.unusedVariables false
set_option linter.unusedSimpArgs false
section
namespace Go.Proofs.YtkmcacgeecfjgaaGreatDoor
open Go.RowKit Go.Shelf
/-- What lay below n is as it was, but for the block g. -/
structure KeptBut (n g : Nat) (X Y : World) : Prop where
  size : X.heap.size ≤ Y.heap.size
  same : ∀ b, b < n → b ≠ g → Y.heap[b]? = X.heap[b]?
theorem KeptBut.refl (n g : Nat) (X : World) : KeptBut n g X X := ⟨Nat.le_refl _, fun _ _ _ => rfl⟩
theorem KeptBut.trans {n g : Nat} {X Y Z : World} (h : KeptBut n g X Y) (k : KeptBut n g Y Z) : KeptBut n g X Z := ⟨Nat.le_trans h.size k.size, fun b hb hg => (k.same b hb hg).trans (h.same b hb hg)⟩
theorem KeptBut.alloc (n g : Nat) (X : World) (o : Obj) (hn : n ≤ X.heap.size) : KeptBut n g X (X.alloc o) := ⟨by simp, fun b hb _ => Below.heap_alloc X o b (by omega)⟩
theorem KeptBut.of_below {n g : Nat} {X Y : World} (h : Below X.heap.size X Y) (hn : n ≤ X.heap.size) : KeptBut n g X Y := ⟨h.size, fun b hb _ => h.block b (by omega)⟩
theorem KeptBut.set_ {n g : Nat} {X : World} (p : Addr) (hp : p.block = g ∨ n ≤ p.block) (u : Value) : KeptBut n g X (X.setCell p u) := ⟨by simp [World.setCell], fun b hb hg => Below.heap_setCell X p u b (by omega)⟩
/-- An iterator over which all of xs come, one behind the other; the block at the heap's size is its own; of what lay below w's size the rounds may write g alone. -/
def SeqAll {α : Type} (F : Fence) (n : Nat) (P : Program) (gf : Nat) (lb : Array Value) (encs : α → Array Value) (xs : List α) (g : Nat) (w : World) : Prop :=
  ∀ (l : Nat) (J : Nat → World → Prop) (W : World), KeptBut w.heap.size g w W →
    (∀ k X Y row, J k X → X.grownBy Y row → (∀ r, row = some r → r = W.heap.size) → J k Y) →
    (∀ k x X, xs[k]? = some x → J k X → W.heap.size < X.heap.size → YieldAt F (n - 1) P l (encs x) X fun e Y =>
      e = .returned (.bool true) ∧ J (k + 1) Y ∧ X.heap.size ≤ Y.heap.size ∧ ∀ b, (b < w.heap.size ∨ b = W.heap.size) → b ≠ g → Y.heap[b]? = X.heap[b]?) →
    J 0 W →
    CallsIn F n P gf (#[.func (.yield l) #[] #[]] ++ lb) W fun e W' => (∃ v, e = .returned v) ∧ J xs.length W'
theorem grown_putObj (W : World) (l : Nat) (o : Obj) : W.grownBy (W.putObj l o) (some l) := grownBy_putObj' W l o
/-- The statement. -/
theorem wpIn_rangeAll {α : Type} {F : Fence} {n : Nat} {P : Program} {f : Operand} {ps : Array Tmp} {assign body : Code} {Q : Exit → Act → World → Prop} {a : Act} {w : World}
    (hro : F.round = none) (h1 : 1 ≤ n) {gf : Nat} {lb : Array Value} (hf : a.eval f = .func (.func gf) #[] lb) (hFg : F.fn gf) (eg : ∀ args w, (callFunc gf args).run P w = .ok (.enter gf args) w)
    {encs : α → Array Value} {xs : List α} {g : Nat} (hg : g < w.heap.size) (hseq : SeqAll F (n - 1) P gf lb encs xs g w) (hps : ∀ x, (encs x).size = ps.size)
    (I : Nat → World → Prop) (hI : ∀ k X Y row, I k X → X.grownBy Y row → (∀ r, row = some r → w.heap.size ≤ r ∧ r < w.heap.size + 3) → I k Y) (h0 : I 0 w)
    (Ax : Nat → Act → World → Prop) (hAx : ∀ k a' X Y row, Ax k a' X → X.grownBy Y row → (∀ r, row = some r → w.heap.size ≤ r ∧ r < w.heap.size + 3) → Ax k a' Y)
    (hassign : ∀ (l k : Nat) (x : α) (X : World) (K : Act → World → Prop), xs[k]? = some x → I k X → w.heap.size + 2 < X.heap.size → (∀ a' Y, KeptBut (w.heap.size + 3) g X Y → Ax k a' Y → K a' Y) →
      assign.wpIn (F.inRound l) (n - 1 - 1) P (Exit.then K (fun _ _ _ => False)) { tmps := (ps.zip (encs x)).foldl (fun t (p, v) => t.setIfInBounds p v) a.tmps, defers := [] } X)
    (hbody : ∀ (l k : Nat) (x : α) (a' : Act) (X : World), xs[k]? = some x → Ax k a' X → w.heap.size + 2 < X.heap.size →
      body.wpIn (F.inRound l) (n - 1 - 1) P (Exit.then (fun _ Y => KeptBut (w.heap.size + 3) g X Y ∧ I (k + 1) Y) (fun _ _ _ => False)) a' X)
    (hdone : ∀ W : World, I xs.length W → W.heap[w.heap.size]? = some (.deferred (some [])) → Q .normal { a with defers := { target := .collected w.heap.size, args := #[] } :: a.defers } W) :
    (Code.rangeFunc f ps assign body).wpIn F n P Q a w := by
  refine wpIn_rangeFunc ?_
  intro fn hfn
  rw [hro]
  obtain ⟨rec, hrec⟩ : ∃ rec : LoopState → Loop, rec = fun st => { state := st, pending := none, fn, tmps := a.tmps, params := ps, assign, body, defers := w.heap.size } := ⟨_, rfl⟩
  have hst : ∀ st, (rec st).state = st ∧ (rec st).pending = none ∧ (rec st).params = ps := fun st => by rw [hrec]; exact ⟨rfl, rfl, rfl⟩
  obtain ⟨W1, hW1⟩ : ∃ W1, (w.alloc (.deferred (some []))).alloc (.loop (rec .ready)) = W1 := ⟨_, rfl⟩
  have hz1 : W1.heap.size = w.heap.size + 2 := by rw [← hW1]; simp
  have hL1 : W1.heap[w.heap.size + 1]? = some (.loop (rec .ready)) := by
    rw [← hW1]
    have := World.alloc_heap_new (w.alloc (.deferred (some []))) (.loop (rec .ready))
    rwa [World.size_alloc] at this
  have hD1 : W1.heap[w.heap.size]? = some (.deferred (some [])) := by
    rw [← hW1]; exact (Below.heap_alloc _ _ _ (by simp)).trans (World.alloc_heap_new w _)
  have hI1 : I 0 W1 := by
    rw [← hW1]
    exact hI _ _ _ none (hI _ _ _ none h0 (World.grownBy_alloc _ _ _) (fun r e => by cases e)) (World.grownBy_alloc _ _ _) (fun r e => by cases e)
  have hk1 : KeptBut w.heap.size g w W1 := by
    rw [← hW1]
    exact (KeptBut.alloc _ _ _ _ (Nat.le_refl _)).trans (KeptBut.alloc _ _ _ _ (by simp))
  refine ⟨w.heap.size + 1, [{ target := .collected w.heap.size, args := #[] }], W1, { target := .fn (.func gf) lb, args := #[.func (.yield (w.heap.size + 1)) #[] #[]] }, W1, gf,
    #[.func (.yield (w.heap.size + 1)) #[] #[]] ++ lb, W1, ?_, ?_, ?_, ?_, fun _ => h1, ?_⟩
  · rw [← hW1, hrec]
    exact run_enterLoop_outer _ _ _ _ _
  · simp only [resolve, hf]
    simp [go_sem]
  · intro f' hf'
    simp [Target.leads] at hf'
    subst hf'
    exact hFg
  · simp [invoke, go_sem, eg]
  refine (hseq (w.heap.size + 1) (fun k X => I k X ∧ X.heap[w.heap.size + 1]? = some (.loop (rec .ready)) ∧ X.heap[w.heap.size]? = some (.deferred (some []))) W1 hk1 ?_ ?_ ⟨hI1, hL1, hD1⟩).mono ?_
  · rintro k X Y row ⟨hi, hl, hd⟩ hgr hr
    rw [hz1] at hr
    refine ⟨hI k X Y row hi hgr fun r e => ?_, ?_, ?_⟩
    · have := hr r e
      omega
    · rw [hgr.block _ (Array.getElem?_eq_some_iff.1 hl).1 (fun e => by have := hr _ e.symm; omega)]
      exact hl
    · rw [hgr.block _ (Array.getElem?_eq_some_iff.1 hd).1 (fun e => by have := hr _ e.symm; omega)]
      exact hd
  · rintro k x X hx ⟨hi, hl, hd⟩ hlt
    rw [hz1] at hlt
    have hy := run_yield (P := P) (args := encs x) hl (by rw [(hst _).2.2]; exact hps x)
    rw [hrec] at hy
    refine ⟨fn, _, assign, body, hy, roundIn_of_wpIn hfn (hassign _ k x X _ hx hi hlt ?_)⟩
    intro a' Xa hka hax
    have hla := (hka.same (w.heap.size + 1) (by omega) (by omega)).trans hl
    have hda := (hka.same w.heap.size (by omega) (by omega)).trans hd
    have hza : w.heap.size + 2 < Xa.heap.size := Nat.lt_of_lt_of_le hlt hka.size
    refine ⟨_, run_beginRound hla (hst _).1, ?_⟩
    have hbr : ({ rec .ready with state := .busy } : Loop) = rec .busy := by rw [hrec]
    rw [hbr]
    have hl2 : (Xa.putObj (w.heap.size + 1) (.loop (rec .busy))).heap[w.heap.size + 1]? = some (.loop (rec .busy)) := World.putObj_heap_same (by omega)
    have hd2 : (Xa.putObj (w.heap.size + 1) (.loop (rec .busy))).heap[w.heap.size]? = some (.deferred (some [])) := (World.putObj_heap_other (by omega)).trans hda
    refine wpIn_mono (hbody _ k x a' _ hx (hAx k a' _ _ _ hax (grown_putObj _ _ _) (fun r e => by cases e; omega)) (by rw [World.putObj_size]; exact hza)) ?_
    rintro e a3 X3 hp
    cases e with
    | normal =>
      obtain ⟨hk3, hi3⟩ := hp
      have hl3 := (hk3.same (w.heap.size + 1) (by omega) (by omega)).trans hl2
      have hd3 := (hk3.same w.heap.size (by omega) (by omega)).trans hd2
      have hr := run_endRound (P := P) none hl3
      have her : ({ rec .busy with state := if (none : Option Code).isNone then .ready else .done, pending := none } : Loop) = rec .ready := by rw [hrec]; rfl
      rw [her] at hr
      have hz3 := hk3.size
      rw [World.putObj_size] at hz3
      refine ⟨_, _, hr, rfl, ⟨hI _ _ _ _ hi3 (grown_putObj _ _ _) (fun r e => by cases e; omega), World.putObj_heap_same (by omega), (World.putObj_heap_other (by omega)).trans hd3⟩, ?_, fun b hb hbg => ?_⟩
      · rw [World.putObj_size]
        have := hka.size
        omega
      · rw [hz1] at hb
        rw [World.putObj_heap_other (by omega), hk3.same b (by omega) hbg, World.putObj_heap_other (by omega), hka.same b (by omega) hbg]
    | _ => exact hp.elim
  · rintro e W2 ⟨⟨v, rfl⟩, hi, hl, hd⟩
    have hr := run_endLoop (P := P) hl (by rw [(hst _).1]; simp)
    rw [(hst _).2.1] at hr
    exact ⟨none, _, hr, hdone _ (hI _ _ _ _ hi (grown_putObj _ _ _) (fun r e => by cases e; omega)) ((World.putObj_heap_other (by omega)).trans hd)⟩
end Go.Proofs.YtkmcacgeecfjgaaGreatDoor
end
section
namespace Go.Proofs.YtkmcacgeecfjgaaGreatDoor
namespace Fl
open Go.RowKit Go.ChangeShapes Go.Shelf
set_option maxRecDepth 100000
attribute [local go_sem] Oper.semAt_some
def mergeV : Nat → List EdV → List EdV → List (Bool × EdV)
  | 0, _, _ => []
  | _ + 1, [], [] => []
  | n + 1, [], y :: d => (true, y) :: mergeV n [] d
  | n + 1, x :: c, [] => (false, x) :: mergeV n c []
  | n + 1, x :: c, y :: d => if y.at_ < x.at_ then (true, y) :: mergeV n (x :: c) d else (false, x) :: mergeV n c (y :: d)
theorem mergeV_map : ∀ (n : Nat) (c d : List EdV), (mergeV n c d).map (fun p => (p.1, p.2.ed)) = File.mergeGo n (c.map EdV.ed) (d.map EdV.ed) := by
  intro n
  induction n with
  | zero => intro c d; rfl
  | succ n ih =>
    intro c d
    cases c with
    | nil =>
      cases d with
      | nil => rfl
      | cons y d => simp only [mergeV, List.map_cons, List.map_nil, File.mergeGo, ih]
    | cons x c =>
      cases d with
      | nil => simp only [mergeV, List.map_cons, List.map_nil, File.mergeGo, ih]
      | cons y d =>
        simp only [mergeV, List.map_cons, File.mergeGo]
        show List.map _ (if y.at_ < x.at_ then _ else _) = if y.at_ < x.at_ then _ else _
        split <;> simp [ih]
theorem mergeV_length : ∀ (n : Nat) (c d : List EdV), c.length + d.length = n → (mergeV n c d).length = n := by
  intro n
  induction n with
  | zero => intro c d h; rfl
  | succ n ih =>
    intro c d h
    cases c with
    | nil =>
      cases d with
      | nil => simp at h
      | cons y d => simp only [mergeV, List.length_cons, ih [] d (by simpa using h)]
    | cons x c =>
      cases d with
      | nil => simp only [mergeV, List.length_cons, ih c [] (by simpa using h)]
      | cons y d =>
        simp only [mergeV]
        simp only [List.length_cons] at h
        split <;> simp only [List.length_cons]
        · rw [ih (x :: c) d (by simp only [List.length_cons]; omega)]
        · rw [ih c (y :: d) (by simp only [List.length_cons]; omega)]
/-- What is handed over. -/
def encP (p : Bool × EdV) : Array Value := #[iv (if p.1 then 1 else 0), p.2.v]
def numAt (w : World) (g o : Nat) : Nat := match w.cell? ⟨g, o, none⟩ with
  | some (.int _ n) => n.toNat
  | _ => 0
/-- A slice of edits that the rounds do not write. -/
structure Edits (w : World) (A : Option Addr) (vs : List EdV) (g : Nat) : Prop where
  sl : Sl edE w A vs
  apart : vs ≠ [] → ∀ b off, A = some ⟨b, off, none⟩ → b ≠ g
theorem Edits.kept {w W : World} {A : Option Addr} {vs : List EdV} {g : Nat} (h : Edits w A vs g) (hk : KeptBut w.heap.size g w W) : Sl edE W A vs := fun hne => by
  obtain ⟨b, off, hA, hb, hc⟩ := h.sl hne
  refine ⟨b, off, hA, Nat.lt_of_lt_of_le hb hk.size, fun i x hx j u hu => ?_⟩
  rw [World.cell?_of_block (w := w) (hk.same b hb (h.apart hne b off hA))]
  exact hc i x hx j u hu
theorem grown_setCell (W : World) (g o : Nat) (v : Value) : W.grownBy (W.setCell ⟨g, o, none⟩ v) (some g) :=
  ⟨rfl, rfl, rfl, by simp [World.setCell], fun b _ hb => Below.heap_setCell W ⟨g, o, none⟩ v b (fun e => hb (by rw [e]))⟩
set_option maxHeartbeats 4000000 in
theorem edits1_all (n : Nat) (hn : 1 ≤ n) (p : Nat) (A0 : Option Addr) (c0 : Nat) (A1 : Option Addr) (c1 : Nat) (vs0 vs1 : List EdV) (g : Nat) (w : World)
    (hp : Blk w p 187 #[.slice A0 vs0.length c0, .slice A1 vs1.length c1]) (hpg : p ≠ g) (h0 : Edits w A0 vs0 g) (h1 : Edits w A1 vs1 g) (hl : vs0.length + vs1.length ≤ 1000) (hgl : g < w.heap.size) :
    SeqAll Fence.wide n Tryz.prog 180 #[.pointer (some ⟨p, 0, none⟩)] encP (mergeV (vs0.length + vs1.length) vs0 vs1) g w := by
  intro l J W hk hJ hY hJ0
  refine callsIn_of_wp Tryz.func180 rfl trivial ?_ rfl
  simp only [Tryz.ntmps180, List.size_toArray, List.length_cons, List.length_nil, Nat.reduceAdd, Nat.reduceSub, Array.replicate_succ, Array.replicate_zero, List.push_toArray, List.append_toArray, List.nil_append, List.cons_append]
  have hJa : J 0 (W.alloc (.cells #[iv 0, iv 0] 47)) := hJ 0 _ _ none hJ0 (World.grownBy_alloc _ _ _) (fun r e => by cases e)
  have hAt : Blk (W.alloc (.cells #[iv 0, iv 0] 47)) W.heap.size 47 #[iv 0, iv 0] := Blk.new _ _ _
  have hka : KeptBut w.heap.size g w (W.alloc (.cells #[iv 0, iv 0] 47)) := hk.trans (KeptBut.alloc _ _ _ _ hk.size)
  have HE0 := Lib.hid h0
  have HE1 := Lib.hid h1
  have HP := Lib.hid hp
  have hplt := hp.lt
  have hWz := hk.size
  clear h0 h1 hp hJ0 hk
  obtain ⟨xs, hxs⟩ : ∃ xs, xs = mergeV (vs0.length + vs1.length) vs0 vs1 := ⟨_, rfl⟩
  rw [← hxs] at hY ⊢
  have HXL : Hid (xs.length = vs0.length + vs1.length) := Lib.hid (by rw [hxs]; exact mergeV_length _ _ _ rfl)
  have HX0 : Hid (xs.drop 0 = mergeV (vs0.length + vs1.length - 0) (vs0.drop 0) (vs1.drop 0)) := Lib.hid (by rw [hxs]; rfl)
  have HY := Lib.hid hY
  have HJ := Lib.hid hJ
  clear hxs hY hJ
  gi_wp2
  generalize W.alloc (.cells #[iv 0, iv 0] 47) = Wa at *
  gi_loopw [4] (fun _ wr => ∃ (i j : Nat), i ≤ vs0.length ∧ j ≤ vs1.length ∧ Blk wr W.heap.size 47 #[iv (i : Int), iv (j : Int)] ∧ J (i + j) wr ∧ KeptBut w.heap.size g w wr ∧ Hid (xs.drop (i + j) = mergeV (vs0.length + vs1.length - (i + j)) (vs0.drop i) (vs1.drop j)))
    (fun _ wr => vs0.length + vs1.length - (numAt wr W.heap.size 0 + numAt wr W.heap.size 1))
  case atStart => exact ⟨0, 0, Nat.zero_le _, Nat.zero_le _, hAt, hJa, hka, HX0⟩
  case round =>
    obtain ⟨i, j, hi, hj, hat, hJr, hkr, HX⟩ := hrel
    have a0 := hat.cell 0
    have a1 := hat.cell 1
    have al := hat.lt
    have hpr : Blk wr p 187 #[.slice A0 vs0.length c0, .slice A1 vs1.length c1] := (hkr.same p hplt hpg).trans HP.out
    have p0 := hpr.cell 0
    have p1 := hpr.cell 1
    have pl := hpr.lt
    by_cases hi0 : i < vs0.length
    · obtain ⟨b0, o0, x, hA0, hb0, hx, x0, x1, x2⟩ := Sl.atEd (HE0.out.kept hkr) hi0
      have hi0i : (i : Int) < (vs0.length : Int) := by omega
      have hi0e : ((i : Int) == (vs0.length : Int)) = false := by simp; omega
      by_cases hj0 : j < vs1.length
      · obtain ⟨b1, o1, y, hA1, hb1, hy, y0, y1, y2⟩ := Sl.atEd (HE1.out.kept hkr) hj0
        have hj0i : (j : Int) < (vs1.length : Int) := by omega
        subst hA0 hA1
        by_cases hlt : y.at_ < x.at_
        · have hd : xs.drop (i + j) = (true, y) :: mergeV (vs0.length + vs1.length - (i + (j + 1))) (vs0.drop i) (vs1.drop (j + 1)) := by
            rw [HX.out, drop_at hx, drop_at hy, show vs0.length + vs1.length - (i + j) = (vs0.length + vs1.length - (i + (j + 1))) + 1 by omega]
            simp only [mergeV]
            rw [if_pos hlt]
          have hxk : xs[i + j]? = some (true, y) := by
            have h6 := congrArg List.head? hd
            rw [List.head?_drop] at h6
            simpa using h6
          have HD2 : Hid (xs.drop (i + (j + 1)) = mergeV (vs0.length + vs1.length - (i + (j + 1))) (vs0.drop i) (vs1.drop (j + 1))) := Lib.hid (by
            rw [show i + (j + 1) = (i + j) + 1 by omega, ← List.drop_drop, hd, show i + j + 1 = i + (j + 1) by omega]
            rfl)
          clear hd HX
          gi_wp2
          gi_quiet (fail)
          have hgr : wr.grownBy (wr.drewN (nq + 1)) none := ⟨rfl, rfl, rfl, Nat.le_refl _, fun _ _ _ => rfl⟩
          obtain ⟨fn, tmps, assign, body, hy2, hR⟩ := HY.out (i + j) _ (wr.drewN (nq + 1)) hxk (HJ.out _ _ _ none hJr hgr (fun r e => by cases e)) al
          have hy3 : (Instr.yield l #[Value.int .i64 1, .agg #[iv y.at_, .slice y.A y.old.length y.c, .slice y.A' y.new.length y.c']]).run Tryz.prog (wr.drewN (nq + 1)) = .ok (.round l fn tmps assign body) (wr.drewN (nq + 1)) := hy2
          clear hy2
          have hmix : (Tryz.prog).follows .mixedOrders = true := by kernel_rfl
          gi_wp2_with fail
          gi_region_with_o (refine hR.mono ?_; rintro e W3 ⟨rfl, hJ3, hz3, hk3⟩)
          all_goals
            have hat3 : Blk W3 W.heap.size 47 #[iv (i : Int), iv (j : Int)] := (hk3 W.heap.size (.inr rfl) (by omega)).trans hat
            have hkr3 : KeptBut w.heap.size g w W3 := hkr.trans ⟨hz3, fun b hb hbg => hk3 b (.inl hb) hbg⟩
            have c0 := hat3.cell 0
            have c1 := hat3.cell 1
            have cl := hat3.lt
            have cf := hat3.frozen 1
            have ew : IntKind.i64.wrap ((j : Int) + 1) = ((j + 1 : Nat) : Int) := IntWalk.i64_in _ (by omega)
            have hat4 := hat3.set_ 1 (iv ((j + 1 : Nat) : Int))
            have hkr4 : KeptBut w.heap.size g w (W3.setCell ⟨W.heap.size, 1, none⟩ (iv ((j + 1 : Nat) : Int))) := hkr3.trans (KeptBut.set_ _ (.inr hWz) _)
            have HJ4 : Hid (J (i + (j + 1)) (W3.setCell ⟨W.heap.size, 1, none⟩ (iv ((j + 1 : Nat) : Int)))) := Lib.hid (by
              rw [show i + (j + 1) = i + j + 1 by omega]
              exact HJ.out _ W3 _ (some W.heap.size) hJ3 (grown_setCell W3 W.heap.size 1 _) (fun r e => by cases e; rfl))
            gi_wp2
            go_roundw
            case rel => exact ⟨i, (j + 1), by omega, by omega, hat4, HJ4.out, hkr4, HD2⟩
            case measure =>
              have e0 : numAt wr W.heap.size 0 = i := by unfold numAt; rw [a0]; simp
              have e1 : numAt wr W.heap.size 1 = j := by unfold numAt; rw [a1]; simp
              have f0 := hat4.cell 0
              have f1 := hat4.cell 1
              have e2 : numAt (W3.setCell ⟨W.heap.size, 1, none⟩ (iv ((j + 1 : Nat) : Int))) W.heap.size 0 = i := by unfold numAt; rw [f0]; simp; try omega
              have e3 : numAt (W3.setCell ⟨W.heap.size, 1, none⟩ (iv ((j + 1 : Nat) : Int))) W.heap.size 1 = (j + 1) := by unfold numAt; rw [f1]; simp; try omega
              rw [e0, e1]
              show vs0.length + vs1.length - (numAt (W3.setCell ⟨W.heap.size, 1, none⟩ (iv ((j + 1 : Nat) : Int))) W.heap.size 0 + numAt (W3.setCell ⟨W.heap.size, 1, none⟩ (iv ((j + 1 : Nat) : Int))) W.heap.size 1) < _
              rw [e2, e3]
              omega
        · have hd : xs.drop (i + j) = (false, x) :: mergeV (vs0.length + vs1.length - ((i + 1) + j)) (vs0.drop (i + 1)) (vs1.drop j) := by
            rw [HX.out, drop_at hx, drop_at hy, show vs0.length + vs1.length - (i + j) = (vs0.length + vs1.length - ((i + 1) + j)) + 1 by omega]
            simp only [mergeV]
            rw [if_neg hlt]
          have hxk : xs[i + j]? = some (false, x) := by
            have h6 := congrArg List.head? hd
            rw [List.head?_drop] at h6
            simpa using h6
          have HD2 : Hid (xs.drop ((i + 1) + j) = mergeV (vs0.length + vs1.length - ((i + 1) + j)) (vs0.drop (i + 1)) (vs1.drop j)) := Lib.hid (by
            rw [show (i + 1) + j = (i + j) + 1 by omega, ← List.drop_drop, hd, show i + j + 1 = (i + 1) + j by omega]
            rfl)
          clear hd HX
          gi_wp2
          gi_quiet (fail)
          have hgr : wr.grownBy (wr.drewN (nq + 1)) none := ⟨rfl, rfl, rfl, Nat.le_refl _, fun _ _ _ => rfl⟩
          obtain ⟨fn, tmps, assign, body, hy2, hR⟩ := HY.out (i + j) _ (wr.drewN (nq + 1)) hxk (HJ.out _ _ _ none hJr hgr (fun r e => by cases e)) al
          have hy3 : (Instr.yield l #[Value.int .i64 0, .agg #[iv x.at_, .slice x.A x.old.length x.c, .slice x.A' x.new.length x.c']]).run Tryz.prog (wr.drewN (nq + 1)) = .ok (.round l fn tmps assign body) (wr.drewN (nq + 1)) := hy2
          clear hy2
          have hmix : (Tryz.prog).follows .mixedOrders = true := by kernel_rfl
          gi_wp2_with fail
          gi_region_with_o (refine hR.mono ?_; rintro e W3 ⟨rfl, hJ3, hz3, hk3⟩)
          all_goals
            have hat3 : Blk W3 W.heap.size 47 #[iv (i : Int), iv (j : Int)] := (hk3 W.heap.size (.inr rfl) (by omega)).trans hat
            have hkr3 : KeptBut w.heap.size g w W3 := hkr.trans ⟨hz3, fun b hb hbg => hk3 b (.inl hb) hbg⟩
            have c0 := hat3.cell 0
            have c1 := hat3.cell 1
            have cl := hat3.lt
            have cf := hat3.frozen 0
            have ew : IntKind.i64.wrap ((i : Int) + 1) = ((i + 1 : Nat) : Int) := IntWalk.i64_in _ (by omega)
            have hat4 := hat3.set_ 0 (iv ((i + 1 : Nat) : Int))
            have hkr4 : KeptBut w.heap.size g w (W3.setCell ⟨W.heap.size, 0, none⟩ (iv ((i + 1 : Nat) : Int))) := hkr3.trans (KeptBut.set_ _ (.inr hWz) _)
            have HJ4 : Hid (J ((i + 1) + j) (W3.setCell ⟨W.heap.size, 0, none⟩ (iv ((i + 1 : Nat) : Int)))) := Lib.hid (by
              rw [show (i + 1) + j = i + j + 1 by omega]
              exact HJ.out _ W3 _ (some W.heap.size) hJ3 (grown_setCell W3 W.heap.size 0 _) (fun r e => by cases e; rfl))
            gi_wp2
            go_roundw
            case rel => exact ⟨(i + 1), j, by omega, by omega, hat4, HJ4.out, hkr4, HD2⟩
            case measure =>
              have e0 : numAt wr W.heap.size 0 = i := by unfold numAt; rw [a0]; simp
              have e1 : numAt wr W.heap.size 1 = j := by unfold numAt; rw [a1]; simp
              have f0 := hat4.cell 0
              have f1 := hat4.cell 1
              have e2 : numAt (W3.setCell ⟨W.heap.size, 0, none⟩ (iv ((i + 1 : Nat) : Int))) W.heap.size 0 = (i + 1) := by unfold numAt; rw [f0]; simp; try omega
              have e3 : numAt (W3.setCell ⟨W.heap.size, 0, none⟩ (iv ((i + 1 : Nat) : Int))) W.heap.size 1 = j := by unfold numAt; rw [f1]; simp; try omega
              rw [e0, e1]
              show vs0.length + vs1.length - (numAt (W3.setCell ⟨W.heap.size, 0, none⟩ (iv ((i + 1 : Nat) : Int))) W.heap.size 0 + numAt (W3.setCell ⟨W.heap.size, 0, none⟩ (iv ((i + 1 : Nat) : Int))) W.heap.size 1) < _
              rw [e2, e3]
              omega
      · have hj0i : ¬ (j : Int) < (vs1.length : Int) := by omega
        subst hA0
        have hd : xs.drop (i + j) = (false, x) :: mergeV (vs0.length + vs1.length - ((i + 1) + j)) (vs0.drop (i + 1)) (vs1.drop j) := by
          rw [HX.out, drop_at hx, List.drop_eq_nil_of_le (show vs1.length ≤ j by omega), show vs0.length + vs1.length - (i + j) = (vs0.length + vs1.length - ((i + 1) + j)) + 1 by omega]
          simp only [mergeV]
        have hxk : xs[i + j]? = some (false, x) := by
          have h6 := congrArg List.head? hd
          rw [List.head?_drop] at h6
          simpa using h6
        have HD2 : Hid (xs.drop ((i + 1) + j) = mergeV (vs0.length + vs1.length - ((i + 1) + j)) (vs0.drop (i + 1)) (vs1.drop j)) := Lib.hid (by
          rw [show (i + 1) + j = (i + j) + 1 by omega, ← List.drop_drop, hd, show i + j + 1 = (i + 1) + j by omega]
          rfl)
        clear hd HX
        gi_wp2
        gi_quiet (fail)
        have hgr : wr.grownBy (wr.drewN (nq + 1)) none := ⟨rfl, rfl, rfl, Nat.le_refl _, fun _ _ _ => rfl⟩
        obtain ⟨fn, tmps, assign, body, hy2, hR⟩ := HY.out (i + j) _ (wr.drewN (nq + 1)) hxk (HJ.out _ _ _ none hJr hgr (fun r e => by cases e)) al
        have hy3 : (Instr.yield l #[Value.int .i64 0, .agg #[iv x.at_, .slice x.A x.old.length x.c, .slice x.A' x.new.length x.c']]).run Tryz.prog (wr.drewN (nq + 1)) = .ok (.round l fn tmps assign body) (wr.drewN (nq + 1)) := hy2
        clear hy2
        have hmix : (Tryz.prog).follows .mixedOrders = true := by kernel_rfl
        gi_wp2_with fail
        gi_region_with_o (refine hR.mono ?_; rintro e W3 ⟨rfl, hJ3, hz3, hk3⟩)
        all_goals
          have hat3 : Blk W3 W.heap.size 47 #[iv (i : Int), iv (j : Int)] := (hk3 W.heap.size (.inr rfl) (by omega)).trans hat
          have hkr3 : KeptBut w.heap.size g w W3 := hkr.trans ⟨hz3, fun b hb hbg => hk3 b (.inl hb) hbg⟩
          have c0 := hat3.cell 0
          have c1 := hat3.cell 1
          have cl := hat3.lt
          have cf := hat3.frozen 0
          have ew : IntKind.i64.wrap ((i : Int) + 1) = ((i + 1 : Nat) : Int) := IntWalk.i64_in _ (by omega)
          have hat4 := hat3.set_ 0 (iv ((i + 1 : Nat) : Int))
          have hkr4 : KeptBut w.heap.size g w (W3.setCell ⟨W.heap.size, 0, none⟩ (iv ((i + 1 : Nat) : Int))) := hkr3.trans (KeptBut.set_ _ (.inr hWz) _)
          have HJ4 : Hid (J ((i + 1) + j) (W3.setCell ⟨W.heap.size, 0, none⟩ (iv ((i + 1 : Nat) : Int)))) := Lib.hid (by
            rw [show (i + 1) + j = i + j + 1 by omega]
            exact HJ.out _ W3 _ (some W.heap.size) hJ3 (grown_setCell W3 W.heap.size 0 _) (fun r e => by cases e; rfl))
          gi_wp2
          go_roundw
          case rel => exact ⟨(i + 1), j, by omega, by omega, hat4, HJ4.out, hkr4, HD2⟩
          case measure =>
            have e0 : numAt wr W.heap.size 0 = i := by unfold numAt; rw [a0]; simp
            have e1 : numAt wr W.heap.size 1 = j := by unfold numAt; rw [a1]; simp
            have f0 := hat4.cell 0
            have f1 := hat4.cell 1
            have e2 : numAt (W3.setCell ⟨W.heap.size, 0, none⟩ (iv ((i + 1 : Nat) : Int))) W.heap.size 0 = (i + 1) := by unfold numAt; rw [f0]; simp; try omega
            have e3 : numAt (W3.setCell ⟨W.heap.size, 0, none⟩ (iv ((i + 1 : Nat) : Int))) W.heap.size 1 = j := by unfold numAt; rw [f1]; simp; try omega
            rw [e0, e1]
            show vs0.length + vs1.length - (numAt (W3.setCell ⟨W.heap.size, 0, none⟩ (iv ((i + 1 : Nat) : Int))) W.heap.size 0 + numAt (W3.setCell ⟨W.heap.size, 0, none⟩ (iv ((i + 1 : Nat) : Int))) W.heap.size 1) < _
            rw [e2, e3]
            omega
    · have hi0i : ¬ (i : Int) < (vs0.length : Int) := by omega
      have hi0e : ((i : Int) == (vs0.length : Int)) = true := by simp; omega
      by_cases hj0 : j < vs1.length
      · obtain ⟨b1, o1, y, hA1, hb1, hy, y0, y1, y2⟩ := Sl.atEd (HE1.out.kept hkr) hj0
        have hj0i : (j : Int) < (vs1.length : Int) := by omega
        subst hA1
        have hd : xs.drop (i + j) = (true, y) :: mergeV (vs0.length + vs1.length - (i + (j + 1))) (vs0.drop i) (vs1.drop (j + 1)) := by
          rw [HX.out, drop_at hy, List.drop_eq_nil_of_le (show vs0.length ≤ i by omega), show vs0.length + vs1.length - (i + j) = (vs0.length + vs1.length - (i + (j + 1))) + 1 by omega]
          simp only [mergeV]
        have hxk : xs[i + j]? = some (true, y) := by
          have h6 := congrArg List.head? hd
          rw [List.head?_drop] at h6
          simpa using h6
        have HD2 : Hid (xs.drop (i + (j + 1)) = mergeV (vs0.length + vs1.length - (i + (j + 1))) (vs0.drop i) (vs1.drop (j + 1))) := Lib.hid (by
          rw [show i + (j + 1) = (i + j) + 1 by omega, ← List.drop_drop, hd, show i + j + 1 = i + (j + 1) by omega]
          rfl)
        clear hd HX
        gi_wp2
        gi_quiet (fail)
        have hgr : wr.grownBy (wr.drewN (nq + 1)) none := ⟨rfl, rfl, rfl, Nat.le_refl _, fun _ _ _ => rfl⟩
        obtain ⟨fn, tmps, assign, body, hy2, hR⟩ := HY.out (i + j) _ (wr.drewN (nq + 1)) hxk (HJ.out _ _ _ none hJr hgr (fun r e => by cases e)) al
        have hy3 : (Instr.yield l #[Value.int .i64 1, .agg #[iv y.at_, .slice y.A y.old.length y.c, .slice y.A' y.new.length y.c']]).run Tryz.prog (wr.drewN (nq + 1)) = .ok (.round l fn tmps assign body) (wr.drewN (nq + 1)) := hy2
        clear hy2
        have hmix : (Tryz.prog).follows .mixedOrders = true := by kernel_rfl
        gi_wp2_with fail
        gi_region_with_o (refine hR.mono ?_; rintro e W3 ⟨rfl, hJ3, hz3, hk3⟩)
        all_goals
          have hat3 : Blk W3 W.heap.size 47 #[iv (i : Int), iv (j : Int)] := (hk3 W.heap.size (.inr rfl) (by omega)).trans hat
          have hkr3 : KeptBut w.heap.size g w W3 := hkr.trans ⟨hz3, fun b hb hbg => hk3 b (.inl hb) hbg⟩
          have c0 := hat3.cell 0
          have c1 := hat3.cell 1
          have cl := hat3.lt
          have cf := hat3.frozen 1
          have ew : IntKind.i64.wrap ((j : Int) + 1) = ((j + 1 : Nat) : Int) := IntWalk.i64_in _ (by omega)
          have hat4 := hat3.set_ 1 (iv ((j + 1 : Nat) : Int))
          have hkr4 : KeptBut w.heap.size g w (W3.setCell ⟨W.heap.size, 1, none⟩ (iv ((j + 1 : Nat) : Int))) := hkr3.trans (KeptBut.set_ _ (.inr hWz) _)
          have HJ4 : Hid (J (i + (j + 1)) (W3.setCell ⟨W.heap.size, 1, none⟩ (iv ((j + 1 : Nat) : Int)))) := Lib.hid (by
            rw [show i + (j + 1) = i + j + 1 by omega]
            exact HJ.out _ W3 _ (some W.heap.size) hJ3 (grown_setCell W3 W.heap.size 1 _) (fun r e => by cases e; rfl))
          gi_wp2
          go_roundw
          case rel => exact ⟨i, (j + 1), by omega, by omega, hat4, HJ4.out, hkr4, HD2⟩
          case measure =>
            have e0 : numAt wr W.heap.size 0 = i := by unfold numAt; rw [a0]; simp
            have e1 : numAt wr W.heap.size 1 = j := by unfold numAt; rw [a1]; simp
            have f0 := hat4.cell 0
            have f1 := hat4.cell 1
            have e2 : numAt (W3.setCell ⟨W.heap.size, 1, none⟩ (iv ((j + 1 : Nat) : Int))) W.heap.size 0 = i := by unfold numAt; rw [f0]; simp; try omega
            have e3 : numAt (W3.setCell ⟨W.heap.size, 1, none⟩ (iv ((j + 1 : Nat) : Int))) W.heap.size 1 = (j + 1) := by unfold numAt; rw [f1]; simp; try omega
            rw [e0, e1]
            show vs0.length + vs1.length - (numAt (W3.setCell ⟨W.heap.size, 1, none⟩ (iv ((j + 1 : Nat) : Int))) W.heap.size 0 + numAt (W3.setCell ⟨W.heap.size, 1, none⟩ (iv ((j + 1 : Nat) : Int))) W.heap.size 1) < _
            rw [e2, e3]
            omega
      · have hj0i : ¬ (j : Int) < (vs1.length : Int) := by omega
        have hJe : J xs.length wr := by rw [HXL.out, show vs0.length + vs1.length = i + j by omega]; exact hJr
        gi_wp2
        go_end0
        exact ⟨⟨_, rfl⟩, hJe⟩
end Fl
end Go.Proofs.YtkmcacgeecfjgaaGreatDoor
end
section
namespace Go.Proofs.YtkmcacgeecfjgaaGreatDoor
open Go.RowKit
theorem rowsIn_wide {n : Nat} {P : Program} {row : String} {args : Array Value} {w : World} {R : Value → World → Prop} (h : Rows P row args w R) : RowsIn Fence.wide n P row args w R :=
  fun c cs _ => let ⟨v, w', r, s⟩ := h c cs; ⟨v, w', r, stepsIn_wide.2 s⟩
section
variable {P : Program} {ops : Array Oper} {Q : Exit → Act → World → Prop} {n l : Nat}
theorem opIn_of_op {o : Oper} {a : Act} {w : World} {K : Act → World → Prop} (hd : ∀ c, o.op ≠ .defer c) (h : o.wp P a w K Q) : o.wpIn (Fence.wide.inRound l) n P a w K Q := by
  unfold Oper.wpIn
  refine ⟨fun _ _ => trivial, ?_⟩
  rw [Oper.semAt_eq _ _ _ hd]
  unfold Oper.wp at h
  generalize (execOp a.eval o).run P w = r at *
  cases r with
  | ok x w' =>
    cases x <;> simp only [Oper.upon, Oper.uponIn] at h ⊢ <;>
      first
        | exact h
        | exact h.elim
        | exact ⟨fun e => (by cases e), CallsIn.inRound l (callsIn_wide.2 h)⟩
        | exact ⟨fun e => (by cases e), rowsIn_wide h⟩
  | halt x w' => cases x <;> simp only [Oper.upon, Oper.uponIn] at h ⊢ <;> exact h
theorem anyIn_of_any {md : Region.Mode} (hno : ∀ (i : Nat) (o : Oper), ops[i]? = some o → ∀ c, o.op ≠ .defer c) (hQ : ¬ LetsOut Q) : ∀ (fuel : Nat) (listed : Array Bool) (a : Act) (w : World), wpAny P md ops Q fuel listed a w → wpAnyIn (Fence.wide.inRound l) n P md ops Q fuel listed a w := by
  intro fuel
  induction fuel with
  | zero => intro listed a w h; exact h
  | succ fuel ih =>
    intro listed a w h
    refine ⟨h.1, fun i hi => ?_⟩
    have h2 := h.2 i hi
    unfold wpOp at h2
    unfold wpOpIn
    cases ho : ops[i]? with
    | none => rw [ho] at h2; exact ih _ _ _ h2
    | some o =>
      rw [ho] at h2
      simp only at h2 ⊢
      split
      · rename_i hw
        rw [if_pos hw] at h2
        rcases h2 with h2 | h2
        · exact opIn_of_op (hno i o ho) (Oper.wp_mono (fun a w => ih _ a w) h2)
        · exact absurd h2.2 hQ
      · rename_i hw
        rw [if_neg hw] at h2
        exact ⟨fun _ _ => trivial, ih _ _ _ h2⟩
def noDefer (ops : List Oper) : Bool := ops.all fun o => match o.op with
  | .defer _ => false
  | _ => true
theorem noDefer_spec {L : List Oper} (h : noDefer L = true) : ∀ (i : Nat) (o : Oper), L.toArray[i]? = some o → ∀ c, o.op ≠ .defer c := fun i o ho c e => by
  have hm : o ∈ L := by rw [List.getElem?_toArray] at ho; exact List.mem_of_getElem? ho
  have := List.all_eq_true.1 h o hm
  rw [e] at this
  cases this
/-- A region that only reads, within a round. -/
theorem wpIn_round_quiet {id : Nat} {a : Act} {w : World} {L : List Oper} (hm : P.follows .mixedOrders = true) (hB : Region.lexB .any L.toArray = true) (hno : noDefer L = true) (hQ : ¬ LetsOut Q)
    (h : wpQuiet P L.toArray (fun w' => ∃ n, w' = w.drewN n) (fun a' => ∀ w', (∃ n, w' = w.drewN n) → Q .normal a' w') L a) : (Code.region id L.toArray true).wpIn (Fence.wide.inRound l) n P Q a w := by
  simp only [Region.lexB, Bool.and_eq_true] at hB
  refine wpIn_region_any hm (anyIn_of_any (noDefer_spec hno) hQ _ _ _ _ (wpAny_of_quiet (C := fun w' => ∃ n, w' = w.drewN n) (Q := fun a' => ∀ w', (∃ n, w' = w.drewN n) → Q .normal a' w') (fun _ w' hw' h => h w' hw') _ _ _ _ ⟨1, rfl⟩ ?_))
  have := wpAnyQ_lex (C := fun w' => ∃ n, w' = w.drewN n) (md := .any) hB.1 L 0 (Array.replicate L.toArray.size false) a (by simp) (by simpa using hB.2) h
  simpa using this
/-- A region whose orders are gone through with S in hand, within a round. -/
theorem wpIn_round_held {S : World → Prop} {id : Nat} {a : Act} {w : World} {L : List Oper} (hm : P.follows .mixedOrders = true) (hno : noDefer L = true) (hQ : ¬ LetsOut Q) (hS : S w.drew)
    (h : S w.drew → wpAnyH P .any L.toArray Q S L.toArray.size (Array.replicate L.toArray.size false) a w.drew) : (Code.region id L.toArray true).wpIn (Fence.wide.inRound l) n P Q a w :=
  wpIn_region_any hm (anyIn_of_any (noDefer_spec hno) hQ _ _ _ _ (wpAny_of_held _ _ _ _ (h hS)))
end
/-- append of one element that lies anywhere, at such a step, and where the new slice lies. -/
theorem stepApp1At {α : Type} (E : Enc α) {P : Program} {t e : TypeId} (hT : SlTy P t e E.sz) {ops : Array Oper} {o : Oper} {a : Act} {K : Act → World → Prop} {Q : Exit → Act → World → Prop} {E' : Prop} {w : World}
    (hgd : o.guard = none) (s x : Operand) (ho : o.op = .call { callee := .builtin .append, args := #[s, x], argTypes := #[t, t] })
    {B : Nat} {v : Value} {xs : List α} (hown : Own E e B w v xs) {g off : Nat} {y : α} (hy : Sl E w (some ⟨g, off, none⟩) [y]) (hs : a.eval s = v) (hx : a.eval x = .slice (some ⟨g, off, none⟩) 1 1)
    (hB : B ≤ w.heap.size) (hn : xs.length + 1 ≤ big)
    (h : ∀ v' w', Own E e B w' v' (xs ++ [y]) → Below B w w' → (∀ b, b < w.heap.size → v.ownBlock ≠ some b → w'.heap[b]? = w.heap[b]?) → (v'.ownBlock = v.ownBlock ∨ v'.ownBlock = some w.heap.size) → K (a.put o.dst v') w') :
    if Region.wanted o (yielded ops a.tmps) = true then Oper.wp P o a w K Q else E' := by
  have hw : Region.wanted o (yielded ops a.tmps) = true := by simp [Region.wanted, hgd]
  rw [if_pos hw]
  obtain ⟨i, z, hi, hz, hsz, hby, hzc⟩ := hT.info
  unfold big at hn
  obtain ⟨v', w', hr, h2, h3, _, h5⟩ := run_append_own_at (P := P) w B t o.type e i z E.sz i.bytes hT.ht hi hz hsz rfl hzc E.pos v xs.length (xs.flatMap E.cells) hown
    ⟨g, off, none⟩ 1 1 ([y].flatMap E.cells) (flat_length E [y]) (fun j u hu => by
      obtain ⟨k, y', k', rfl, hk, hu⟩ := flat_inv E [y] j u hu
      obtain ⟨b, off', hA, _, hc⟩ := hy (by simp)
      injection hA with hA
      injection hA with e1 e2
      subst e1 e2
      rw [Addr.add_lit]
      have := hc k y' hk k' u hu
      rw [show off + k * E.sz + k' = off + (k * E.sz + k') from by omega] at this
      exact this) (fun u hu => by
      obtain ⟨y', _, hu⟩ := List.mem_flatMap.1 hu
      exact E.one y' u hu) (by unfold maxLen; omega) (by have := Nat.mul_le_mul hn hby; omega) hB
  unfold Oper.wp execOp
  simp only [ho, resolve, invoke, builtin, Sem.run_bind, Sem.run_pure, Result.andThen_ok, List.map_toArray, List.map_cons, List.map_nil, hs, hx, hr]
  exact h v' w' (by unfold Own; simpa using h2) ((Below.refl B w).grown h3 hB fun k hk => (Own.lt hown k hk).1) (fun b hb hv => h3.block b hb (fun e => hv e.symm)) h5
/-- append of one element in a round. -/
theorem wpApp1In {F : Fence} {m : Nat} {α : Type} (E : Enc α) {P : Program} {t e : TypeId} (hT : SlTy P t e E.sz) {ops : Array Oper} {rest : List Oper} {o : Oper} {a : Act} {Q : Exit → Act → World → Prop} {w : World} {arr : Array Value}
    (hgd : o.guard = none) (s x : Operand) (ho : o.op = .call { callee := .builtin .append, args := #[s, x], argTypes := #[t, t] })
    {B : Nat} {v : Value} {xs : List α} (hown : Own E e B w v xs) (y : α) (harr : arr.toList = E.cells y) (hs : a.eval s = v) {G : Nat} (hG : G = w.heap.size) (hx : a.eval x = .slice (some ⟨G, 0, none⟩) 1 1)
    (hB : B ≤ w.heap.size) (hn : xs.length + 1 ≤ big)
    (h : ∀ v' w', Own E e B w' v' (xs ++ [y]) → Below B w w' → (∀ b, b < w.heap.size → v.ownBlock ≠ some b → w'.heap[b]? = w.heap[b]?) → wpListIn F m P ops Q rest (a.put o.dst v') w') :
    wpListIn F m P ops Q (o :: rest) a (w.alloc (.cells arr e)) := by
  subst hG
  obtain ⟨i, z, hi, hz, hsz, hby, hzc⟩ := hT.info
  unfold big at hn
  refine wpListIn_append_own (w.alloc (.cells arr e)) hgd s x t ho B e i z E.sz i.bytes hT.ht hi hz hsz rfl hzc E.pos v xs.length (xs.flatMap E.cells) hs (World.ownsRow.alloc hown _)
    ⟨w.heap.size, 0, none⟩ 1 1 (E.cells y) hx (by rw [E.len]; omega) ?_ (E.one y) (by unfold maxLen; omega) (by have := Nat.mul_le_mul hn hby; omega) (by simp; omega) ?_
  · intro j u hu
    rw [Addr.add_lit, Nat.zero_add, cell_of_row _ w.heap.size j arr e (0, 0) (heap_alloc_new w _), ← hu, ← harr, Array.getElem?_toList]
  · intro v' w' hown' hg _
    have hlt := Own.lt hown
    refine h v' w' (by unfold Own; simpa using hown') ?_ (fun b hb hv => ?_)
    · exact ((Below.refl B w).alloc hB _).grown hg (by simp; omega) fun k hk => (hlt k hk).1
    · rw [hg.block b (by simp; omega) (fun e => hv e.symm)]
      exact Below.heap_alloc w _ b hb
end Go.Proofs.YtkmcacgeecfjgaaGreatDoor
end
