/- A range over a function whose iterator keeps a variable of its own in a block, and whose rounds write one block of the caller's. Conditions: each round ends at its end. -/
import Derived.Test.YtekkhnjepcebkaaGreatDoorMem2
import Derived.RangeFuncNested
import Derived.RangeFuncBound
import Derived.RangeFuncCalls
import Derived.RangeFuncLeaves
import Derived.Shelf.Abstract
import Derived.Shelf.RegionOpen
import Derived.OwnWalkIn
import Derived.TacticsInMore
import Derived.LoopNIn
import Derived.LoopIn
set_option linter.unusedVariables false
set_option linter.unusedSimpArgs false
namespace Go.Proofs.YtekkhnjepcebkaaGreatDoor
open Go.RowKit Go.Shelf
/-- What lay below n is as it was, but for the block g. -/
structure KeptBut (n g : Nat) (X Y : World) : Prop where
  size : X.heap.size ≤ Y.heap.size
  same : ∀ b, b < n → b ≠ g → Y.heap[b]? = X.heap[b]?
theorem KeptBut.refl (n g : Nat) (X : World) : KeptBut n g X X := ⟨Nat.le_refl _, fun _ _ _ => rfl⟩
theorem KeptBut.trans {n g : Nat} {X Y Z : World} (h : KeptBut n g X Y) (k : KeptBut n g Y Z) : KeptBut n g X Z := ⟨Nat.le_trans h.size k.size, fun b hb hg => (k.same b hb hg).trans (h.same b hb hg)⟩
theorem KeptBut.alloc (n g : Nat) (X : World) (o : Obj) (hn : n ≤ X.heap.size) : KeptBut n g X (X.alloc o) := ⟨by simp, fun b hb _ => Below.heap_alloc X o b (by omega)⟩
theorem KeptBut.of_below {n g : Nat} {X Y : World} (h : Below X.heap.size X Y) (hn : n ≤ X.heap.size) : KeptBut n g X Y := ⟨h.size, fun b hb _ => h.block b (by omega)⟩
theorem KeptBut.set_ {n g : Nat} {X : World} (p : Addr) (hp : p.block = g ∨ n ≤ p.block) (u : Value) : KeptBut n g X (X.setCell p u) := ⟨by simp [World.setCell], fun b hb hg => Below.heap_setCell X p u b (by omega)⟩
/-- An iterator over which all of xs come, one behind the other; the block at the heap's size is its own; of what lay below w's size the rounds may write g alone. -/
def SeqAll {α : Type} (F : Fence) (n : Nat) (P : Program) (gf : Nat) (lb : Array Value) (encs : α → Array Value) (xs : List α) (g : Nat) (w : World) : Prop :=
  ∀ (l : Nat) (J : Nat → World → Prop) (W : World), KeptBut w.heap.size g w W →
    (∀ k X Y row, J k X → X.grownBy Y row → (∀ r, row = some r → r = W.heap.size) → J k Y) →
    (∀ k x X, xs[k]? = some x → J k X → W.heap.size < X.heap.size → YieldAt F (n - 1) P l (encs x) X fun e Y =>
      e = .returned (.bool true) ∧ J (k + 1) Y ∧ X.heap.size ≤ Y.heap.size ∧ ∀ b, (b < w.heap.size ∨ b = W.heap.size) → b ≠ g → Y.heap[b]? = X.heap[b]?) →
    J 0 W →
    CallsIn F n P gf (#[.func (.yield l) #[] #[]] ++ lb) W fun e W' => (∃ v, e = .returned v) ∧ J xs.length W'
theorem grown_putObj (W : World) (l : Nat) (o : Obj) : W.grownBy (W.putObj l o) (some l) := grownBy_putObj' W l o
/-- The statement. -/
theorem wpIn_rangeAll {α : Type} {F : Fence} {n : Nat} {P : Program} {f : Operand} {ps : Array Tmp} {assign body : Code} {Q : Exit → Act → World → Prop} {a : Act} {w : World}
    (hro : F.round = none) (h1 : 1 ≤ n) {gf : Nat} {lb : Array Value} (hf : a.eval f = .func (.func gf) #[] lb) (hFg : F.fn gf) (eg : ∀ args w, (callFunc gf args).run P w = .ok (.enter gf args) w)
    {encs : α → Array Value} {xs : List α} {g : Nat} (hg : g < w.heap.size) (hseq : SeqAll F (n - 1) P gf lb encs xs g w) (hps : ∀ x, (encs x).size = ps.size)
    (I : Nat → World → Prop) (hI : ∀ k X Y row, I k X → X.grownBy Y row → (∀ r, row = some r → w.heap.size ≤ r ∧ r < w.heap.size + 3) → I k Y) (h0 : I 0 w)
    (Ax : Nat → Act → World → Prop) (hAx : ∀ k a' X Y row, Ax k a' X → X.grownBy Y row → (∀ r, row = some r → w.heap.size ≤ r ∧ r < w.heap.size + 3) → Ax k a' Y)
    (hassign : ∀ (l k : Nat) (x : α) (X : World) (K : Act → World → Prop), xs[k]? = some x → I k X → w.heap.size + 2 < X.heap.size → (∀ a' Y, KeptBut (w.heap.size + 3) g X Y → Ax k a' Y → K a' Y) →
      assign.wpIn (F.inRound l) (n - 1 - 1) P (Exit.then K (fun _ _ _ => False)) { tmps := (ps.zip (encs x)).foldl (fun t (p, v) => t.setIfInBounds p v) a.tmps, defers := [] } X)
    (hbody : ∀ (l k : Nat) (x : α) (a' : Act) (X : World), xs[k]? = some x → Ax k a' X → w.heap.size + 2 < X.heap.size →
      body.wpIn (F.inRound l) (n - 1 - 1) P (Exit.then (fun _ Y => KeptBut (w.heap.size + 3) g X Y ∧ I (k + 1) Y) (fun _ _ _ => False)) a' X)
    (hdone : ∀ W : World, I xs.length W → W.heap[w.heap.size]? = some (.deferred (some [])) → Q .normal { a with defers := { target := .collected w.heap.size, args := #[] } :: a.defers } W) :
    (Code.rangeFunc f ps assign body).wpIn F n P Q a w := by
  refine wpIn_rangeFunc ?_
  intro fn hfn
  rw [hro]
  obtain ⟨rec, hrec⟩ : ∃ rec : LoopState → Loop, rec = fun st => { state := st, pending := none, fn, tmps := a.tmps, params := ps, assign, body, defers := w.heap.size } := ⟨_, rfl⟩
  have hst : ∀ st, (rec st).state = st ∧ (rec st).pending = none ∧ (rec st).params = ps := fun st => by rw [hrec]; exact ⟨rfl, rfl, rfl⟩
  obtain ⟨W1, hW1⟩ : ∃ W1, (w.alloc (.deferred (some []))).alloc (.loop (rec .ready)) = W1 := ⟨_, rfl⟩
  have hz1 : W1.heap.size = w.heap.size + 2 := by rw [← hW1]; simp
  have hL1 : W1.heap[w.heap.size + 1]? = some (.loop (rec .ready)) := by
    rw [← hW1]
    have := World.alloc_heap_new (w.alloc (.deferred (some []))) (.loop (rec .ready))
    rwa [World.size_alloc] at this
  have hD1 : W1.heap[w.heap.size]? = some (.deferred (some [])) := by
    rw [← hW1]; exact (Below.heap_alloc _ _ _ (by simp)).trans (World.alloc_heap_new w _)
  have hI1 : I 0 W1 := by
    rw [← hW1]
    exact hI _ _ _ none (hI _ _ _ none h0 (World.grownBy_alloc _ _ _) (fun r e => by cases e)) (World.grownBy_alloc _ _ _) (fun r e => by cases e)
  have hk1 : KeptBut w.heap.size g w W1 := by
    rw [← hW1]
    exact (KeptBut.alloc _ _ _ _ (Nat.le_refl _)).trans (KeptBut.alloc _ _ _ _ (by simp))
  refine ⟨w.heap.size + 1, [{ target := .collected w.heap.size, args := #[] }], W1, { target := .fn (.func gf) lb, args := #[.func (.yield (w.heap.size + 1)) #[] #[]] }, W1, gf,
    #[.func (.yield (w.heap.size + 1)) #[] #[]] ++ lb, W1, ?_, ?_, ?_, ?_, fun _ => h1, ?_⟩
  · rw [← hW1, hrec]
    exact run_enterLoop_outer _ _ _ _ _
  · simp only [resolve, hf]
    simp [go_sem]
  · intro f' hf'
    simp [Target.leads] at hf'
    subst hf'
    exact hFg
  · simp [invoke, go_sem, eg]
  refine (hseq (w.heap.size + 1) (fun k X => I k X ∧ X.heap[w.heap.size + 1]? = some (.loop (rec .ready)) ∧ X.heap[w.heap.size]? = some (.deferred (some []))) W1 hk1 ?_ ?_ ⟨hI1, hL1, hD1⟩).mono ?_
  · rintro k X Y row ⟨hi, hl, hd⟩ hgr hr
    rw [hz1] at hr
    refine ⟨hI k X Y row hi hgr fun r e => ?_, ?_, ?_⟩
    · have := hr r e
      omega
    · rw [hgr.block _ (Array.getElem?_eq_some_iff.1 hl).1 (fun e => by have := hr _ e.symm; omega)]
      exact hl
    · rw [hgr.block _ (Array.getElem?_eq_some_iff.1 hd).1 (fun e => by have := hr _ e.symm; omega)]
      exact hd
  · rintro k x X hx ⟨hi, hl, hd⟩ hlt
    rw [hz1] at hlt
    have hy := run_yield (P := P) (args := encs x) hl (by rw [(hst _).2.2]; exact hps x)
    rw [hrec] at hy
    refine ⟨fn, _, assign, body, hy, roundIn_of_wpIn hfn (hassign _ k x X _ hx hi hlt ?_)⟩
    intro a' Xa hka hax
    have hla := (hka.same (w.heap.size + 1) (by omega) (by omega)).trans hl
    have hda := (hka.same w.heap.size (by omega) (by omega)).trans hd
    have hza : w.heap.size + 2 < Xa.heap.size := Nat.lt_of_lt_of_le hlt hka.size
    refine ⟨_, run_beginRound hla (hst _).1, ?_⟩
    have hbr : ({ rec .ready with state := .busy } : Loop) = rec .busy := by rw [hrec]
    rw [hbr]
    have hl2 : (Xa.putObj (w.heap.size + 1) (.loop (rec .busy))).heap[w.heap.size + 1]? = some (.loop (rec .busy)) := World.putObj_heap_same (by omega)
    have hd2 : (Xa.putObj (w.heap.size + 1) (.loop (rec .busy))).heap[w.heap.size]? = some (.deferred (some [])) := (World.putObj_heap_other (by omega)).trans hda
    refine wpIn_mono (hbody _ k x a' _ hx (hAx k a' _ _ _ hax (grown_putObj _ _ _) (fun r e => by cases e; omega)) (by rw [World.putObj_size]; exact hza)) ?_
    rintro e a3 X3 hp
    cases e with
    | normal =>
      obtain ⟨hk3, hi3⟩ := hp
      have hl3 := (hk3.same (w.heap.size + 1) (by omega) (by omega)).trans hl2
      have hd3 := (hk3.same w.heap.size (by omega) (by omega)).trans hd2
      have hr := run_endRound (P := P) none hl3
      have her : ({ rec .busy with state := if (none : Option Code).isNone then .ready else .done, pending := none } : Loop) = rec .ready := by rw [hrec]; rfl
      rw [her] at hr
      have hz3 := hk3.size
      rw [World.putObj_size] at hz3
      refine ⟨_, _, hr, rfl, ⟨hI _ _ _ _ hi3 (grown_putObj _ _ _) (fun r e => by cases e; omega), World.putObj_heap_same (by omega), (World.putObj_heap_other (by omega)).trans hd3⟩, ?_, fun b hb hbg => ?_⟩
      · rw [World.putObj_size]
        have := hka.size
        omega
      · rw [hz1] at hb
        rw [World.putObj_heap_other (by omega), hk3.same b (by omega) hbg, World.putObj_heap_other (by omega), hka.same b (by omega) hbg]
    | _ => exact hp.elim
  · rintro e W2 ⟨⟨v, rfl⟩, hi, hl, hd⟩
    have hr := run_endLoop (P := P) hl (by rw [(hst _).1]; simp)
    rw [(hst _).2.1] at hr
    exact ⟨none, _, hr, hdone _ (hI _ _ _ _ hi (grown_putObj _ _ _) (fun r e => by cases e; omega)) ((World.putObj_heap_other (by omega)).trans hd)⟩
end Go.Proofs.YtekkhnjepcebkaaGreatDoor
