/- What the proof of the claim's theorem uses, part 1. The conditions stand in each statement. -/
import Derived.WalkKit
import Derived.WalkSpells
import Derived.WalkLawsBesides
import Derived.WalkSmall
import Derived.Lib.Hide
import Derived.Laws.OwnMore
import Derived.Laws.CopyOwn
import Derived.Deep.Draws
import Derived.Laws.AppendOwnNone
import Derived.Test.YtlpoiggdjggkiaaGreatDoorProg
import Derived.Outline
import Derived.BigQuiet
import Derived.Deep.QuietTactic
import Derived.Lib.OthersKept
import Derived.Laws.EntriesVeiled
import Derived.Shelf.Strings.Builder1
import Derived.Shelf.LaysM
import Derived.Shelf.Strconv.Itoa3
import Derived.Orders
import Derived.RegionTactic
import Derived.BigRegion
import Derived.Deep.DeepCutAuto
import Derived.Maps.OwnRows
import Derived.Maps.GroupsBeside
import Derived.Deep.RegionHeld3
import Derived.Lib.SliceRun
import Derived.RangeFuncNested
import Derived.RangeFuncBound
import Derived.RangeFuncCalls
import Derived.RangeFuncLeaves
import Derived.Shelf.Abstract
import Derived.Shelf.RegionOpen
import Derived.OwnWalkIn
import Derived.TacticsInMore
import Derived.LoopNIn
import Derived.LoopIn
import Derived.Sort.QuietIn
import Derived.Deep.Quiet
import Derived.Maps.AppendAt
import Derived.Test.YtlpoiggdjggkiaaGreatDoorCards
import Derived.Test.YtlpoiggdjggkiaaGreatDoorTie
import Derived.ProofKit
import Derived.Deep.DeepHandedRow
import Derived.Lib.LaidTab
import Derived.Stop.LaidErr
import Derived.ChangeSame
import Derived.RowKit3
import Derived.ReadAgain
import Derived.OpenShut
import Derived.ChangeSlices
import Derived.WalkMore
import Derived.Maps.Own
import Derived.Maps.OwnOps
import Derived.Maps.OwnSet
import Derived.Shelf.Spec.SlicesInsert
import Derived.Shelf.Spec.SlicesInsertGrow
import Derived.Shelf.Bits.Mul64
import Derived.Deep.RegionLaw
import Derived.ChangeKeysEq
import Derived.Lib.Atoi
import Derived.Lib.Fields
import Derived.Shelf.Strings.SplitShaped
import Derived.Shelf.Strconv.Atoi
import Derived.Lay
import Derived.MakeChecks
import Derived.Deep.DeepWitnessRowRef
set_option linter.unusedVariables false
set_option linter.unusedSimpArgs false
section
namespace Go.Proofs.YtlpoiggdjggkiaaGreatDoor
open Go.RowKit
abbrev iv (n : Int) : Value := .int .i64 n
/-- How a Go type's values lie in cells. -/
structure Enc (α : Type) where
  cells : α → List Value
  sz : Nat
  len : ∀ x, (cells x).length = sz
  one : ∀ x, ∀ u ∈ cells x, u.oneCell' = true
  pos : 0 < sz
def intE : Enc Int := ⟨fun n => [iv n], 1, fun _ => rfl, fun _ u h => by simp at h; subst h; rfl, by decide⟩
def boolE : Enc Bool := ⟨fun n => [.bool n], 1, fun _ => rfl, fun _ u h => by simp at h; subst h; rfl, by decide⟩
/-- The address A holds the list xs. -/
def Sl {α : Type} (E : Enc α) (w : World) (A : Option Addr) (xs : List α) : Prop :=
  xs ≠ [] → ∃ b off, A = some ⟨b, off, none⟩ ∧ b < w.heap.size ∧ ∀ i x, xs[i]? = some x → ∀ j u, (E.cells x)[j]? = some u → w.cell? ⟨b, off + i * E.sz + j, none⟩ = some u
section
variable {α : Type} {E : Enc α} {w w' : World} {A : Option Addr} {xs : List α}
theorem Sl.nil : Sl E w A [] := fun h => absurd rfl h
theorem Sl.keep (h : Sl E w A xs) (hz : w.heap.size ≤ w'.heap.size) (hk : ∀ b o, b < w.heap.size → w'.cell? ⟨b, o, none⟩ = w.cell? ⟨b, o, none⟩) : Sl E w' A xs := fun hx => by
  obtain ⟨b, off, hA, hb, hc⟩ := h hx
  exact ⟨b, off, hA, by omega, fun i x hi j u hu => (hk _ _ hb).trans (hc i x hi j u hu)⟩
theorem Sl.below (h : Sl E w A xs) (hb : Below w.heap.size w w') : Sl E w' A xs := h.keep hb.size fun b o hlt => hb.cell (p := ⟨b, o, none⟩) hlt
theorem Sl.alloc (h : Sl E w A xs) (o : Obj) : Sl E (w.alloc o) A xs := h.below ((Below.refl _ _).alloc (Nat.le_refl _) _)
theorem Sl.get {k : Nat} (h : Sl E w A xs) (hk : k < xs.length) : ∃ b off, A = some ⟨b, off, none⟩ ∧ b < w.heap.size ∧ ∀ j u, (E.cells xs[k])[j]? = some u → w.cell? ⟨b, off + k * E.sz + j, none⟩ = some u := by
  obtain ⟨b, off, hA, hb, hc⟩ := h (by intro e; subst e; simp at hk)
  exact ⟨b, off, hA, hb, hc k _ (List.getElem?_eq_getElem hk)⟩
end
theorem Sl.at_ {α : Type} {E : Enc α} {w : World} {A : Option Addr} {xs : List α} {k : Nat} (h : Sl E w A xs) (hk : k < xs.length) : ∃ b off x, A = some ⟨b, off, none⟩ ∧ b < w.heap.size ∧ xs[k]? = some x ∧ ∀ j u, (E.cells x)[j]? = some u → w.cell? ⟨b, off + k * E.sz + j, none⟩ = some u := by
  obtain ⟨b, off, hA, hb, hc⟩ := h.get hk
  exact ⟨b, off, xs[k], hA, hb, List.getElem?_eq_getElem hk, hc⟩
theorem Sl.atI {w : World} {A : Option Addr} {xs : List Int} {k : Nat} (h : Sl intE w A xs) (hk : k < xs.length) :
    ∃ b off x, A = some ⟨b, off, none⟩ ∧ b < w.heap.size ∧ xs[k]? = some x ∧ w.cell? ⟨b, off + k, none⟩ = some (iv x) := by
  obtain ⟨b, off, x, hA, hb, hx, hc⟩ := h.at_ hk
  exact ⟨b, off, x, hA, hb, hx, by simpa [intE] using hc 0 (iv x) rfl⟩
theorem Sl.atB {w : World} {A : Option Addr} {xs : List Bool} {k : Nat} (h : Sl boolE w A xs) (hk : k < xs.length) :
    ∃ b off x, A = some ⟨b, off, none⟩ ∧ b < w.heap.size ∧ xs[k]? = some x ∧ w.cell? ⟨b, off + k, none⟩ = some (.bool x) := by
  obtain ⟨b, off, x, hA, hb, hx, hc⟩ := h.at_ hk
  exact ⟨b, off, x, hA, hb, hx, by simpa [boolE] using hc 0 (.bool x) rfl⟩
theorem drop_at {α : Type} {xs : List α} {k : Nat} {x : α} (h : xs[k]? = some x) : xs.drop k = x :: xs.drop (k + 1) := by
  obtain ⟨hk, rfl⟩ := List.getElem?_eq_some_iff.1 h
  exact List.drop_eq_getElem_cons hk
theorem take_at {α : Type} {xs : List α} {k : Nat} {x : α} (h : xs[k]? = some x) : xs.take (k + 1) = xs.take k ++ [x] := by
  obtain ⟨hk, rfl⟩ := List.getElem?_eq_some_iff.1 h
  exact List.take_succ_eq_append_getElem hk
theorem mem_at {α : Type} {xs : List α} {k : Nat} {x : α} (h : xs[k]? = some x) : x ∈ xs := by
  obtain ⟨hk, rfl⟩ := List.getElem?_eq_some_iff.1 h
  exact List.getElem_mem hk
/-- The slice value v is the call's own, in a block from B on, and holds the list xs. -/
def Own {α : Type} (E : Enc α) (e : TypeId) (B : Nat) (w : World) (v : Value) (xs : List α) : Prop := w.ownsRow B e E.sz v xs.length (xs.flatMap E.cells)
theorem flat_length {α : Type} (E : Enc α) (xs : List α) : (xs.flatMap E.cells).length = xs.length * E.sz := by
  induction xs with
  | nil => simp
  | cons x xs ih => simp [E.len, ih, Nat.add_mul]; omega
theorem flat_get {α : Type} (E : Enc α) : ∀ (xs : List α) (i : Nat) (x : α), xs[i]? = some x → ∀ j u, (E.cells x)[j]? = some u → (xs.flatMap E.cells)[i * E.sz + j]? = some u := by
  intro xs
  induction xs with
  | nil => intro i x h; simp at h
  | cons y ys ih =>
    intro i x h j u hu
    have hl := E.len y
    cases i with
    | zero =>
      simp at h
      subst h
      have hj : j < (E.cells y).length := (List.getElem?_eq_some_iff.1 hu).1
      simp only [List.flatMap_cons, Nat.zero_mul, Nat.zero_add]
      rw [List.getElem?_append_left hj]
      exact hu
    | succ i =>
      simp only [List.getElem?_cons_succ] at h
      have := ih i x h j u hu
      simp only [List.flatMap_cons]
      rw [List.getElem?_append_right (by rw [hl, Nat.add_mul]; omega), ← this]
      congr 1
      rw [hl, Nat.add_mul]
      omega
section
variable {α : Type} {E : Enc α} {e : TypeId} {B : Nat} {w w' : World} {v : Value} {xs : List α}
theorem Own.nil : Own E e B w (.slice none 0 0) ([] : List α) := World.ownsRow_nil _ _ _ _
theorem Own.form (h : Own E e B w v xs) : ∃ A c, v = .slice A xs.length c ∧ xs.length ≤ c ∧ c ≤ maxLen := by
  rcases h.2 with ⟨rfl, hn⟩ | ⟨g, cap, cur, rfl, _, _, hc, hm, _⟩
  · exact ⟨none, 0, by rw [hn], by omega, by simp [maxLen]⟩
  · exact ⟨_, _, rfl, hc, hm⟩
theorem Own.sl {A : Option Addr} {n c : Nat} (h : Own E e B w (.slice A n c) xs) : Sl E w A xs := fun hx => by
  rcases h.2 with ⟨hv, hn⟩ | ⟨g, cap, cur, hv, _, hg, _⟩
  · exact absurd (List.eq_nil_of_length_eq_zero hn) hx
  · have hA : A = some ⟨g, 0, none⟩ := by injection hv
    subst hA
    refine ⟨g, 0, rfl, (Array.getElem?_eq_some_iff.1 hg).1, fun i x hi j u hu => ?_⟩
    have := h.cells (g := g) rfl _ _ (flat_get E xs i x hi j u hu)
    have hadd : ∀ k, (⟨g, 0, none⟩ : Addr).add k = ⟨g, k, none⟩ := fun k => by unfold Addr.add; split <;> simp_all
    rw [hadd] at this
    rw [show 0 + i * E.sz + j = i * E.sz + j from by omega]
    exact this
theorem Own.keep (h : Own E e B w v xs) (hz : w.heap.size ≤ w'.heap.size) (hk : ∀ b, v.ownBlock = some b → w'.heap[b]? = w.heap[b]?) : Own E e B w' v xs := by
  refine ⟨h.1, ?_⟩
  rcases h.2 with hn | ⟨g, cap, cur, rfl, hb, hg, r⟩
  · exact .inl hn
  · exact .inr ⟨g, cap, cur, rfl, hb, (hk g rfl).trans hg, r⟩
theorem Own.lt (h : Own E e B w v xs) : ∀ k, v.ownBlock = some k → B ≤ k ∧ k < w.heap.size := World.ownsRow.lt h
theorem Own.below (h : Own E e B w v xs) (hb : Below w.heap.size w w') : Own E e B w' v xs := h.keep hb.size fun b hv => hb.block b (h.lt b hv).2
theorem Own.alloc (h : Own E e B w v xs) (o : Obj) : Own E e B (w.alloc o) v xs := h.below ((Below.refl _ _).alloc (Nat.le_refl _) _)
theorem Own.base {B' : Nat} (h : Own E e B w v xs) (hB : B' ≤ B) : Own E e B' w v xs := by
  refine ⟨h.1, ?_⟩
  rcases h.2 with hn | ⟨g, cap, cur, rfl, hb, r⟩
  · exact .inl hn
  · exact .inr ⟨g, cap, cur, rfl, by omega, r⟩
end
/-- What the tables say of a slice type and its element type. -/
structure SlTy (P : Program) (t e : TypeId) (sz : Nat) : Prop where
  ht : P.underlying t = some (.slice e)
  info : ∃ i z, P.info? e = some i ∧ i.zero = some z ∧ i.size = sz ∧ i.bytes ≤ 1024 ∧ z.cells.size = sz
theorem slTy_of {P : Program} {t e : TypeId} {sz bytes : Nat} {z : Value} (ht : P.underlying t = some (.slice e)) (h : (P.info? e).map (fun i => (i.zero, i.size, i.bytes)) = some (some z, sz, bytes))
    (hz : z.cells.size = sz) (hb : bytes ≤ 1024) : SlTy P t e sz := by
  obtain ⟨i, hi, h1, h2, h3⟩ := info_parts h
  exact ⟨ht, i, z, hi, h1, h2, by omega, hz⟩
/-- The bound on lengths within which no append can fail. -/
def big : Nat := 137438953472
theorem wpApp1 {α : Type} (E : Enc α) {P : Program} {t e : TypeId} (hT : SlTy P t e E.sz) {ops : Array Oper} {rest : List Oper} {o : Oper} {a : Act} {Q : Exit → Act → World → Prop} {w : World} {arr : Array Value}
    (hgd : o.guard = none) (s x : Operand) (ho : o.op = .call { callee := .builtin .append, args := #[s, x], argTypes := #[t, t] })
    {B : Nat} {v : Value} {xs : List α} (hown : Own E e B w v xs) (y : α) (harr : arr.toList = E.cells y) (hs : a.eval s = v) (hx : a.eval x = .slice (some ⟨w.heap.size, 0, none⟩) 1 1)
    (hB : B ≤ w.heap.size) (hn : xs.length + 1 ≤ big)
    (h : ∀ v' w', Own E e B w' v' (xs ++ [y]) → Below B w w' → (∀ b, b < w.heap.size → v.ownBlock ≠ some b → w'.heap[b]? = w.heap[b]?) → wpList P ops Q rest (a.put o.dst v') w') :
    wpList P ops Q (o :: rest) a (w.alloc (.cells arr e)) := by
  obtain ⟨i, z, hi, hz, hsz, hby, hzc⟩ := hT.info
  unfold big at hn
  have hsize : arr.size = E.sz := by rw [← Array.length_toList, harr, E.len]
  refine wpList_append_own (w.alloc (.cells arr e)) hgd s x t ho B e i z E.sz i.bytes hT.ht hi hz hsz rfl hzc E.pos v xs.length (xs.flatMap E.cells) hs (World.ownsRow.alloc hown _)
    ⟨w.heap.size, 0, none⟩ 1 1 (E.cells y) hx (by rw [E.len]; omega) ?_ (E.one y) (by unfold maxLen; omega) (by have := Nat.mul_le_mul hn hby; omega) (by simp; omega) ?_
  · intro j u hu
    have hadd : (⟨w.heap.size, 0, none⟩ : Addr).add j = ⟨w.heap.size, j, none⟩ := by unfold Addr.add; split <;> simp_all
    rw [hadd, cell_of_row _ w.heap.size j arr e (0, 0) (heap_alloc_new w _), ← hu, ← harr, Array.getElem?_toList]
  · intro v' w' hown' hg _
    have hlt := Own.lt hown
    refine h v' w' (by unfold Own; simpa using hown') ?_ (fun b hb hv => ?_)
    · refine (((Below.refl B w).alloc hB _).grown hg (by simp; omega) fun k hk => ?_)
      exact (hlt k hk).1
    · rw [hg.block b (by simp; omega) (fun e => hv e.symm)]
      exact Below.heap_alloc w _ b hb
end Go.Proofs.YtlpoiggdjggkiaaGreatDoor
namespace Go.RowKit
theorem Below.of_alloc {w w1 : World} {o : Obj} (h : Below (w.alloc o).heap.size (w.alloc o) w1) : Below w.heap.size w w1 :=
  ((Below.refl _ _).alloc (Nat.le_refl _) o).trans (h.mono (by simp))
theorem Below.next {B : Nat} {w0 w w1 : World} (h : Below B w0 w) (h1 : Below w.heap.size w w1) (hB : B ≤ w0.heap.size) : Below B w0 w1 :=
  h.trans (h1.mono (by have := h.size; omega))
end Go.RowKit
namespace Go.Proofs.YtlpoiggdjggkiaaGreatDoor
open Go.RowKit
theorem drop_end {α : Type} {xs : List α} {k : Nat} (h : ¬ k < xs.length) : xs.drop k = [] := List.drop_eq_nil_of_le (by omega)
theorem ret_eq {v v' : Value} (h : v = v') : Ending.returned v = .returned v' := by rw [h]
end Go.Proofs.YtlpoiggdjggkiaaGreatDoor
end
section
namespace Go.Proofs.YtlpoiggdjggkiaaGreatDoor
open Go.RowKit
/-- The function value answers p at each x of xs, whatever has come to lie in memory since. -/
def IsPred {α : Type} (P : Program) (w : World) (K : Nat) (cap : Array Value) (v : α → Value) (xs : List α) (p : α → Bool) : Prop :=
  (∀ args w, (callFunc K args).run P w = .ok (.enter K args) w) ∧
  ∀ x ∈ xs, ∀ w', Below w.heap.size w w' → Calls P K (#[v x] ++ cap) w' (fun e w'' => e = .returned (.bool (p x)) ∧ Below w'.heap.size w' w'')
theorem IsPred.below {α : Type} {P : Program} {w w1 : World} {K : Nat} {cap : Array Value} {v : α → Value} {xs : List α} {p : α → Bool} (h : IsPred P w K cap v xs p) (hb : Below w.heap.size w w1) : IsPred P w1 K cap v xs p :=
  ⟨h.1, fun x hx w' hw' => h.2 x hx w' (hb.next hw' (Nat.le_refl _))⟩
theorem callFunc_run {P : Program} {K : Nat} (h : ((P.funcs[K]?).map fun f => (f.name == "runtime.NumGoroutine", f.body.isNone)) = some (false, false)) : ∀ (args : Array Value) (w : World), (callFunc K args).run P w = .ok (.enter K args) w := by
  intro args w
  cases hf : P.funcs[K]? with
  | none => rw [hf] at h; cases h
  | some fn =>
    rw [hf] at h
    simp only [Option.map_some, Option.some.injEq, Prod.mk.injEq] at h
    have h1 : ¬ fn.name = "runtime.NumGoroutine" := by simpa using h.1
    have h2 : ¬ fn.body = none := fun e => by rw [e] at h; cases h.2
    simp [callFunc, go_sem, hf, h1, h2]
def findFrom {α : Type} (p : α → Bool) (l : List α) (k : Int) : Int := match l with
  | [] => -1
  | x :: l => if p x then k else findFrom p l (k + 1)
theorem findFrom_nonneg {α : Type} (p : α → Bool) : ∀ (l : List α) (k : Int), 0 ≤ k → (decide (0 ≤ findFrom p l k) = l.any p) := by
  intro l
  induction l with
  | nil => intro k _; simp [findFrom]
  | cons x l ih =>
    intro k hk
    simp only [findFrom, List.any_cons]
    by_cases h : p x = true
    · simpa [h] using hk
    · simpa [h] using ih (k + 1) (by omega)
end Go.Proofs.YtlpoiggdjggkiaaGreatDoor
end
section
namespace Go.Proofs.YtlpoiggdjggkiaaGreatDoor
open Go.RowKit
/-- Block g is just the cells cs of type t, none of them frozen. -/
def Blk (w : World) (g : Nat) (t : TypeId) (cs : Array Value) : Prop := w.heap[g]? = some (.cells cs t (0, 0))
section
variable {w w' : World} {g : Nat} {t : TypeId} {cs : Array Value}
theorem Blk.lt (h : Blk w g t cs) : g < w.heap.size := lt_of_block h
theorem Blk.cell (h : Blk w g t cs) : ∀ o, w.cell? ⟨g, o, none⟩ = cs[o]? := fun o => cell_of_row w g o cs t (0, 0) h
theorem Blk.frozen (h : Blk w g t cs) : ∀ o, w.frozen? ⟨g, o, none⟩ = false := fun o => by
  unfold Blk at h
  simp [World.frozen?, h]
theorem Blk.new (w : World) (t : TypeId) (cs : Array Value) : Blk (w.alloc (.cells cs t)) w.heap.size t cs := heap_alloc_new w _
theorem Blk.new_ (w : World) (t : TypeId) (cs : Array Value) (h : g = w.heap.size) : Blk (w.alloc (.cells cs t)) g t cs := h ▸ heap_alloc_new w _
theorem Blk.alloc (h : Blk w g t cs) (o : Obj) : Blk (w.alloc o) g t cs := (Below.heap_alloc w o g h.lt).trans h
theorem Blk.set_ (h : Blk w g t cs) (i : Nat) (u : Value) : Blk (w.setCell ⟨g, i, none⟩ u) g t (cs.setIfInBounds i u) := by
  unfold Blk at h ⊢
  simp [World.setCell, Array.getElem?_modify, h]
theorem Blk.far (h : Blk w g t cs) {p : Addr} (hp : g ≠ p.block) (u : Value) : Blk (w.setCell p u) g t cs := (Below.heap_setCell w p u g hp).trans h
theorem Blk.below {B : Nat} (h : Blk w g t cs) (hb : Below B w w') (hg : g < B) : Blk w' g t cs := (hb.block g hg).trans h
theorem Blk.under (h : Blk w g t cs) (hb : Below w.heap.size w w') : Blk w' g t cs := h.below hb h.lt
/-- What the walk wants of a block. -/
theorem Blk.facts (h : Blk w g t cs) : (∀ o, w.cell? ⟨g, o, none⟩ = cs[o]?) ∧ (∀ o, w.frozen? ⟨g, o, none⟩ = false) ∧ g < w.heap.size ∧ g ≤ w.heap.size ∧ (∀ n, g < w.heap.size + n) ∧ ¬ g = w.heap.size :=
  ⟨h.cell, h.frozen, h.lt, Nat.le_of_lt h.lt, fun n => by have := h.lt; omega, by have := h.lt; omega⟩
end
theorem Own.setCell {α : Type} {E : Enc α} {e : TypeId} {B : Nat} {w : World} {v : Value} {xs : List α} (h : Own E e B w v xs) {p : Addr} (hp : p.block < B) (u : Value) : Own E e B (w.setCell p u) v xs :=
  h.keep (by simp [World.setCell]) fun b hb => Below.heap_setCell w p u b (by have := (h.lt b hb).1; omega)
theorem Sl.setCell {α : Type} {E : Enc α} {w : World} {A : Option Addr} {xs : List α} {B : Nat} (h : Sl E w A xs) (hlt : ∀ b off, A = some ⟨b, off, none⟩ → b < B) {p : Addr} (hp : B ≤ p.block) (u : Value) : Sl E (w.setCell p u) A xs := fun hx => by
  obtain ⟨b, off, hA, hb, hc⟩ := h hx
  have := hlt b off hA
  refine ⟨b, off, hA, by simpa [World.setCell] using hb, fun i x hi j u' hu => ?_⟩
  rw [World.cell?_of_block (w := w) (Below.heap_setCell w p u b (by omega))]
  exact hc i x hi j u' hu
theorem flat_inv {α : Type} (E : Enc α) : ∀ (xs : List α) (j : Nat) (u : Value), (xs.flatMap E.cells)[j]? = some u → ∃ i x k, j = i * E.sz + k ∧ xs[i]? = some x ∧ (E.cells x)[k]? = some u := by
  intro xs
  induction xs with
  | nil => intro j u h; simp at h
  | cons x xs ih =>
    intro j u h
    have hl := E.len x
    simp only [List.flatMap_cons] at h
    by_cases hj : j < E.sz
    · rw [List.getElem?_append_left (by omega)] at h
      exact ⟨0, x, j, by omega, rfl, h⟩
    · rw [List.getElem?_append_right (by omega), hl] at h
      obtain ⟨i, y, k, hk, hy, hu⟩ := ih _ _ h
      exact ⟨i + 1, y, k, by rw [Nat.add_mul]; omega, hy, hu⟩
theorem wpAppS {α : Type} (E : Enc α) {P : Program} {t e : TypeId} (hT : SlTy P t e E.sz) {ops : Array Oper} {rest : List Oper} {o : Oper} {a : Act} {Q : Exit → Act → World → Prop} {w : World}
    (hgd : o.guard = none) (s x : Operand) (ho : o.op = .call { callee := .builtin .append, args := #[s, x], argTypes := #[t, t] })
    {B : Nat} {v : Value} {xs : List α} (hown : Own E e B w v xs) {A : Option Addr} {c : Nat} {ys : List α} (hy : Sl E w A ys) (hs : a.eval s = v) (hx : a.eval x = .slice A ys.length c)
    (hB : B ≤ w.heap.size) (hn : xs.length + ys.length ≤ big)
    (h : ∀ v' w', Own E e B w' v' (xs ++ ys) → Below B w w' → (∀ b, b < w.heap.size → v.ownBlock ≠ some b → w'.heap[b]? = w.heap[b]?) → wpList P ops Q rest (a.put o.dst v') w') :
    wpList P ops Q (o :: rest) a w := by
  obtain ⟨i, z, hi, hz, hsz, hby, hzc⟩ := hT.info
  unfold big at hn
  have hlt := Own.lt hown
  cases A with
  | none =>
    have hys : ys = [] := by
      by_cases h0 : ys = []
      · exact h0
      · obtain ⟨b, off, hA, _⟩ := hy h0
        cases hA
    subst hys
    refine wpList_plain hgd fun K hK => ?_
    have hrun : (Builtin.append_ #[t, t] o.type #[v, .slice none 0 c]).run P w = .ok v w := by
      rcases hown.2 with ⟨rfl, hn'⟩ | ⟨g, cap, cur, rfl, _, _, hnc, _⟩
      · simp [Builtin.append_, run_underlying hT.ht, sizeOf, typeInfo, hi, Builtin.lenOf, Builtin.firstCells]
      · simp [Builtin.append_, run_underlying hT.ht, sizeOf, typeInfo, hi, Builtin.lenOf, Builtin.firstCells, hnc, storeCells]
    simp only [List.length_nil] at hx
    unfold Oper.wp
    simp [execOp, ho, resolve, invoke, builtin, hs, hx, hrun, Result.andThen]
    exact hK _ _ (h v w (by simpa using hown) (Below.refl _ _) fun _ _ _ => rfl)
  | some ad =>
    refine wpList_append_own w hgd s x t ho B e i z E.sz i.bytes hT.ht hi hz hsz rfl hzc E.pos v xs.length (xs.flatMap E.cells) hs hown
      ad ys.length c (ys.flatMap E.cells) hx (flat_length E ys) ?_ ?_ (by unfold maxLen; omega) (by have := Nat.mul_le_mul hn hby; omega) hB ?_
    · intro j u hu
      obtain ⟨k, y, k', rfl, hk, hu⟩ := flat_inv E ys j u hu
      obtain ⟨b, off, hA, _, hc⟩ := hy (by intro e; subst e; simp at hk)
      injection hA with hA
      subst hA
      have hadd : ∀ n, (⟨b, off, none⟩ : Addr).add n = ⟨b, off + n, none⟩ := fun n => by unfold Addr.add; split <;> simp_all
      rw [hadd, ← Nat.add_assoc]
      exact hc k y hk k' u hu
    · intro u hu
      obtain ⟨y, _, hu⟩ := List.mem_flatMap.1 hu
      exact E.one y u hu
    · intro v' w' hown' hg _
      refine h v' w' (by unfold Own; simpa using hown') ((Below.refl B w).grown hg hB fun k hk => (hlt k hk).1) fun b hb hv => ?_
      exact hg.block b hb (fun e => hv e.symm)
theorem Own.empty {α : Type} {E : Enc α} {e : TypeId} {B : Nat} {w : World} (hB : B ≤ w.heap.size) : Own E e B (w.alloc (.cells #[] e)) (.slice (some ⟨w.heap.size, 0, none⟩) 0 0) ([] : List α) :=
  World.ownsRow_made w #[] 0 hB (by simp [maxLen]) (by simp)
theorem madeCells_flat {α : Type} (E : Enc α) (z : α) (arr : Array Value) (h : arr.toList = E.cells z) (n : Nat) : (madeCells arr (n * E.sz)).toList = (List.replicate n z).flatMap E.cells := by
  have hsz : arr.size = E.sz := by rw [← Array.length_toList, h, E.len]
  apply List.ext_getElem?
  intro j
  by_cases hj : j < n * E.sz
  · have hpos := E.pos
    have hdm := Nat.div_add_mod j E.sz
    have hm : j % E.sz < E.sz := Nat.mod_lt _ hpos
    have hd : j / E.sz < n := by
      rw [Nat.div_lt_iff_lt_mul hpos]; exact hj
    have hcell : (E.cells z)[j % E.sz]? = some ((E.cells z)[j % E.sz]'(by rw [E.len]; exact hm)) := List.getElem?_eq_getElem _
    have h2 := flat_get E (List.replicate n z) (j / E.sz) z (by rw [List.getElem?_replicate, if_pos hd]) (j % E.sz) _ hcell
    rw [show j / E.sz * E.sz + j % E.sz = j by rw [Nat.mul_comm]; exact hdm] at h2
    rw [h2, ← hcell, ← h]
    simp only [madeCells, Array.toList_map, Array.toList_range, List.getElem?_map, List.getElem?_range hj, Option.map_some, hsz]
    have hlt : j % E.sz < arr.size := by omega
    rw [getElem!_pos arr _ hlt, Array.getElem?_toList, Array.getElem?_eq_getElem hlt]
  · rw [List.getElem?_eq_none (by simp [madeCells]; omega), List.getElem?_eq_none (by rw [flat_length]; simp; omega)]
/-- make([]T, n) -/
theorem wpMakeN {α : Type} (E : Enc α) {P : Program} {t e : TypeId} (hT : SlTy P t e E.sz) (z0 : α) (hz0 : ∃ i z, P.info? e = some i ∧ i.zero = some z ∧ z.cells.toList = E.cells z0) {ops : Array Oper} {rest : List Oper} {o : Oper} {a : Act} {Q : Exit → Act → World → Prop} {w : World}
    (hgd : o.guard = none) (l c : Operand) (ho : o.op = .makeSlice t l c) (n : Nat) (hl : a.eval l = iv n) (hc : a.eval c = iv n) (hn : n ≤ big)
    (h : ∀ w', Own E e w.heap.size w' (.slice (some ⟨w.heap.size, 0, none⟩) n n) (List.replicate n z0) → Below w.heap.size w w' → wpList P ops Q rest (a.put o.dst (.slice (some ⟨w.heap.size, 0, none⟩) n n)) w') :
    wpList P ops Q (o :: rest) a w := by
  obtain ⟨i, z, hi, hz, hsz, hby, hzc⟩ := hT.info
  obtain ⟨i', z', hi', hz', hc'⟩ := hz0
  rw [hi] at hi'; injection hi' with hi'; subst hi'
  rw [hz] at hz'; injection hz' with hz'; subst hz'
  unfold big at hn
  refine wpList_make_full w hgd l c t ho w.heap.size e i z E.sz hT.ht hi hz hsz .i64 .i64 n n n hl hc rfl rfl (by have := Nat.mul_le_mul hby hn; omega) (by unfold maxLen; omega) (Nat.le_refl _) ?_
  intro w' h1 h2
  refine h w' ?_ ((Below.refl _ w).grown h2 (Nat.le_refl _) (by simp))
  unfold Own
  rw [List.length_replicate, ← madeCells_flat E z0 z.cells hc']
  exact h1
theorem Own.full {α : Type} {E : Enc α} {e : TypeId} {B : Nat} {w : World} {g n : Nat} {xs : List α} (h : Own E e B w (.slice (some ⟨g, 0, none⟩) n n) xs) : Blk w g e (xs.flatMap E.cells).toArray ∧ B ≤ g := by
  obtain ⟨A, c, hv, _, _⟩ := h.form
  injection hv with _ hn _
  subst hn
  rcases h.2 with ⟨hv, _⟩ | ⟨g', cap, cur, hv, hb, hg, _, _, hsz, htake⟩
  · cases hv
  · injection hv with h1 _ h3
    injection h1 with h1
    injection h1 with h1
    subst h1 h3
    refine ⟨?_, hb⟩
    unfold Blk
    rw [hg, ← htake, List.take_of_length_le (by rw [Array.length_toList, hsz]; exact Nat.le_refl _)]
theorem Own.ofBlk {α : Type} {E : Enc α} {e : TypeId} {B : Nat} {w : World} {g : Nat} {xs : List α} (h : Blk w g e (xs.flatMap E.cells).toArray) (hB : B ≤ g) (hm : xs.length ≤ maxLen) : Own E e B w (.slice (some ⟨g, 0, none⟩) xs.length xs.length) xs :=
  ⟨flat_length E xs, .inr ⟨g, xs.length, _, rfl, hB, h, Nat.le_refl _, hm, by rw [List.size_toArray, flat_length], by rw [List.take_of_length_le (by rw [flat_length]; exact Nat.le_refl _)]⟩⟩
theorem flat_int (xs : List Int) : xs.flatMap intE.cells = xs.map iv := by
  induction xs with
  | nil => rfl
  | cons x xs ih => rw [List.flatMap_cons, ih]; rfl
end Go.Proofs.YtlpoiggdjggkiaaGreatDoor
end
section
namespace Go.Proofs.YtlpoiggdjggkiaaGreatDoor
namespace File
/-- The bytes that a line may have. -/
def okB (b : UInt8) : Bool := decide (32 ≤ b.toNat) && decide (b.toNat ≤ 126)
abbrev bts (s : ByteArray) : List UInt8 := s.data.toList
def okLine (s : ByteArray) : Bool := (bts s).all okB
def wide (s : ByteArray) : Bool := decide ((s.size : Int) ≤ 40)
def lined (l : List ByteArray) : Int := if l.all wide then (if l.all okLine then 0 else 11) else 10
def check (f : List ByteArray) : Int := if 24 < f.length then 2 else lined f
/-- What a line adds to the sum. -/
def lineSum (i : Nat) : List UInt8 → Int
  | [] => 0
  | b :: l => ((i : Int) + 1) * (b.toNat : Int) + lineSum i l
def sumFrom : Nat → List ByteArray → Int
  | _, [] => 0
  | i, s :: f => lineSum i (bts s) + sumFrom (i + 1) f
def sum (f : List ByteArray) : Int := sumFrom 0 f % 9973
end File
namespace Fl
open Go.RowKit
set_option maxRecDepth 100000
abbrev sv (s : ByteArray) : Value := .string s
def strE : Enc ByteArray := ⟨fun s => [.string s], 1, fun _ => rfl, fun _ u h => by simp at h; subst h; rfl, by decide⟩
theorem tyInts : SlTy Tryz.prog 29 3 1 := slTy_of (z := iv 0) (bytes := 8) Tryz.underlying29 (by kernel_rfl) rfl (by decide)
theorem tyStrs : SlTy Tryz.prog 43 9 1 := slTy_of (z := .string ⟨#[]⟩) (bytes := 16) Tryz.underlying43 (by kernel_rfl) rfl (by decide)
theorem Sl.atS {w : World} {A : Option Addr} {xs : List ByteArray} {k : Nat} (h : Sl strE w A xs) (hk : k < xs.length) :
    ∃ b off x, A = some ⟨b, off, none⟩ ∧ b < w.heap.size ∧ xs[k]? = some x ∧ w.cell? ⟨b, off + k, none⟩ = some (.string x) := by
  obtain ⟨b, off, x, hA, hb, hx, hc⟩ := h.at_ hk
  exact ⟨b, off, x, hA, hb, hx, by simpa [strE] using hc 0 (.string x) rfl⟩
set_option maxRecDepth 100000 in
theorem indexS (A : Option Addr) (l : List ByteArray) (c : Nat) (K : Nat) (cap : Array Value) (p : ByteArray → Bool) (w : World) (hm : l.length ≤ big) (hs : Sl strE w A l)
    (hf : IsPred Tryz.prog w K cap sv l p) :
    Calls Tryz.prog 112 #[.slice A l.length c, .func (.func K) #[] cap] w
    fun e w' => e = .returned (iv (findFrom p l 0)) ∧ Below w.heap.size w w' := by
  unfold big at hm
  obtain ⟨hK, hf⟩ := hf
  have HF := Lib.hid hf
  clear hf
  go_enter Tryz.func112, Tryz.ntmps112
  go_wp2
  go_loopw [5, 8] (fun u i wr => ∃ (k : Nat), k ≤ l.length ∧ i = iv k ∧ Hid (findFrom p (l.drop k) k = findFrom p l 0) ∧ Below w.heap.size w wr) (fun _ i _ => l.length - (intOf i).toNat)
  case atStart => exact ⟨0, by omega, rfl, rfl, Below.refl _ _⟩
  case round =>
    obtain ⟨k, hk, rfl, hr, hbw⟩ := hrel
    have hs1 := hs.below hbw
    by_cases hlt : k < l.length
    · obtain ⟨b, off, x, rfl, hb, hx, hc0⟩ := Sl.atS hs1 hlt
      have hd := hr.out
      rw [drop_at hx] at hd
      simp only [findFrom] at hd
      have HD := Lib.hid hd
      clear hd
      cases hp : p x
      · go_wp2_with fail
        refine (HF.out x (mem_at hx) wr hbw).mono ?_
        rintro e w1 ⟨rfl, hb1⟩
        rw [hp]
        go_wp2_with fail
        go_roundw
        case rel => exact ⟨k + 1, by omega, by go_num, by have := HD.out; rw [hp] at this; exact this, hbw.next hb1 (Nat.le_refl _)⟩
        case measure => simp [intOf]; omega
      · go_wp2_with fail
        refine (HF.out x (mem_at hx) wr hbw).mono ?_
        rintro e w1 ⟨rfl, hb1⟩
        rw [hp]
        go_wp2_with fail
        go_ret
        exact ⟨ret_eq (by have := HD.out; rw [hp] at this; rw [← this]; rfl), hbw.next hb1 (Nat.le_refl _)⟩
    · have hd := hr.out
      rw [drop_end hlt] at hd
      have HD := Lib.hid hd
      clear hd
      go_wp2
      go_ret
      exact ⟨ret_eq (by rw [← HD.out]; rfl), hbw⟩
theorem containsS (A : Option Addr) (l : List ByteArray) (c : Nat) (K : Nat) (cap : Array Value) (p : ByteArray → Bool) (w : World) (hm : l.length ≤ big) (hs : Sl strE w A l)
    (hf : IsPred Tryz.prog w K cap sv l p) :
    Calls Tryz.prog 98 #[.slice A l.length c, .func (.func K) #[] cap] w
    fun e w' => e = .returned (.bool (l.any p)) ∧ Below w.heap.size w w' := by
  have HF := Lib.hid hf
  clear hf
  go_enter Tryz.func98, Tryz.ntmps98
  go_wp2_with (go_at_call 112; refine (indexS A l c K cap p _ hm hs HF.out).mono ?_; rintro e w1 ⟨rfl, hb1⟩)
  go_ret
  exact ⟨ret_eq (by rw [← findFrom_nonneg p l 0 (by omega)]; rfl), hb1⟩
set_option maxRecDepth 100000 in
theorem notS (K : Nat) (cap : Array Value) (p : ByteArray → Bool) (w0 w : World) (x : ByteArray) (l : List ByteArray) (g : Nat) (hx : x ∈ l) (hg : g < w.heap.size) (hc : w.cell? ⟨g, 0, none⟩ = some (.func (.func K) #[] cap)) (hb : Below w0.heap.size w0 w) (hf : IsPred Tryz.prog w0 K cap sv l p) :
    Calls Tryz.prog 99 #[sv x, .pointer (some ⟨g, 0, none⟩)] w fun e w' => e = .returned (.bool (!p x)) ∧ Below w.heap.size w w' := by
  obtain ⟨hK, hf⟩ := hf
  have HF := Lib.hid (fun w' (h : Below w.heap.size w w') => hf x hx w' (hb.next h (Nat.le_refl _)))
  clear hf hx
  skip
  go_enter Tryz.func99, Tryz.ntmps99
  go_wp2_with fail
  refine (HF.out _ (Below.refl _ _)).mono ?_
  rintro e w1 ⟨rfl, hb1⟩
  go_wp2_with fail
  go_ret
  exact ⟨rfl, hb1⟩
set_option maxRecDepth 100000 in
theorem everyS (A : Option Addr) (l : List ByteArray) (c : Nat) (K : Nat) (cap : Array Value) (p : ByteArray → Bool) (w : World) (hm : l.length ≤ big) (hs : Sl strE w A l)
    (hf : IsPred Tryz.prog w K cap sv l p) :
    Calls Tryz.prog 77 #[.slice A l.length c, .func (.func K) #[] cap] w
    fun e w' => e = .returned (.bool (l.all p)) ∧ Below w.heap.size w w' := by
  have HF := Lib.hid hf
  clear hf
  have hsf := fun (a : Addr) (c : Array Value) (w : World) => run_store Tryz.prog w a (.func (.func K) #[] c) .plain rfl
  have hmf : ∀ (fn : Fn) (first cap : Array Value) (w : World), (Instr.makeFunc fn first cap).run Tryz.prog w = .ok (.func fn first cap) w := fun _ _ _ _ => rfl
  go_enter Tryz.func77, Tryz.ntmps77
  go_wp2_with (go_at_call 98; refine (containsS A l c 99 #[.pointer (some ⟨w.heap.size, 0, none⟩)] (fun x => !p x) _ hm (hs.alloc _) ⟨callFunc_run (by kernel_rfl), fun x hx w' hw' => notS K cap p w w' x l w.heap.size hx (by have := hw'.size; simp at this; omega) ((hw'.cell (by simp)).trans (by simp [go_sem])) hw'.of_alloc HF.out⟩).mono ?_; rintro e w1 ⟨rfl, hb1⟩)
  go_ret
  exact ⟨ret_eq (by rw [List.not_any_eq_all_not]; simp), hb1.of_alloc⟩
theorem lined1_spec (s : ByteArray) (w : World) : Calls Tryz.prog 78 #[.string s] w fun e w' => e = .returned (.bool (File.wide s)) ∧ w = w' := by
  go_enter Tryz.func78, Tryz.ntmps78
  go_wp2
  go_ret
  exact ⟨rfl, rfl⟩
theorem widePred (w : World) (l : List ByteArray) : IsPred Tryz.prog w 78 #[] sv l File.wide :=
  ⟨callFunc_run (by kernel_rfl), fun x _ w' _ => (lined1_spec x w').mono fun _ _ h => ⟨h.1, by rw [← h.2]; exact Below.refl _ _⟩⟩
theorem okB_iff (b : UInt8) : File.okB b = true ↔ 32 ≤ b.toNat ∧ b.toNat ≤ 126 := by simp [File.okB]
theorem bts_get {s : ByteArray} {k : Nat} (h : k < s.size) : (File.bts s)[k]? = some (s[k]'h) := by
  have : k < s.data.toList.length := by simpa using h
  rw [List.getElem?_eq_getElem this]
  simp
  rfl
theorem bts_drop {s : ByteArray} {k : Nat} (h : k < s.size) : (File.bts s).drop k = s[k]'h :: (File.bts s).drop (k + 1) := drop_at (bts_get h)
theorem bts_end {s : ByteArray} {k : Nat} (h : ¬ k < s.size) : (File.bts s).drop k = [] := List.drop_eq_nil_of_le (by simpa using Nat.le_of_not_lt h)
set_option maxHeartbeats 2000000 in
theorem lined_spec (A : Option Addr) (l : List ByteArray) (c : Nat) (w : World) (hm : l.length ≤ big) (hs : Sl strE w A l) :
    Calls Tryz.prog 55 #[.slice A l.length c] w fun e w' => e = .returned (iv (File.lined l)) ∧ Below w.heap.size w w' := by
  unfold big at hm
  have HE := Lib.hid (everyS A l c _ #[] _ w (by unfold big; omega) hs (widePred w l))
  cases hw : l.all File.wide
  · rw [hw] at HE
    go_enter Tryz.func55, Tryz.ntmps55
    go_wp2_with (go_at_call 77; refine HE.out.mono ?_; rintro e w1 ⟨rfl, hb1⟩)
    go_ret
    exact ⟨ret_eq (by simp [File.lined, hw]), hb1⟩
  · rw [hw] at HE
    have HL : Hid (File.lined l = if l.all File.okLine then 0 else 11) := Lib.hid (by unfold File.lined; rw [hw]; rfl)
    clear hw
    go_enter Tryz.func55, Tryz.ntmps55
    go_wp2_with (go_at_call 77; refine HE.out.mono ?_; rintro e w1 ⟨rfl, hb1⟩)
    clear HE
    go_loopw [12] (fun i wr => ∃ k : Nat, k ≤ l.length ∧ i = iv k ∧ Hid ((l.drop k).all File.okLine = l.all File.okLine) ∧ Below w.heap.size w wr) (fun i _ => l.length - (intOf i).toNat)
    case atStart => exact ⟨0, by omega, rfl, rfl, hb1⟩
    case round =>
      obtain ⟨k, hk, rfl, hr, hbr⟩ := hrel
      by_cases hlt : k < l.length
      · have hki : (k : Int) < (l.length : Int) := by omega
        obtain ⟨b, off, x, rfl, hb, hx, hc0⟩ := Sl.atS (hs.below hbr) hlt
        have hr' := hr.out
        rw [drop_at hx, List.all_cons] at hr'
        have HR := Lib.hid hr'
        clear hx hr hr'
        obtain ⟨wo, rfl⟩ : ∃ wo : World, wo = wr := ⟨_, rfl⟩
        go_wp2_with fail
        go_loopw [6] (fun _ wx => ∃ pos : Nat, pos ≤ x.size ∧ wx.heap[wo.heap.size]? = some (.stringIter x pos) ∧ Below wo.heap.size wo wx ∧ Hid (((File.bts x).drop pos).all File.okB = File.okLine x)) (fun _ wx => x.size - wx.iterPos wo.heap.size)
        case atStart => exact ⟨0, Nat.zero_le _, World.iter_heap _ _ _, (Below.refl _ _).alloc (Nat.le_refl _) _, rfl⟩
        case round =>
          obtain ⟨pos, hpl, hit, hbx, hq⟩ := hrel
          by_cases hp : pos < x.size
          · have hq' := hq.out
            rw [bts_drop hp, List.all_cons] at hq'
            have HQ := Lib.hid hq'
            clear hq hq'
            by_cases ha : (x[pos]'hp).toNat < 128
            · have hnx : ∀ ty, (Instr.next (.pointer (some ⟨wo.heap.size, 0, none⟩)) true ty).run Tryz.prog wr = _ := fun ty => Lib.run_next_ascii_at wr wo.heap.size x pos ty hit hp ha
              have hit2 := Lib.iterAt_heap wr wo.heap.size x pos (pos + 1) hit
              have hbx2 := Lib.below_iterAt hbx (k := wo.heap.size) (Nat.le_refl _) x (pos + 1)
              generalize hv : (x[pos]'hp).toNat = v at *
              generalize wr.iterAt wo.heap.size x (pos + 1) = w2 at *
              by_cases h32 : v < 32
              · have hno : File.okB (x[pos]'hp) = false := by simp [File.okB, hv]; omega
                have h32i : (v : Int) < 32 := by omega
                rw [hno] at HQ
                clear hv hno
                go_wp2_with fail
                go_ret
                have h1 := HQ.out
                have h2 := HR.out
                rw [← h1] at h2
                exact ⟨ret_eq (by rw [HL.out, ← h2]; rfl), hbr.next hbx2 (Nat.le_refl _)⟩
              · by_cases h126 : 126 < v
                · have hno : File.okB (x[pos]'hp) = false := by simp [File.okB, hv]; omega
                  have h32i : ¬ (v : Int) < 32 := by omega
                  have h126i : (126 : Int) < (v : Int) := by omega
                  rw [hno] at HQ
                  clear hv hno
                  go_wp2_with fail
                  go_ret
                  have h1 := HQ.out
                  have h2 := HR.out
                  rw [← h1] at h2
                  exact ⟨ret_eq (by rw [HL.out, ← h2]; rfl), hbr.next hbx2 (Nat.le_refl _)⟩
                · have hyes : File.okB (x[pos]'hp) = true := by simp [File.okB, hv]; omega
                  have h32i : ¬ (v : Int) < 32 := by omega
                  have h126i : ¬ (126 : Int) < (v : Int) := by omega
                  rw [hyes, Bool.true_and] at HQ
                  clear hv hyes
                  go_wp2_with fail
                  go_roundw
                  case rel => exact ⟨pos + 1, hp, hit2, hbx2, HQ⟩
                  case measure =>
                    simp only [World.iterPos, hit, hit2]
                    omega
            · have hnx : ∀ ty, (Instr.next (.pointer (some ⟨wo.heap.size, 0, none⟩)) true ty).run Tryz.prog wr = _ := fun ty => Lib.run_next_any_at wr wo.heap.size x pos ty hit hp
              have hdh := (decode_high x pos hp (by omega)).1
              have hdl := decode_le x pos
              have hbx2 := Lib.below_iterAt hbx (k := wo.heap.size) (Nat.le_refl _) x (pos + (Utf8.decode x pos).2)
              have hno : File.okB (x[pos]'hp) = false := by simp [File.okB]; omega
              rw [hno] at HQ
              generalize wr.iterAt wo.heap.size x (pos + (Utf8.decode x pos).2) = w2 at *
              generalize (Utf8.decode x pos).1 = v at *
              have h32i : ¬ (v : Int) < 32 := by omega
              have h126i : (126 : Int) < (v : Int) := by omega
              clear hno
              go_wp2_with fail
              go_ret
              have h1 := HQ.out
              have h2 := HR.out
              rw [← h1] at h2
              exact ⟨ret_eq (by rw [HL.out, ← h2]; rfl), hbr.next hbx2 (Nat.le_refl _)⟩
          · have hnx : ∀ ty, (Instr.next (.pointer (some ⟨wo.heap.size, 0, none⟩)) true ty).run Tryz.prog wr = _ := fun ty => Lib.run_next_end_at wr wo.heap.size x pos ty hit hp
            have hq' := hq.out
            rw [bts_end hp] at hq'
            have HQ : Hid (File.okLine x = true) := Lib.hid hq'.symm
            clear hq hq'
            go_wp2_with fail
            go_roundw
            case rel => exact ⟨k + 1, by omega, by go_num, Lib.hid (by have := HR.out; rw [HQ.out, Bool.true_and] at this; exact this), hbr.next hbx (Nat.le_refl _)⟩
            case measure => simp [intOf]; omega
      · have hki : ¬ (k : Int) < (l.length : Int) := by omega
        go_wp2_with fail
        go_ret
        have hr' := hr.out
        rw [drop_end hlt] at hr'
        exact ⟨ret_eq (by rw [HL.out, ← hr']; rfl), hbr⟩
theorem check_spec (A : Option Addr) (l : List ByteArray) (c : Nat) (w : World) (hm : l.length ≤ big) (hs : Sl strE w A l) :
    Calls Tryz.prog 25 #[.slice A l.length c] w fun e w' => e = .returned (iv (File.check l)) ∧ Below w.heap.size w w' := by
  have HL := Lib.hid (lined_spec A l c w hm hs)
  by_cases h : 24 < l.length
  · have hi : (24 : Int) < (l.length : Int) := by omega
    go_enter Tryz.func25, Tryz.ntmps25
    go_wp2_with fail
    go_ret
    exact ⟨ret_eq (by unfold File.check; rw [if_pos h]; rfl), Below.refl _ _⟩
  · have hi : ¬ (24 : Int) < (l.length : Int) := by omega
    go_enter Tryz.func25, Tryz.ntmps25
    go_wp2_with (go_at_call 55; refine HL.out.mono ?_; rintro e w1 ⟨rfl, hb1⟩)
    go_ret
    exact ⟨ret_eq (by unfold File.check; rw [if_neg h]; rfl), hb1⟩
/-- Lines that are right. -/
structure Good (l : List ByteArray) : Prop where
  many : l.length ≤ 24
  wide : ∀ s ∈ l, s.size ≤ 40
  ok : ∀ s ∈ l, File.okLine s = true
theorem good_of_check {l : List ByteArray} (h : File.check l = 0) : Good l := by
  unfold File.check File.lined at h
  split at h
  · cases h
  · split at h
    · split at h
      · rename_i h1 h2 h3
        refine ⟨by omega, fun s hs => ?_, fun s hs => List.all_eq_true.1 h3 s hs⟩
        have := List.all_eq_true.1 h2 s hs
        simp only [File.wide, decide_eq_true_eq] at this
        omega
      · cases h
    · cases h
theorem check_of_good {l : List ByteArray} (h : Good l) : File.check l = 0 := by
  unfold File.check File.lined
  have h1 : ¬ 24 < l.length := by have := h.many; omega
  rw [if_neg h1, if_pos (List.all_eq_true.2 fun s hs => by have := h.wide s hs; simp only [File.wide, decide_eq_true_eq]; omega), if_pos (List.all_eq_true.2 fun s hs => h.ok s hs)]
set_option maxHeartbeats 2000000 in
theorem sum_spec (A : Option Addr) (l : List ByteArray) (c : Nat) (w : World) (hg : Good l) (hs : Sl strE w A l) :
    Calls Tryz.prog 61 #[.slice A l.length c] w fun e w' => e = .returned (iv (File.sum l)) ∧ Below w.heap.size w w' := by
  have hm := hg.many
  have HG := Lib.hid hg
  clear hg
  go_enter Tryz.func61, Tryz.ntmps61
  go_wp2_with fail
  go_loopw [3, 4, 10] (fun n _ i wr => ∃ (k : Nat) (m : Int), k ≤ l.length ∧ i = iv k ∧ n = iv m ∧ Hid (m + File.sumFrom k (l.drop k) = File.sumFrom 0 l) ∧ 0 ≤ m ∧ m ≤ k * 120960 ∧ Below w.heap.size w wr) (fun _ _ i _ => l.length - (intOf i).toNat)
  case atStart => exact ⟨0, 0, by omega, rfl, rfl, Lib.hid (by simp), by omega, by omega, Below.refl _ _⟩
  case round =>
    obtain ⟨k, m, hk, rfl, rfl, hr, hm0, hm1, hbr⟩ := hrel
    by_cases hlt : k < l.length
    · have hki : (k : Int) < (l.length : Int) := by omega
      obtain ⟨b, off, x, rfl, hb, hx, hc0⟩ := Sl.atS (hs.below hbr) hlt
      have hxw := HG.out.wide x (mem_at hx)
      have HXO := Lib.hid (HG.out.ok x (mem_at hx))
      have hr' := hr.out
      rw [drop_at hx] at hr'
      simp only [File.sumFrom] at hr'
      have HR := Lib.hid hr'
      clear hx hr hr'
      obtain ⟨wo, rfl⟩ : ∃ wo : World, wo = wr := ⟨_, rfl⟩
      go_wp2_with fail
      go_loopw [3, 7] (fun n _ wx => ∃ (pos : Nat) (q : Int), pos ≤ x.size ∧ n = iv q ∧ wx.heap[wo.heap.size]? = some (.stringIter x pos) ∧ Below wo.heap.size wo wx ∧ Hid (q + File.lineSum k ((File.bts x).drop pos) = m + File.lineSum k (File.bts x)) ∧ 0 ≤ q ∧ q ≤ k * 120960 + pos * 3024) (fun _ _ wx => x.size - wx.iterPos wo.heap.size)
      case atStart => exact ⟨0, m, Nat.zero_le _, rfl, World.iter_heap _ _ _, (Below.refl _ _).alloc (Nat.le_refl _) _, rfl, hm0, by omega⟩
      case round =>
        obtain ⟨pos, q, hpl, rfl, hit, hbx, hq, hq0, hq1⟩ := hrel
        by_cases hp : pos < x.size
        · have hq' := hq.out
          rw [bts_drop hp] at hq'
          simp only [File.lineSum] at hq'
          have hokb : File.okB (x[pos]'hp) = true := List.all_eq_true.1 HXO.out _ (mem_at (bts_get hp))
          rw [okB_iff] at hokb
          have ha : (x[pos]'hp).toNat < 128 := by omega
          have hnx : ∀ ty, (Instr.next (.pointer (some ⟨wo.heap.size, 0, none⟩)) true ty).run Tryz.prog wr = _ := fun ty => Lib.run_next_ascii_at wr wo.heap.size x pos ty hit hp ha
          have hit2 := Lib.iterAt_heap wr wo.heap.size x pos (pos + 1) hit
          have hbx2 := Lib.below_iterAt hbx (k := wo.heap.size) (Nat.le_refl _) x (pos + 1)
          generalize hv : (x[pos]'hp).toNat = v at *
          generalize wr.iterAt wo.heap.size x (pos + 1) = w2 at *
          have HQ := Lib.hid hq'
          have hv0 : (0 : Int) ≤ (v : Int) := by omega
          have hv1 : (v : Int) ≤ 126 := by omega
          have hp0 : 0 ≤ ((k : Int) + 1) * (v : Int) := Int.mul_nonneg (by omega) hv0
          have hp1 : ((k : Int) + 1) * (v : Int) ≤ 24 * 126 := Int.mul_le_mul (by omega) hv1 hv0 (by omega)
          have e1 : IntKind.i64.wrap (((k : Int) + 1) * (v : Int)) = ((k : Int) + 1) * (v : Int) := IntWalk.i64_in _ (by omega)
          have e2 : IntKind.i64.wrap (q + ((k : Int) + 1) * (v : Int)) = q + ((k : Int) + 1) * (v : Int) := IntWalk.i64_in _ (by omega)
          clear hv hq hq' hokb
          go_wp2_with fail
          go_roundw
          case rel => exact ⟨pos + 1, q + ((k : Int) + 1) * (v : Int), hp, by go_num, hit2, hbx2, Lib.hid (by have := HQ.out; omega), by omega, by omega⟩
          case measure =>
            simp only [World.iterPos, hit, hit2]
            omega
        · have hnx : ∀ ty, (Instr.next (.pointer (some ⟨wo.heap.size, 0, none⟩)) true ty).run Tryz.prog wr = _ := fun ty => Lib.run_next_end_at wr wo.heap.size x pos ty hit hp
          have hq' := hq.out
          rw [bts_end hp] at hq'
          simp only [File.lineSum, Int.add_zero] at hq'
          have HQ := Lib.hid hq'
          clear hq hq'
          go_wp2_with fail
          go_roundw
          case rel => exact ⟨k + 1, q, by omega, by go_num, rfl, Lib.hid (by have := HR.out; have := HQ.out; omega), hq0, by omega, hbr.next hbx (Nat.le_refl _)⟩
          case measure => simp [intOf]; omega
    · have hki : ¬ (k : Int) < (l.length : Int) := by omega
      have hr' := hr.out
      rw [drop_end hlt] at hr'
      simp only [File.sumFrom, Int.add_zero] at hr'
      have HR := Lib.hid hr'
      clear hr hr'
      go_wp2_with fail
      go_ret
      exact ⟨ret_eq (by unfold File.sum; rw [← HR.out]; first | rfl | simp), hbr⟩
end Fl
end Go.Proofs.YtlpoiggdjggkiaaGreatDoor
end
section
namespace Go.Proofs.YtlpoiggdjggkiaaGreatDoor
namespace Fl
open Go.RowKit Go.Shelf
set_option maxRecDepth 100000
def lays166_ren : Go.Shelf.Ren := ⟨fun x => match x with | 166 => 30 | 240 => 60 | 276 => 82 | n => n, fun x => match x with | 0 => 0 | 3 => 3 | 4 => 4 | 5 => 5 | 9 => 9 | 20 => 20 | 37 => 22 | 70 => 84 | 72 => 86 | 75 => 88 | 80 => 91 | 164 => 158 | n => n, fun n => n⟩
theorem lays166 : Go.Proofs.Lays.n166 Tryz.prog lays166_ren := {
  mixed := by kernel_rfl
  f166 := by kernel_rfl
  f240 := by kernel_rfl
  f276 := by kernel_rfl
  t0 := by kernel_rfl
  a0 := fun _ => by kernel_rfl
  z0 := fun _ => by kernel_rfl
  v0 := fun _ => by kernel_rfl
  t3 := by kernel_rfl
  a3 := fun _ => by kernel_rfl
  z3 := fun _ => by kernel_rfl
  v3 := fun _ => by kernel_rfl
  t4 := by kernel_rfl
  a4 := fun _ => by kernel_rfl
  z4 := fun _ => by kernel_rfl
  v4 := fun _ => by kernel_rfl
  t9 := by kernel_rfl
  a9 := fun _ => by kernel_rfl
  z9 := fun _ => by kernel_rfl
  v9 := fun _ => by kernel_rfl
  t20 := by kernel_rfl
  a20 := fun _ => by kernel_rfl
  z20 := fun _ => by kernel_rfl
  v20 := fun _ => by kernel_rfl
  t37 := by kernel_rfl
  a37 := fun _ => by kernel_rfl
  z37 := fun _ => by kernel_rfl
  v37 := fun _ => by kernel_rfl
  t70 := by kernel_rfl
  a70 := fun _ => by kernel_rfl
  z70 := fun _ => by kernel_rfl
  v70 := fun _ => by kernel_rfl
  t72 := by kernel_rfl
  a72 := fun _ => by kernel_rfl
  z72 := fun _ => by kernel_rfl
  v72 := fun _ => by kernel_rfl
  t75 := by kernel_rfl
  a75 := fun _ => by kernel_rfl
  z75 := fun _ => by kernel_rfl
  v75 := fun _ => by kernel_rfl
  t164 := by kernel_rfl
  a164 := fun _ => by kernel_rfl
  z164 := fun _ => by kernel_rfl
  v164 := fun _ => by kernel_rfl }
def lays169_ren : Go.Shelf.Ren := ⟨fun x => match x with | 169 => 31 | n => n, fun x => match x with | 70 => 84 | 9 => 9 | 0 => 0 | 72 => 86 | 37 => 22 | 127 => 133 | 3 => 3 | 5 => 5 | n => n, fun n => n⟩
theorem lays169 : Go.Proofs.Lays.n169 Tryz.prog lays169_ren := {
  mixed := by kernel_rfl
  f169 := by kernel_rfl
  t0 := by kernel_rfl
  a0 := fun _ => by kernel_rfl
  z0 := fun _ => by kernel_rfl
  v0 := fun _ => by kernel_rfl
  t3 := by kernel_rfl
  a3 := fun _ => by kernel_rfl
  z3 := fun _ => by kernel_rfl
  v3 := fun _ => by kernel_rfl
  t9 := by kernel_rfl
  a9 := fun _ => by kernel_rfl
  z9 := fun _ => by kernel_rfl
  v9 := fun _ => by kernel_rfl
  t37 := by kernel_rfl
  a37 := fun _ => by kernel_rfl
  z37 := fun _ => by kernel_rfl
  v37 := fun _ => by kernel_rfl
  t70 := by kernel_rfl
  a70 := fun _ => by kernel_rfl
  z70 := fun _ => by kernel_rfl
  v70 := fun _ => by kernel_rfl
  t72 := by kernel_rfl
  a72 := fun _ => by kernel_rfl
  z72 := fun _ => by kernel_rfl
  v72 := fun _ => by kernel_rfl
  t127 := by kernel_rfl
  a127 := fun _ => by kernel_rfl
  z127 := fun _ => by kernel_rfl
  v127 := fun _ => by kernel_rfl }
def laysM171_ren : Go.Shelf.Ren := ⟨fun x => match x with | 171 => 24 | 243 => 54 | 246 => 76 | 283 => 94 | 284 => 95 | 285 => 96 | 286 => 97 | 129 => 108 | 317 => 107 | 318 => 109 | 319 => 110 | 320 => 111 | 337 => 115 | 338 => 116 | n => n, fun x => match x with | 3 => 3 | 9 => 9 | 2 => 2 | 4 => 4 | 171 => 179 | 0 => 0 | 53 => 58 | 37 => 22 | 5 => 5 | 173 => 182 | 212 => 206 | 51 => 163 | 20 => 20 | 213 => 207 | 46 => 116 | 232 => 217 | 233 => 218 | n => n, fun x => match x with | 17 => 4 | 18 => 5 | 19 => 6 | n => n⟩
theorem laysM171 : Go.Proofs.LaysM.n171 Tryz.prog laysM171_ren := {
  mixed := by kernel_rfl
  f129 := by kernel_rfl
  f171 := by kernel_rfl
  f243 := by kernel_rfl
  f246 := by kernel_rfl
  f283 := by kernel_rfl
  f284 := by kernel_rfl
  f285 := by kernel_rfl
  f286 := by kernel_rfl
  f317 := by kernel_rfl
  f318 := by kernel_rfl
  f319 := by kernel_rfl
  f320 := by kernel_rfl
  f337 := by kernel_rfl
  f338 := by kernel_rfl
  t0 := by kernel_rfl
  a0 := fun _ => by kernel_rfl
  z0 := fun _ => by kernel_rfl
  v0 := fun _ => by kernel_rfl
  t2 := by kernel_rfl
  a2 := fun _ => by kernel_rfl
  z2 := fun _ => by kernel_rfl
  v2 := fun _ => by kernel_rfl
  t3 := by kernel_rfl
  a3 := fun _ => by kernel_rfl
  z3 := fun _ => by kernel_rfl
  v3 := fun _ => by kernel_rfl
  t4 := by kernel_rfl
  a4 := fun _ => by kernel_rfl
  z4 := fun _ => by kernel_rfl
  v4 := fun _ => by kernel_rfl
  t5 := by kernel_rfl
  a5 := fun _ => by kernel_rfl
  z5 := fun _ => by kernel_rfl
  v5 := fun _ => by kernel_rfl
  t9 := by kernel_rfl
  a9 := fun _ => by kernel_rfl
  z9 := fun _ => by kernel_rfl
  v9 := fun _ => by kernel_rfl
  t20 := by kernel_rfl
  a20 := fun _ => by kernel_rfl
  z20 := fun _ => by kernel_rfl
  v20 := fun _ => by kernel_rfl
  t37 := by kernel_rfl
  a37 := fun _ => by kernel_rfl
  z37 := fun _ => by kernel_rfl
  v37 := fun _ => by kernel_rfl
  t46 := by kernel_rfl
  a46 := fun _ => by kernel_rfl
  z46 := fun _ => by kernel_rfl
  v46 := fun _ => by kernel_rfl
  t51 := by kernel_rfl
  a51 := fun _ => by kernel_rfl
  z51 := fun _ => by kernel_rfl
  v51 := fun _ => by kernel_rfl
  t53 := by kernel_rfl
  a53 := fun _ => by kernel_rfl
  z53 := fun _ => by kernel_rfl
  v53 := fun _ => by kernel_rfl
  t171 := by kernel_rfl
  a171 := fun _ => by kernel_rfl
  z171 := fun _ => by kernel_rfl
  v171 := fun _ => by kernel_rfl
  t173 := by kernel_rfl
  a173 := fun _ => by kernel_rfl
  z173 := fun _ => by kernel_rfl
  v173 := fun _ => by kernel_rfl
  t212 := by kernel_rfl
  a212 := fun _ => by kernel_rfl
  z212 := fun _ => by kernel_rfl
  v212 := fun _ => by kernel_rfl
  t213 := by kernel_rfl
  a213 := fun _ => by kernel_rfl
  z213 := fun _ => by kernel_rfl
  t232 := by kernel_rfl
  a232 := fun _ => by kernel_rfl
  z232 := fun _ => by kernel_rfl
  v232 := fun _ => by kernel_rfl
  t233 := by kernel_rfl
  a233 := fun _ => by kernel_rfl
  z233 := fun _ => by kernel_rfl
  v233 := fun _ => by kernel_rfl
  g17 := by kernel_rfl
  g18 := by kernel_rfl
  g19 := by kernel_rfl
  i0 := by kernel_rfl
  i2 := by kernel_rfl
  i3 := by kernel_rfl
  i4 := by kernel_rfl
  i5 := by kernel_rfl
  i9 := by kernel_rfl
  i20 := by kernel_rfl
  i37 := by kernel_rfl
  i46 := by kernel_rfl
  i51 := by kernel_rfl
  i53 := by kernel_rfl
  i171 := by kernel_rfl
  i173 := by kernel_rfl
  i212 := by kernel_rfl
  i232 := by kernel_rfl
  i233 := by kernel_rfl
  m17 := by kernel_rfl
  m18 := by kernel_rfl
  m19 := by kernel_rfl }
theorem extra166 : Builder.Extra Tryz.prog lays166_ren := {
  sizeBuilder := by kernel_rfl
  liesBuilder := by kernel_rfl
  t5 := by kernel_rfl
  a5 := fun _ => by kernel_rfl
  z5 := fun _ => by kernel_rfl
  v5 := fun _ => by kernel_rfl
  infoByte := by kernel_rfl
  cellsByte := by kernel_rfl
  sizeByte := by kernel_rfl
  neB5 := by decide }
theorem extra169 : Builder.Extra Tryz.prog lays169_ren := {
  sizeBuilder := by kernel_rfl
  liesBuilder := by kernel_rfl
  t5 := by kernel_rfl
  a5 := fun _ => by kernel_rfl
  z5 := fun _ => by kernel_rfl
  v5 := fun _ => by kernel_rfl
  infoByte := by kernel_rfl
  cellsByte := by kernel_rfl
  sizeByte := by kernel_rfl
  neB5 := by decide }
/-- The table of powers of ten lies as the program's text lays it. -/
def Tab (w : World) : Prop := Lib.TabIs Tryz.prog w "internal/strconv.uint64pow10" .u64 Lib.pow10Tab
theorem Tab.below {w w' : World} (h : Tab w) (hb : Below w.heap.size w w') : Tab w' := by
  unfold Tab Lib.TabIs World.var? at *
  revert h
  cases hg : (Tryz.prog).globalNamed "internal/strconv.uint64pow10" with
  | none => intro h; exact h
  | some g =>
    intro h
    simp only [Option.bind_some] at h ⊢
    by_cases hl : g < w.heap.size
    · rw [hb.block g hl]; exact h
    · rw [Array.getElem?_eq_none (Nat.le_of_not_lt hl)] at h
      cases h
theorem itoa_spec (n : Nat) (hn : n < 1000000) (w : World) (ht : Tab w) :
    Calls Tryz.prog 24 #[iv n] w fun e w' => e = .returned (.string ⟨(Lib.decDigits n).toArray⟩) ∧ Below w.heap.size w w' := by
  refine (Any.strconv_Itoa laysM171 (n : Int) (by omega) (by omega) w ht).mono ?_
  rintro e w' ⟨rfl, k, os, rfl⟩
  refine ⟨?_, rfl, rfl, rfl, by simp [Sort.grow, World.drewN], fun i hi => ?_⟩
  · unfold Lib.itoa
    rw [if_neg (by omega)]
    simp
  · show (w.heap ++ os)[i]? = w.heap[i]?
    rw [Array.getElem?_append_left hi]
theorem write_spec (B b : Nat) (bs : List Value) (s : ByteArray) (w : World) (h : Lib.IsBuilder 86 5 B b bs w) (hlen : bs.length + s.size ≤ 140737488355328) (hBw : B ≤ w.heap.size) :
    Calls Tryz.prog 30 #[.pointer (some ⟨b, 0, none⟩), .string s] w fun e w' => e = .returned (.tuple #[.int .i64 s.size, .nilIface]) ∧ (Lib.BuilderAt 86 5 B b (.pointer (some ⟨b, 0, none⟩)) (bs ++ Lib.strCells s) w' ∧ Below B w w') :=
  Any.Builder_WriteString lays166 extra166 B b bs s w h hlen hBw
theorem string_spec (B b : Nat) (l : List UInt8) (w : World) (h : Lib.IsBuilder 86 5 B b (Lib.byteCells l) w) (hBw : B ≤ w.heap.size) :
    Calls Tryz.prog 31 #[.pointer (some ⟨b, 0, none⟩)] w fun e w' => e = .returned (.string ⟨l.toArray⟩) ∧ Below B w w' :=
  Any.Builder_String_any lays169 extra169 B b l w h hBw
end Fl
end Go.Proofs.YtlpoiggdjggkiaaGreatDoor
end
section
namespace Go.Proofs.YtlpoiggdjggkiaaGreatDoor
namespace File
def ba (l : List UInt8) : ByteArray := ⟨l.toArray⟩
def endOf (f : List ByteArray) : List UInt8 := Lib.decDigits (sum f).toNat ++ [10]
def printed : List ByteArray → List UInt8
  | [] => []
  | s :: f => Lib.decDigits s.size ++ (58 :: (bts s ++ (10 :: printed f)))
def text (f : List ByteArray) : List UInt8 := printed f ++ (61 :: endOf f)
end File
namespace Fl
open Go.RowKit
set_option maxRecDepth 100000
theorem ba_append (a b : List UInt8) : (⟨a.toArray⟩ : ByteArray) ++ (⟨b.toArray⟩ : ByteArray) = File.ba (a ++ b) := by
  apply ByteArray.ext
  simp [File.ba]
theorem dec_len : ∀ (k n : Nat), n < 10 ^ (k + 1) → (Lib.decDigits n).length ≤ k + 1 := by
  intro k
  induction k with
  | zero =>
    intro n h
    unfold Lib.decDigits
    rw [dif_pos (by simpa using h)]
    simp
  | succ k ih =>
    intro n h
    unfold Lib.decDigits
    split
    · simp
    · rw [List.length_append]
      have := ih (n / 10) (by rw [Nat.pow_succ] at h; omega)
      simp only [List.length_cons, List.length_nil]
      omega
theorem sum_bounds (l : List ByteArray) : 0 ≤ File.sum l ∧ File.sum l < 9973 := by unfold File.sum; omega
theorem end_spec (A : Option Addr) (l : List ByteArray) (c : Nat) (w : World) (hg : Good l) (hs : Sl strE w A l) (ht : Tab w) :
    Calls Tryz.prog 32 #[.slice A l.length c] w fun e w' => e = .returned (.string (File.ba (File.endOf l))) ∧ Below w.heap.size w w' := by
  have HS := Lib.hid (sum_spec A l c w hg hs)
  have hb := sum_bounds l
  obtain ⟨n, hn⟩ : ∃ n : Nat, File.sum l = n := ⟨(File.sum l).toNat, by omega⟩
  have HT := Lib.hid ht
  have HE : Hid (File.endOf l = Lib.decDigits n ++ [10]) := Lib.hid (by unfold File.endOf; rw [hn]; rfl)
  rw [hn] at HS
  have hn2 : n < 9973 := by omega
  have hdl : (Lib.decDigits n).length ≤ 6 := dec_len 5 n (by omega)
  clear hn hb ht hg
  go_enter Tryz.func32, Tryz.ntmps32
  go_wp2_with (first
    | (go_at_call 61; refine HS.out.mono ?_; rintro e w1 ⟨rfl, hb1⟩)
    | (go_at_call 24; refine (itoa_spec n (by omega) _ (HT.out.below hb1)).mono ?_; rintro e w2 ⟨rfl, hb2⟩))
  go_ret
  exact ⟨ret_eq (by rw [HE.out]; exact congrArg Value.string (ba_append _ _)), hb1.next hb2 (Nat.le_refl _)⟩
theorem ownsRow_below {w w' : World} {B : Nat} {e : TypeId} {sz : Nat} {v : Value} {n : Nat} {xs : List Value} (h : w.ownsRow B e sz v n xs) (hb : Below w.heap.size w w') : w'.ownsRow B e sz v n xs := by
  have hl := World.ownsRow.lt h
  refine ⟨h.1, ?_⟩
  rcases h.2 with hn | ⟨g, cap, cur, rfl, h1, hg, r⟩
  · exact .inl hn
  · exact .inr ⟨g, cap, cur, rfl, h1, (hb.block g (hl g rfl).2).trans hg, r⟩
theorem builderAt_below {w w' : World} {T e : TypeId} {B b : Nat} {p : Value} {bs : List Value} (h : Lib.BuilderAt T e B b p bs w) (hb : Below w.heap.size w w') : Lib.BuilderAt T e B b p bs w' := by
  have hl := h.lt
  obtain ⟨h1, v, h2, h3, h4⟩ := h
  exact ⟨h1, v, (hb.block b hl).trans h2, ownsRow_below h3 hb, h4⟩
theorem isBuilder_below {w w' : World} {T e : TypeId} {B b : Nat} {bs : List Value} (h : Lib.IsBuilder T e B b bs w) (hb : Below w.heap.size w w') : Lib.IsBuilder T e B b bs w' := by
  rcases h with h | h
  · exact Or.inl (builderAt_below h hb)
  · exact Or.inr (builderAt_below h hb)
set_option maxHeartbeats 2000000 in
theorem print_spec (A : Option Addr) (l : List ByteArray) (c : Nat) (w : World) (hm : l.length ≤ big) (hs : Sl strE w A l) (ht : Tab w) :
    Calls Tryz.prog 12 #[.slice A l.length c] w fun e w' => e = .returned (.tuple #[.string (if File.check l = 0 then File.ba (File.text l) else ⟨#[]⟩), iv (File.check l)]) ∧ Below w.heap.size w w' := by
  have HC := Lib.hid (check_spec A l c w hm hs)
  by_cases h : File.check l = 0
  · have HG := Lib.hid (good_of_check h)
    have hlm := HG.out.many
    rw [if_pos h]
    rw [h] at HC ⊢
    have HT := Lib.hid ht
    clear h ht
    go_enter Tryz.func12, Tryz.ntmps12
    go_wp2_with (go_at_call 25; refine HC.out.mono ?_; rintro e w1 ⟨rfl, hb1⟩)
    have hI0 := Lib.fresh_isBuilder 86 5 w1
    have hb2 : Below w1.heap.size w1 (w1.alloc (.cells #[.pointer none, .slice none 0 0] 86)) := (Below.refl _ _).alloc (Nat.le_refl _) _
    go_loopw [7, 15] (fun _ i wr => ∃ (k : Nat) (acc : List UInt8), k ≤ l.length ∧ i = iv k ∧ Lib.IsBuilder 86 5 w1.heap.size w1.heap.size (Lib.byteCells acc) wr ∧ Below w1.heap.size w1 wr ∧ Hid (acc ++ File.printed (l.drop k) = File.printed l) ∧ acc.length ≤ k * 50) (fun _ i _ => l.length - (intOf i).toNat)
    case atStart => exact ⟨0, [], by omega, rfl, hI0, hb2, rfl, by simp⟩
    case round =>
      obtain ⟨k, acc, hk, rfl, hI, hbr, hr, hac⟩ := hrel
      have hb0r := hb1.next hbr (Nat.le_refl _)
      by_cases hlt : k < l.length
      · have hki : (k : Int) < (l.length : Int) := by omega
        obtain ⟨b, off, x, rfl, hb, hx, hc0⟩ := Sl.atS (hs.below hb0r) hlt
        have hxw := HG.out.wide x (mem_at hx)
        have hr' := hr.out
        rw [drop_at hx] at hr'
        simp only [File.printed] at hr'
        have HR := Lib.hid hr'
        have hdl : (Lib.decDigits x.size).length ≤ 6 := dec_len 5 x.size (by omega)
        have HIT := Lib.hid (itoa_spec x.size (by omega) wr (HT.out.below hb0r))
        clear hx hr hr'
        go_wp2_with (go_at_call 24; refine HIT.out.mono ?_; rintro e w2 ⟨rfl, hb2⟩)
        have hstr : (⟨(Lib.decDigits x.size).toArray⟩ : ByteArray) ++ ⟨#[58]⟩ ++ x ++ ⟨#[10]⟩ = File.ba (Lib.decDigits x.size ++ (58 :: (File.bts x ++ [10]))) := by
          apply ByteArray.ext
          simp [File.ba]
        have hsz : (File.ba (Lib.decDigits x.size ++ (58 :: (File.bts x ++ [10])))).size ≤ 50 := by
          show (List.toArray _).size ≤ 50
          simp
          omega
        rw [hstr]
        refine (write_spec w1.heap.size w1.heap.size (Lib.byteCells acc) _ w2 (isBuilder_below hI hb2) (by rw [Lib.byteCells_length]; omega) (Nat.le_trans hbr.size hb2.size)).mono ?_
        rintro e w3 ⟨rfl, h3, hb3⟩
        have h3' : Lib.IsBuilder 86 5 w1.heap.size w1.heap.size (Lib.byteCells (acc ++ (Lib.decDigits x.size ++ (58 :: (File.bts x ++ [10]))))) w3 := Or.inr (by rw [Lib.byteCells_append]; exact h3)
        have hb13 : Below w1.heap.size w1 w3 := (hbr.trans (hb2.mono hbr.size)).trans hb3
        clear hstr h3 hsz
        go_wp2_with fail
        go_roundw
        case rel => exact ⟨k + 1, _, by omega, by go_num, h3', hb13, Lib.hid (by have := HR.out; rw [← this]; simp), by simp; omega⟩
        case measure => simp [intOf]; omega
      · have hki : ¬ (k : Int) < (l.length : Int) := by omega
        have hr' := hr.out
        rw [drop_end hlt] at hr'
        simp only [File.printed, List.append_nil] at hr'
        have HR := Lib.hid hr'
        clear hr hr'
        have hI1 := hI
        have HE : Hid (∀ W, Below w.heap.size w W → Calls Tryz.prog 32 #[.slice A l.length c] W fun e w' => e = .returned (.string (File.ba (File.endOf l))) ∧ Below W.heap.size W w') := Lib.hid fun W hW => end_spec A l c W HG.out (hs.below hW) (HT.out.below hW)
        have hel : (File.ba (File.endOf l)).size ≤ 10 := by
          have := sum_bounds l
          have h2 := dec_len 5 (File.sum l).toNat (by omega)
          show (List.toArray (File.endOf l)).size ≤ 10
          simp [File.endOf]
          omega
        go_wp2_with (first
          | (go_at_call 31; refine (string_spec w1.heap.size w1.heap.size acc wr hI1 hbr.size).mono ?_; rintro e w3 ⟨rfl, hb3⟩; have hb03 := hb0r.trans (hb3.mono hb1.size))
          | (go_at_call 32; refine (HE.out _ hb03).mono ?_; rintro e w4 ⟨rfl, hb4⟩))
        go_ret2
        refine ⟨ret_eq ?_, hb03.next hb4 (Nat.le_refl _)⟩
        congr 1
        have : (⟨acc.toArray⟩ : ByteArray) ++ ⟨#[61]⟩ ++ File.ba (File.endOf l) = File.ba (File.text l) := by
          apply ByteArray.ext
          simp [File.ba, File.text, ← HR.out]
        exact congrArg (fun b => #[Value.string b, iv 0]) this
  · rw [if_neg h]
    have hne : (File.check l != 0) = true := by simpa using h
    clear h
    go_enter Tryz.func12, Tryz.ntmps12
    go_wp2_with (go_at_call 25; refine HC.out.mono ?_; rintro e w1 ⟨rfl, hb1⟩)
    go_ret2
    exact ⟨rfl, hb1⟩
end Fl
end Go.Proofs.YtlpoiggdjggkiaaGreatDoor
end
section
namespace Go.Proofs.YtlpoiggdjggkiaaGreatDoor
open Go.RowKit
/-- What an operation's run comes to: the value v, in a world that has B. -/
def Gives (P : Program) (r : Result Next) (v : Value) (B : World → Prop) : Prop :=
  match r with
  | .ok (.value u) w' => u = v ∧ B w'
  | .ok .skip w' => v = undef ∧ B w'
  | .ok (.enter f args) w' => Calls P f args w' fun e w'' => e = .returned v ∧ B w''
  | _ => False
def StepTo (P : Program) (ops : Array Oper) (o : Oper) (a : Act) (w : World) (v : Value) : Prop :=
  if Region.wanted o (yielded ops a.tmps) = true then Gives P ((execOp a.eval o).run P w) v (Below w.heap.size w) else v = undef
/-- The operations one by one; ahead of each, memory may have grown. -/
def Havoc (P : Program) (ops : Array Oper) (Q : Exit → Act → World → Prop) (W : World) : List Oper → Act → Prop
  | [], a => ∀ w, Below W.heap.size W w → Q .normal a w
  | o :: rest, a => ∃ v, (∀ w, Below W.heap.size W w → StepTo P ops o a w v) ∧ Havoc P ops Q W rest (a.put o.dst v)
theorem gives_wp {P : Program} {o : Oper} {a : Act} {w : World} {v : Value} {B : World → Prop} {K : Act → World → Prop} {Q : Exit → Act → World → Prop}
    (h : Gives P ((execOp a.eval o).run P w) v B) (hK : ∀ w', B w' → K (a.put o.dst v) w') : o.wp P a w K Q := by
  unfold Oper.wp
  generalize (execOp a.eval o).run P w = r at h
  match r, h with
  | .ok (.value u) w', ⟨hu, hB⟩ => subst hu; exact hK w' hB
  | .ok .skip w', ⟨hu, hB⟩ => subst hu; exact hK w' hB
  | .ok (.enter f args) w', h =>
    refine Calls.mono (P := P) h ?_
    rintro e w'' ⟨rfl, hB⟩
    exact hK w'' hB
/-- The operations that must come ahead of each: a number whose bits they are. -/
def maskOf (ms : List Nat) (o : Oper) : Nat := o.after.toList.foldl (fun s e => if Region.binds .any e then s ||| 2 ^ e.on ||| ms.getD e.on 0 else s) 0
def masks (l : List Oper) : List Nat := l.foldl (fun ms o => ms ++ [maskOf ms o]) []
def drawOk (ops : Array Oper) : Bool :=
  let l := ops.toList
  let ms := masks l
  Region.noSelect ops &&
  (List.range l.length).all fun i => match l[i]? with
    | none => true
    | some oi =>
      (oi.after.toList.all fun e => !Region.binds .any e || decide (e.on < i)) &&
      (List.range l.length).all fun j => match l[j]? with
        | none => true
        | some oj => j == i || match oj.dst with
          | none => true
          | some d => oi.dst != some d && (!(oi.looksAt ops).contains d || if j < i then (ms.getD i 0).testBit j else (ms.getD j 0).testBit i)
theorem masks_snoc (l : List Oper) (o : Oper) : masks (l ++ [o]) = masks l ++ [maskOf (masks l) o] := by simp [masks, List.foldl_append]
theorem masks_length (l : List Oper) : (masks l).length = l.length := by
  suffices h : ∀ (l : List Oper) (ms : List Nat), (l.foldl (fun ms o => ms ++ [maskOf ms o]) ms).length = ms.length + l.length by simpa [masks] using h l []
  intro l
  induction l with
  | nil => intro ms; rfl
  | cons o l ih => intro ms; rw [List.foldl_cons, ih]; simp; omega
theorem masks_prefix (l : List Oper) : ∀ (ms : List Nat) (i : Nat), i < ms.length → (l.foldl (fun ms o => ms ++ [maskOf ms o]) ms).getD i 0 = ms.getD i 0 := by
  induction l with
  | nil => intro ms i _; rfl
  | cons o l ih =>
    intro ms i h
    rw [List.foldl_cons, ih _ _ (by simp; omega)]
    simp [List.getD_eq_getElem?_getD, List.getElem?_append_left h]
theorem fold_congr {ms ms' : List Nat} {i : Nat} (h : ∀ k, k < i → ms.getD k 0 = ms'.getD k 0) : ∀ (es : List Edge) (s : Nat), (∀ e ∈ es, Region.binds .any e = true → e.on < i) →
    es.foldl (fun s e => if Region.binds .any e then s ||| 2 ^ e.on ||| ms.getD e.on 0 else s) s = es.foldl (fun s e => if Region.binds .any e then s ||| 2 ^ e.on ||| ms'.getD e.on 0 else s) s := by
  intro es
  induction es with
  | nil => intro s _; rfl
  | cons e es ih =>
    intro s ho
    rw [List.foldl_cons, List.foldl_cons]
    by_cases hb : Region.binds .any e = true
    · rw [if_pos hb, if_pos hb, h e.on (ho e List.mem_cons_self hb)]
      exact ih _ fun e he => ho e (List.mem_cons_of_mem _ he)
    · rw [if_neg hb, if_neg hb]
      exact ih _ fun e he => ho e (List.mem_cons_of_mem _ he)
theorem maskOf_congr {ms ms' : List Nat} {o : Oper} {i : Nat} (ho : ∀ e ∈ o.after.toList, Region.binds .any e = true → e.on < i) (h : ∀ k, k < i → ms.getD k 0 = ms'.getD k 0) : maskOf ms o = maskOf ms' o :=
  fold_congr h _ _ ho
theorem masks_get (l : List Oper) (i : Nat) (o : Oper) (h : l[i]? = some o) : (masks l).getD i 0 = maskOf (masks (l.take i)) o := by
  obtain ⟨hi, rfl⟩ := List.getElem?_eq_some_iff.1 h
  have h1 : l = l.take (i + 1) ++ l.drop (i + 1) := (List.take_append_drop _ _).symm
  have h2 : l.take (i + 1) = l.take i ++ [l[i]] := List.take_succ_eq_append_getElem hi
  have hlen : (masks (l.take i)).length = i := by rw [masks_length, List.length_take]; omega
  rw [show masks l = masks (l.take (i + 1) ++ l.drop (i + 1)) from by rw [← h1], h2]
  unfold masks
  rw [List.foldl_append]
  have h3 := masks_snoc (l.take i) l[i]
  rw [show List.foldl (fun ms o => ms ++ [maskOf ms o]) [] (l.take i ++ [l[i]]) = masks (l.take i ++ [l[i]]) from rfl, h3,
    masks_prefix _ _ _ (by simp [hlen])]
  simp [List.getD_eq_getElem?_getD, List.getElem?_append_right, hlen]
  rfl
theorem foldl_bit (ms : List Nat) (j : Nat) : ∀ (es : List Edge) (s : Nat), (es.foldl (fun s e => if Region.binds .any e then s ||| 2 ^ e.on ||| ms.getD e.on 0 else s) s).testBit j = true →
    s.testBit j = true ∨ ∃ e ∈ es, Region.binds .any e = true ∧ (e.on = j ∨ (ms.getD e.on 0).testBit j = true) := by
  intro es
  induction es with
  | nil => intro s h; exact .inl h
  | cons e es ih =>
    intro s h
    rw [List.foldl_cons] at h
    rcases ih _ h with h | ⟨e', he', hb, h⟩
    · by_cases hb : Region.binds .any e = true
      · rw [if_pos hb, Nat.testBit_or, Nat.testBit_or, Bool.or_eq_true, Bool.or_eq_true, Nat.testBit_two_pow] at h
        rcases h with (h | h) | h
        · exact .inl h
        · exact .inr ⟨e, List.mem_cons_self, hb, .inl (by simpa using h)⟩
        · exact .inr ⟨e, List.mem_cons_self, hb, .inr h⟩
      · rw [if_neg hb] at h; exact .inl h
    · exact .inr ⟨e', List.mem_cons_of_mem _ he', hb, h⟩
section
variable {ops : Array Oper}
/-- What drawOk says, taken apart. -/
theorem drawOk_spec (h : drawOk ops = true) : (∀ (j : Nat) (o : Oper), ops.toList[j]? = some o → ∀ cs b, o.op ≠ .select cs b) ∧
    (∀ (i : Nat) (oi : Oper), ops.toList[i]? = some oi → ∀ e ∈ oi.after.toList, Region.binds .any e = true → e.on < i) ∧
    (∀ (i j : Nat) (oi oj : Oper) (d : Tmp), ops.toList[i]? = some oi → ops.toList[j]? = some oj → j ≠ i → oj.dst = some d → oi.dst ≠ some d ∧
      (d ∈ oi.looksAt ops → if j < i then ((masks ops.toList).getD i 0).testBit j = true else ((masks ops.toList).getD j 0).testBit i = true)) := by
  simp only [drawOk, Bool.and_eq_true, List.all_eq_true, List.mem_range] at h
  obtain ⟨h1, h2⟩ := h
  refine ⟨fun j o hj cs b => Region.noSelect_spec h1 j o cs b (by simpa using hj), fun i oi hi e he hb => ?_, fun i j oi oj d hi hj hne hd => ?_⟩
  · have := h2 i (List.getElem?_eq_some_iff.1 hi).1
    rw [hi] at this
    simp only [Bool.and_eq_true, List.all_eq_true, List.mem_range] at this
    have := this.1 e he
    rw [hb] at this
    simpa using this
  · have := h2 i (List.getElem?_eq_some_iff.1 hi).1
    rw [hi] at this
    simp only [Bool.and_eq_true, List.all_eq_true, List.mem_range] at this
    have := this.2 j (List.getElem?_eq_some_iff.1 hj).1
    rw [hj] at this
    simp only [hd, Bool.or_eq_true, beq_iff_eq, hne, false_or, Bool.and_eq_true, bne_iff_ne, ne_eq, Bool.not_eq_true', List.contains_eq_mem, decide_eq_false_iff_not] at this
    refine ⟨this.1, fun hm => ?_⟩
    rcases this.2 with h | h
    · exact absurd hm h
    · split at h <;> rename_i hlt
      · rw [if_pos hlt]; exact h
      · rw [if_neg hlt]; exact h
/-- A set of operations that holds with each what must come ahead of it. -/
def Shut (ops : Array Oper) (T : Nat → Prop) : Prop := ∀ i oi, ops.toList[i]? = some oi → T i → ∀ e ∈ oi.after.toList, Region.binds .any e = true → T e.on
theorem mask_in (h : drawOk ops = true) {T : Nat → Prop} (hT : Shut ops T) : ∀ (n i : Nat) (oi : Oper), i < n → ops.toList[i]? = some oi → (∀ e ∈ oi.after.toList, Region.binds .any e = true → T e.on) →
    ∀ j, ((masks ops.toList).getD i 0).testBit j = true → T j := by
  obtain ⟨_, h2, _⟩ := drawOk_spec h
  intro n
  induction n with
  | zero => intro i _ hi; omega
  | succ n ih =>
    intro i oi hi hoi hall j hj
    have hlen := (List.getElem?_eq_some_iff.1 hoi).1
    have hsame : ∀ k, k < i → (masks (ops.toList.take i)).getD k 0 = (masks ops.toList).getD k 0 := fun k hk => by
      have hk' : ops.toList[k]? = some (ops.toList[k]'(by omega)) := List.getElem?_eq_getElem (by omega)
      rw [masks_get ops.toList k _ hk', masks_get (ops.toList.take i) k _ (by rw [List.getElem?_take, if_pos hk]; exact hk'), List.take_take, Nat.min_eq_left (by omega)]
    rw [masks_get _ _ _ hoi, maskOf_congr (i := i) (fun e he hb => h2 i oi hoi e he hb) hsame] at hj
    rcases foldl_bit _ _ _ _ hj with hz | ⟨e, he, hb, hj⟩
    · simp at hz
    · have hlt := h2 i oi hoi e he hb
      have hTe := hall e he hb
      rcases hj with rfl | hj
      · exact hTe
      · have hoe : ops.toList[e.on]? = some (ops.toList[e.on]'(by omega)) := List.getElem?_eq_getElem (by omega)
        exact ih e.on _ (by omega) hoe (fun e' he' hb' => hT _ _ hoe hTe e' he' hb') j hj
/-- The frame a is a₀ but for the operations of T, which have left the values v. -/
structure Agrees (ops : Array Oper) (a₀ : Act) (v : Nat → Value) (T : Nat → Prop) (a : Act) : Prop where
  defers : a.defers = a₀.defers
  size : a.tmps.size = a₀.tmps.size
  hit : ∀ i oi d, ops.toList[i]? = some oi → oi.dst = some d → T i → d < a₀.tmps.size → a.tmps[d]? = some (v i)
  miss : ∀ d, (∀ i oi, ops.toList[i]? = some oi → oi.dst = some d → ¬ T i) → a.tmps[d]? = a₀.tmps[d]?
theorem Agrees.start (a₀ : Act) (v : Nat → Value) : Agrees ops a₀ v (fun _ => False) a₀ := ⟨rfl, rfl, fun _ _ _ _ _ h => h.elim, fun _ _ => rfl⟩
theorem Agrees.put (h : drawOk ops = true) {a₀ a : Act} {v : Nat → Value} {T T' : Nat → Prop} {i : Nat} {oi : Oper} (ha : Agrees ops a₀ v T a) (hi : ops.toList[i]? = some oi) (hT : ∀ j, T' j ↔ T j ∨ j = i) :
    Agrees ops a₀ v T' (a.put oi.dst (v i)) := by
  obtain ⟨_, _, h3⟩ := drawOk_spec h
  cases hd : oi.dst with
  | none =>
    refine ⟨ha.defers, ha.size, fun k ok d hk hkd hTk hlt => ?_, fun d hd' => ?_⟩
    · rcases (hT k).1 hTk with hTk | rfl
      · exact ha.hit k ok d hk hkd hTk hlt
      · rw [hi] at hk; injection hk with hk; subst hk; rw [hd] at hkd; cases hkd
    · exact ha.miss d fun k ok hk hkd hTk => hd' k ok hk hkd ((hT k).2 (.inl hTk))
  | some d₀ =>
    refine ⟨ha.defers, by simp [Act.put, ha.size], fun k ok d hk hkd hTk hlt => ?_, fun d hd' => ?_⟩
    · by_cases hki : k = i
      · subst hki
        rw [hi] at hk; injection hk with hk; subst hk
        rw [hd] at hkd; injection hkd with hkd; subst hkd
        simp [Act.put, Array.getElem?_setIfInBounds_self_of_lt, ha.size, hlt]
      · have hne : d₀ ≠ d := fun e => (h3 k i ok oi d₀ hk hi (fun e => hki e.symm) hd).1 (e ▸ hkd)
        have hTk' : T k := by rcases (hT k).1 hTk with h | h; exact h; exact absurd h hki
        simp only [Act.put, Array.getElem?_setIfInBounds_ne hne]
        exact ha.hit k ok d hk hkd hTk' hlt
    · have hne : d₀ ≠ d := fun e => hd' i oi hi (e ▸ hd) ((hT i).2 (.inr rfl))
      simp only [Act.put, Array.getElem?_setIfInBounds_ne hne]
      exact ha.miss d fun k ok hk hkd hTk => hd' k ok hk hkd ((hT k).2 (.inl hTk))
/-- Two frames read alike at a slot whose writers they have in common. -/
theorem Agrees.same (h : drawOk ops = true) {a₀ a b : Act} {v : Nat → Value} {T U : Nat → Prop} (ha : Agrees ops a₀ v T a) (hb : Agrees ops a₀ v U b) (d : Tmp)
    (hTU : ∀ i oi, ops.toList[i]? = some oi → oi.dst = some d → (T i ↔ U i)) : a.tmps[d]? = b.tmps[d]? := by
  by_cases hw : ∃ i oi, ops.toList[i]? = some oi ∧ oi.dst = some d ∧ T i
  · obtain ⟨i, oi, hi, hd, hTi⟩ := hw
    by_cases hlt : d < a₀.tmps.size
    · rw [ha.hit i oi d hi hd hTi hlt, hb.hit i oi d hi hd ((hTU i oi hi hd).1 hTi) hlt]
    · rw [Array.getElem?_eq_none (ha.size ▸ Nat.le_of_not_lt hlt), Array.getElem?_eq_none (hb.size ▸ Nat.le_of_not_lt hlt)]
  · rw [ha.miss d fun i oi hi hd hTi => hw ⟨i, oi, hi, hd, hTi⟩, hb.miss d fun i oi hi hd hUi => hw ⟨i, oi, hi, hd, (hTU i oi hi hd).2 hUi⟩]
theorem step_alike (h : drawOk ops = true) {a₀ a b : Act} {v : Nat → Value} {T U : Nat → Prop} {i : Nat} {oi : Oper} (ha : Agrees ops a₀ v T a) (hb : Agrees ops a₀ v U b) (hi : ops.toList[i]? = some oi)
    (hTU : ∀ d ∈ oi.looksAt ops, ∀ j oj, ops.toList[j]? = some oj → oj.dst = some d → (T j ↔ U j)) :
    execOp a.eval oi = execOp b.eval oi ∧ Region.wanted oi (yielded ops a.tmps) = Region.wanted oi (yielded ops b.tmps) := by
  have hslot : ∀ d ∈ oi.looksAt ops, a.tmps[d]? = b.tmps[d]? := fun d hd => ha.same h hb d (hTU d hd)
  refine ⟨execOp_congr oi (fun cs b => (drawOk_spec h).1 i oi hi cs b) fun x hx => ?_, ?_⟩
  · cases x with
    | tmp t =>
      have := hslot t (List.mem_append_left _ (List.mem_filterMap.2 ⟨.tmp t, by simpa using hx, rfl⟩))
      simp [Act.eval, this]
    | _ => rfl
  · unfold Region.wanted
    cases hg : oi.guard with
    | none => rfl
    | some gw =>
      obtain ⟨g, want⟩ := gw
      have : yielded ops a.tmps g = yielded ops b.tmps g := by
        unfold yielded
        cases ht : (ops[g]?).bind (·.dst) with
        | none => rfl
        | some t =>
          have := hslot t (by simp [Oper.looksAt, hg, ht])
          simp [this]
      simp only [this]
theorem getD_set (listed : Array Bool) (i k : Nat) (hi : i < listed.size) : ((listed.setIfInBounds i true).getD k false = true) ↔ (listed.getD k false = true ∨ k = i) := by
  simp only [Array.getD_eq_getD_getElem?, Array.getElem?_setIfInBounds]
  by_cases hk : i = k
  · subst hk; simp [hi]
  · rw [if_neg hk]
    exact ⟨.inl, fun h => h.elim id fun e => absurd e.symm hk⟩
theorem ready_mem {listed : Array Bool} {i : Nat} (hi : i ∈ Region.ready .any ops listed) : ∃ oi, ops.toList[i]? = some oi ∧ listed.getD i true = false ∧ ∀ e ∈ oi.after.toList, Region.binds .any e = true → listed.getD e.on false = true := by
  simp only [Region.ready, List.mem_filter, List.mem_range, Bool.and_eq_true, Bool.not_eq_true'] at hi
  obtain ⟨hlt, hl, hall⟩ := hi
  refine ⟨ops[i], by simp [hlt], hl, fun e he hb => ?_⟩
  rw [Array.getElem?_eq_getElem hlt] at hall
  simp only [Option.map_some, Option.getD_some, Array.all_eq_true_iff_forall_mem] at hall
  have := hall e (by simpa using he)
  rw [hb] at this
  simpa using this
theorem havoc_any (h : drawOk ops = true) {P : Program} {Q : Exit → Act → World → Prop} {W : World} {a₀ aN : Act} {v : Nat → Value} {c : Nat → Act}
    (hc : ∀ i, i ≤ ops.size → Agrees ops a₀ v (fun j => j < i) (c i)) (hN : c ops.size = aN)
    (hstep : ∀ i oi, ops.toList[i]? = some oi → ∀ w, Below W.heap.size W w → StepTo P ops oi (c i) w (v i)) (hQ : ∀ w, Below W.heap.size W w → Q .normal aN w) :
    ∀ (fuel : Nat) (listed : Array Bool) (a : Act) (w : World), listed.size = ops.size → Shut ops (fun i => listed.getD i false = true) → listed.toList.count false ≤ fuel →
      Agrees ops a₀ v (fun i => listed.getD i false = true) a → Below W.heap.size W w → wpAny P .any ops Q fuel listed a w := by
  have hlen : ops.toList.length = ops.size := Array.length_toList
  have hfin : ∀ (listed : Array Bool) (a : Act) (w : World), listed.size = ops.size → Region.ready .any ops listed = [] → Agrees ops a₀ v (fun i => listed.getD i false = true) a → Below W.heap.size W w → Q .normal a w := by
    intro listed a w hsz hr ha hw
    have hall : ∀ n i, i < n → i < ops.size → listed.getD i false = true := by
      intro n
      induction n with
      | zero => intro i hi; omega
      | succ n ih =>
        intro i hi hio
        by_cases hl : listed.getD i false = true
        · exact hl
        · exfalso
          have hmem : i ∈ Region.ready .any ops listed := by
            simp only [Region.ready, List.mem_filter, List.mem_range, Bool.and_eq_true, Bool.not_eq_true']
            refine ⟨hio, ?_, ?_⟩
            · have hb : i < listed.size := by omega
              simp [Array.getD, hb] at hl ⊢
              exact hl
            · rw [Array.getElem?_eq_getElem hio]
              simp only [Option.map_some, Option.getD_some, Array.all_eq_true_iff_forall_mem]
              intro e he
              by_cases hb : Region.binds .any e = true
              · have hlt := (drawOk_spec h).2.1 i ops[i] (by simp [hio]) e (by simpa using he) hb
                simp [ih e.on (by omega) (by omega)]
              · simp [hb]
          rw [hr] at hmem
          cases hmem
    have hEq : a = aN := by
      rw [← hN]
      have hcN := hc ops.size (Nat.le_refl _)
      have h1 : a.tmps = (c ops.size).tmps := Array.ext_getElem? fun d => ha.same h hcN d fun i oi hi _ => by
        have : i < ops.size := by have := (List.getElem?_eq_some_iff.1 hi).1; omega
        exact ⟨fun _ => this, fun _ => hall (i + 1) i (by omega) this⟩
      have h2 : a.defers = (c ops.size).defers := ha.defers.trans hcN.defers.symm
      cases a; cases hcc : c ops.size; rw [hcc] at h1 h2; simp_all
    rw [hEq]
    exact hQ w hw
  intro fuel
  induction fuel with
  | zero =>
    intro listed a w hsz hshut hfuel ha hw
    have hr : Region.ready .any ops listed = [] := by
      apply List.eq_nil_iff_forall_not_mem.2
      intro i hi
      obtain ⟨oi, hoi, hl, _⟩ := ready_mem hi
      have hb : i < listed.size := by have := (List.getElem?_eq_some_iff.1 hoi).1; omega
      have hm : false ∈ listed.toList := by
        have hli : listed[i] = false := by simpa [Array.getD, hb] using hl
        rw [← hli]
        simp
      have := List.count_pos_iff.2 hm
      omega
    exact ⟨hr, hfin listed a w hsz hr ha hw⟩
  | succ fuel ih =>
    intro listed a w hsz hshut hfuel ha hw
    refine ⟨fun hr => hfin listed a w hsz hr ha hw, fun i hi => ?_⟩
    obtain ⟨oi, hoi, hl, hafter⟩ := ready_mem hi
    have hio : i < ops.size := by have := (List.getElem?_eq_some_iff.1 hoi).1; omega
    have hunl : ¬ listed.getD i false = true := by
      have hb : i < listed.size := by omega
      simp [Array.getD, hb] at hl ⊢
      exact hl
    have hil : i < listed.size := by omega
    have hset := fun k => getD_set listed i k hil
    have hshut' : Shut ops (fun j => (listed.setIfInBounds i true).getD j false = true) := by
      intro j oj hj hTj e he hb
      rcases (hset j).1 hTj with hTj | rfl
      · exact (hset _).2 (.inl (hshut j oj hj hTj e he hb))
      · rw [hoi] at hj; injection hj with hj; subst hj
        exact (hset _).2 (.inl (hafter e he hb))
    have hcount : (listed.setIfInBounds i true).toList.count false ≤ fuel := by
      have hli : listed.toList[i]'(by simpa using hil) = false := by
        have : listed[i] = false := by simpa [Array.getD, hil] using hl
        simpa using this
      have hm : 0 < listed.toList.count false := List.count_pos_iff.2 (by rw [← hli]; simp)
      rw [Array.toList_setIfInBounds, List.count_set (by simpa using hil), hli]
      simp only [beq_self_eq_true, if_true, show (true == false) = false from rfl, Bool.false_eq_true, if_false]
      omega
    have hlooks : ∀ d ∈ oi.looksAt ops, ∀ j oj, ops.toList[j]? = some oj → oj.dst = some d → (listed.getD j false = true ↔ j < i) := by
      intro d hd j oj hj hjd
      by_cases hji : j = i
      · subst hji
        exact ⟨fun h => absurd h hunl, fun h => absurd h (Nat.lt_irrefl _)⟩
      · have := ((drawOk_spec h).2.2 i j oi oj d hoi hj hji hjd).2 hd
        by_cases hlt : j < i
        · rw [if_pos hlt] at this
          exact ⟨fun _ => hlt, fun _ => mask_in h hshut (i + 1) i oi (by omega) hoi hafter j this⟩
        · rw [if_neg hlt] at this
          exact ⟨fun hTj => absurd (mask_in h hshut (j + 1) j oj (by omega) hj (fun e he hb => hshut j oj hj hTj e he hb) i this) hunl, fun h => absurd h hlt⟩
    obtain ⟨he, hwn⟩ := step_alike h ha (hc i (by omega)) hoi hlooks
    have hs := hstep i oi hoi w hw
    have hput : Agrees ops a₀ v (fun j => (listed.setIfInBounds i true).getD j false = true) (a.put oi.dst (v i)) := ha.put h hoi hset
    unfold wpOp
    rw [show ops[i]? = some oi by simpa using hoi]
    simp only
    unfold StepTo at hs
    rw [← hwn] at hs
    split
    · rename_i hwt
      rw [if_pos hwt, ← he] at hs
      refine .inl (gives_wp hs fun w' hB => ?_)
      exact ih _ _ w' (by simpa using hsz) hshut' hcount hput (hw.next hB (Nat.le_refl _))
    · rename_i hwt
      rw [if_neg hwt] at hs
      rw [← hs]
      exact ih _ _ w (by simpa using hsz) hshut' hcount hput hw
theorem havoc_split {P : Program} {Q : Exit → Act → World → Prop} {W : World} : ∀ (l : List Oper) (a : Act), Havoc P ops Q W l a → ∃ (v : Nat → Value) (c : Nat → Act), c 0 = a ∧
    (∀ i o, l[i]? = some o → c (i + 1) = (c i).put o.dst (v i) ∧ ∀ w, Below W.heap.size W w → StepTo P ops o (c i) w (v i)) ∧ ∀ w, Below W.heap.size W w → Q .normal (c l.length) w := by
  intro l
  induction l with
  | nil => intro a h; exact ⟨fun _ => undef, fun _ => a, rfl, fun i o h => by simp at h, h⟩
  | cons o l ih =>
    rintro a ⟨v0, hs, hrest⟩
    obtain ⟨v, c, hc0, hc, hQ⟩ := ih _ hrest
    refine ⟨fun i => match i with | 0 => v0 | i + 1 => v i, fun i => match i with | 0 => a | i + 1 => c i, rfl, fun i o' hi => ?_, hQ⟩
    cases i with
    | zero =>
      simp at hi
      subst hi
      exact ⟨hc0, hs⟩
    | succ i => exact hc i o' (by simpa using hi)
theorem wp_havoc {P : Program} {Q : Exit → Act → World → Prop} {id : Nat} {a : Act} {w : World} (hm : P.follows .mixedOrders = true) (h : drawOk ops = true) (hh : Havoc P ops Q w ops.toList a) : (Code.region id ops true).wp P Q a w := by
  refine wp_region_any hm ?_
  obtain ⟨v, c, hc0, hc, hQ⟩ := havoc_split _ _ hh
  have hag : ∀ i, i ≤ ops.size → Agrees ops a v (fun j => j < i) (c i) := by
    intro i
    induction i with
    | zero => intro _; rw [hc0]; exact ⟨rfl, rfl, fun _ _ _ _ _ h => absurd h (Nat.not_lt_zero _), fun _ _ => rfl⟩
    | succ i ih =>
      intro hi
      have hoi : ops.toList[i]? = some (ops.toList[i]'(by simp; omega)) := List.getElem?_eq_getElem _
      rw [(hc i _ hoi).1]
      exact (ih (by omega)).put h hoi fun j => by omega
  refine havoc_any h hag rfl (fun i oi hi => (hc i oi hi).2) (by simpa using hQ) ops.size _ a _ (by simp) ?_ (by simp) ?_ ((Below.refl _ _).drew)
  · intro i oi hi hT
    simp [Array.getD] at hT
  · refine ⟨rfl, rfl, fun i oi d hi hd hT => ?_, fun _ _ => rfl⟩
    simp [Array.getD] at hT
theorem wp_havoc_lit {P : Program} {Q : Exit → Act → World → Prop} {id : Nat} {a : Act} {w : World} {l : List Oper} (hm : P.follows .mixedOrders = true) (h : drawOk l.toArray = true) (hh : Havoc P l.toArray Q w l a) : (Code.region id l.toArray true).wp P Q a w :=
  wp_havoc hm h (by simpa using hh)
variable {P : Program} {Q : Exit → Act → World → Prop} {W : World} {o : Oper} {rest : List Oper} {a : Act} {v : Value}
theorem hv_nil (h : ∀ w, Below W.heap.size W w → Q .normal a w) : Havoc P ops Q W [] a := h
theorem hv_skip (hw : Region.wanted o (yielded ops a.tmps) = false) (h : Havoc P ops Q W rest (a.put o.dst undef)) : Havoc P ops Q W (o :: rest) a :=
  ⟨undef, fun w _ => by unfold StepTo; rw [hw]; rfl, h⟩
theorem hv_val (hw : Region.wanted o (yielded ops a.tmps) = true) (hr : ∀ w, Below W.heap.size W w → (execOp a.eval o).run P w = .ok (.value v) w) (h : Havoc P ops Q W rest (a.put o.dst v)) : Havoc P ops Q W (o :: rest) a :=
  ⟨v, fun w hb => by unfold StepTo; rw [hw, if_pos rfl, hr w hb]; exact ⟨rfl, Below.refl _ _⟩, h⟩
theorem hv_call {f : FuncId} {args : Array Value} (hw : Region.wanted o (yielded ops a.tmps) = true) (hr : ∀ w, Below W.heap.size W w → (execOp a.eval o).run P w = .ok (.enter f args) w)
    (hc : ∀ w, Below W.heap.size W w → Calls P f args w fun e w' => e = .returned v ∧ Below w.heap.size w w') (h : Havoc P ops Q W rest (a.put o.dst v)) : Havoc P ops Q W (o :: rest) a :=
  ⟨v, fun w hb => by unfold StepTo; rw [hw, if_pos rfl, hr w hb]; exact hc w hb, h⟩
end
end Go.Proofs.YtlpoiggdjggkiaaGreatDoor
end
section
namespace Go.Proofs.YtlpoiggdjggkiaaGreatDoor
namespace File
def isDig (b : UInt8) : Bool := decide (48 ≤ b.toNat) && decide (b.toNat ≤ 57)
def nextB : List UInt8 → UInt8
  | [] => 0
  | b :: _ => b
def takes (p : UInt8 → Bool) : List UInt8 → Bool
  | [] => false
  | b :: _ => p b
def rest (p : UInt8 → Bool) : List UInt8 → List UInt8
  | [] => []
  | b :: r => if p b then r else b :: r
def on (p : UInt8 → Bool) (l : List UInt8) (k : Nat) : Nat := if takes p l then k + 1 else k
end File
namespace Fl
open Go.RowKit
set_option maxRecDepth 100000
abbrev bv (b : UInt8) : Value := .int .u8 (b.toNat : Int)
structure Only (g : Nat) (w w' : World) : Prop where
  below : Below g w w'
  other : ∀ b, b < w.heap.size → b ≠ g → w'.heap[b]? = w.heap[b]?
theorem Only.refl (g : Nat) (w : World) : Only g w w := ⟨Below.refl _ _, fun _ _ _ => rfl⟩
theorem Only.trans {g : Nat} {a b c : World} (h : Only g a b) (k : Only g b c) : Only g a c := ⟨h.below.trans k.below, fun i hi hg => (k.other i (Nat.lt_of_lt_of_le hi h.below.size) hg).trans (h.other i hi hg)⟩
theorem Only.of_below {g : Nat} {w w' : World} (h : Below w.heap.size w w') (hg : g ≤ w.heap.size) : Only g w w' := ⟨h.mono hg, fun b hb _ => h.block b hb⟩
theorem Only.set_ (g o : Nat) (w : World) (v : Value) : Only g w (w.setCell ⟨g, o, none⟩ v) := ⟨(Below.refl g w).setCell (p := ⟨g, o, none⟩) (Nat.le_refl _) v, fun b _ hb => Below.heap_setCell w ⟨g, o, none⟩ v b hb⟩
theorem Only.drew {g : Nat} {w w' : World} (h : Only g w w') : Only g w w'.drew := ⟨h.below.drew, h.other⟩
theorem Only.next {g : Nat} {w w1 w2 : World} (h : Only g w w1) (hb : Below w1.heap.size w1 w2) (hg : g ≤ w1.heap.size) : Only g w w2 := h.trans (Only.of_below hb hg)
theorem Blk.only {w w' : World} {b g : Nat} {t : TypeId} {cs : Array Value} (h : Blk w b t cs) (hg : b ≠ g) (ho : Only g w w') : Blk w' b t cs := (ho.other b h.lt hg).trans h
/-- The reader in block g has the bytes l before it, and stands at k. -/
def RD (w : World) (g : Nat) (l : List UInt8) (k : Nat) : Prop := Blk w g 97 #[.string (File.ba l), iv k]
theorem RD.below {w w' : World} {g : Nat} {l : List UInt8} {k : Nat} (h : RD w g l k) (hb : Below w.heap.size w w') : RD w' g l k := Blk.under h hb
theorem ba_size (l : List UInt8) : (File.ba l).size = l.length := by simp [File.ba, ByteArray.size]
theorem ba_nil : File.ba [] = ⟨#[]⟩ := rfl
theorem ba_ne {b : UInt8} {l : List UInt8} : (File.ba (b :: l)).toList.isEmpty = false := by
  rw [ByteArray.toList_eq]
  rfl
theorem ba_em : (File.ba []).toList.isEmpty = true := by
  rw [ByteArray.toList_eq]
  rfl
theorem next_spec (l : List UInt8) (w : World) : Calls Tryz.prog 34 #[.agg #[.string (File.ba l)]] w fun e w' => e = .returned (bv (File.nextB l)) ∧ Below w.heap.size w w' := by
  cases l with
  | nil =>
    rw [ba_nil]
    go_enter Tryz.func34, Tryz.ntmps34
    go_wp2_with fail
    go_ret
    exact ⟨rfl, (Below.refl _ _).alloc (Nat.le_refl _) _⟩
  | cons b l =>
    have h1 := ba_ne (b := b) (l := l)
    have h2 : 0 < (File.ba (b :: l)).size := by rw [ba_size]; simp
    go_enter Tryz.func34, Tryz.ntmps34
    go_wp2_with fail
    go_ret
    exact ⟨rfl, (Below.refl _ _).alloc (Nat.le_refl _) _⟩
theorem dec_int (a n : Nat) : decide (a ≤ n) = decide ((a : Int) ≤ (n : Int)) := by rw [decide_eq_decide]; omega
theorem digit_spec (b : UInt8) (w : World) : Calls Tryz.prog 35 #[bv b] w fun e w' => e = .returned (.bool (File.isDig b)) ∧ w = w' := by
  unfold File.isDig bv
  generalize b.toNat = n
  rw [dec_int, dec_int]
  by_cases h1 : (48 : Int) ≤ (n : Int) <;> by_cases h2 : (n : Int) ≤ 57
  all_goals
    go_enter Tryz.func35, Tryz.ntmps35
    go_wp2
    go_ret
    exact ⟨by simp [*], rfl⟩
theorem line1_spec (b : UInt8) (w : World) : Calls Tryz.prog 63 #[bv b] w fun e w' => e = .returned (.bool (File.okB b)) ∧ w = w' := by
  unfold File.okB bv
  generalize b.toNat = n
  rw [dec_int, dec_int]
  by_cases h1 : (32 : Int) ≤ (n : Int) <;> by_cases h2 : (n : Int) ≤ 126
  all_goals
    go_enter Tryz.func63, Tryz.ntmps63
    go_wp2
    go_ret
    exact ⟨by simp [*], rfl⟩
theorem one1_spec (a b : UInt8) (g : Nat) (w : World) (hB : Blk w g 5 #[bv a]) : Calls Tryz.prog 64 #[bv b, .pointer (some ⟨g, 0, none⟩)] w fun e w' => e = .returned (.bool (b == a)) ∧ Below w.heap.size w w' := by
  have m0 := hB.cell
  have m1 := hB.lt
  have h : (b == a) = ((b.toNat : Int) == (a.toNat : Int)) := by
    rw [Bool.eq_iff_iff]
    simp only [beq_iff_eq]
    exact ⟨fun h => by rw [h], fun h => UInt8.toNat_inj.1 (by omega)⟩
  rw [h]
  unfold bv at m0 ⊢
  clear h
  generalize a.toNat = x at *
  generalize b.toNat = y at *
  go_enter Tryz.func64, Tryz.ntmps64
  go_wp2_with fail
  go_ret
  exact ⟨rfl, Below.refl _ _⟩
theorem one_spec (a : UInt8) (w : World) : Calls Tryz.prog 37 #[bv a] w fun e w' => ∃ g, e = .returned (.agg #[.func (.func 64) #[] #[.pointer (some ⟨g, 0, none⟩)]]) ∧ Blk w' g 5 #[bv a] ∧ Below w.heap.size w w' := by
  have hmf : ∀ (fn : Fn) (first cap : Array Value) (w : World), (Instr.makeFunc fn first cap).run Tryz.prog w = .ok (.func fn first cap) w := fun _ _ _ _ => rfl
  go_enter Tryz.func37, Tryz.ntmps37
  go_wp2_with fail
  exact bodyPost_ret (results_cell_row (P := Tryz.prog) (fn := Tryz.f37) (p := 2) (ty := 104) (by kernel_rfl) _ _ (w.heap.size + 1) 104 _ (0, 0) _ (by rfl) (Blk.new_ _ _ _ (by simp)) Tryz.underlying104 (by rfl) (by kernel_rfl)) rfl
    ⟨w.heap.size, rfl, (Blk.new w _ _).alloc _, ((Below.refl _ _).alloc (Nat.le_refl _) _).alloc (by simp) _⟩
theorem ba_tail {b : UInt8} {r : List UInt8} : ∀ W : World, (Instr.slice 9 (.string (File.ba (b :: r))) (some (iv 1)) none none).run Tryz.prog W = .ok (.string (File.ba r)) W := by
  intro W
  rw [run_slice_string_from_if W 9 (File.ba (b :: r)) .i64 1 Tryz.underlying9, if_pos ⟨by omega, by rw [ba_size]; simp; omega⟩]
  have : (File.ba (b :: r)).extract (1 : Int).toNat (File.ba (b :: r)).size = File.ba r := by
    apply ByteArray.ext
    simp [File.ba, ByteArray.size]
  rw [this]
set_option maxHeartbeats 2000000 in
/-- take: over one byte, if it can be. -/
theorem take_spec (g k : Nat) (l : List UInt8) (K : Nat) (cap : Array Value) (p : UInt8 → Bool) (w : World) (hR : RD w g l k) (hk : k + l.length ≤ 4611686018427387904)
    (hK : ∀ (args : Array Value) (w : World), (callFunc K args).run Tryz.prog w = .ok (.enter K args) w)
    (hf : ∀ b r, l = b :: r → ∀ w', Below w.heap.size w w' → Calls Tryz.prog K (#[bv b] ++ cap) w' fun e w'' => e = .returned (.bool (p b)) ∧ Below w'.heap.size w' w'') :
    Calls Tryz.prog 33 #[.pointer (some ⟨g, 0, none⟩), .agg #[.func (.func K) #[] cap]] w fun e w' => e = .returned (.bool (File.takes p l)) ∧ RD w' g (File.rest p l) (File.on p l k) ∧ Only g w w' := by
  have hb0 : Below w.heap.size w (w.alloc (.cells #[.func (.func K) #[] cap] 104)) := (Below.refl _ _).alloc (Nat.le_refl _) _
  have hKb : Blk (w.alloc (.cells #[.func (.func K) #[] cap] 104)) w.heap.size 104 #[.func (.func K) #[] cap] := Blk.new _ _ _
  have hR0 := hR.below hb0
  have hgl := hR.lt
  cases l with
  | nil =>
    have h1 := ba_em
    go_enter Tryz.func33, Tryz.ntmps33
    go_upto_region 1 with fail
    generalize w.alloc (.cells #[.func (.func K) #[] cap] 104) = w1 at *
    have HFF : Hid (∀ a : World, Below w1.heap.size w1 a → a.cell? ⟨g, 0, none⟩ = some (.string (File.ba []))) := Lib.hid fun a h => (hR0.below h).cell 0
    refine wp_havoc_lit (by kernel_rfl) (by kernel_rfl) ?_
    repeat (first
      | (refine hv_skip (by rfl) ?_; simp only [Act.put, List.setIfInBounds_toArray, List.set_cons_zero, List.set_cons_succ])
      | (apply hv_val (by rfl); (intro w hw; have F := HFF.out w hw; go_simp; exact rfl); simp only [Act.put, List.setIfInBounds_toArray, List.set_cons_zero, List.set_cons_succ])
      | (apply hv_call (by rfl); (intro w hw; have F := HFF.out w hw; go_simp; exact ⟨rfl, rfl⟩); (intro w hw; have F := HFF.out w hw; with_reducible exact next_spec _ w); simp only [Act.put, List.setIfInBounds_toArray, List.set_cons_zero, List.set_cons_succ]))
    refine hv_nil ?_
    rintro w2 hb2
    go_wp2_with fail
    go_ret
    exact ⟨rfl, hR0.below hb2, Only.of_below (hb0.next hb2 (Nat.le_refl _)) (Nat.le_of_lt hgl)⟩
  | cons b r =>
    have h1 := ba_ne (b := b) (l := r)
    have hsl := ba_tail (b := b) (r := r)
    have HF := Lib.hid (hf b r rfl)
    have e1 : IntKind.i64.wrap ((k : Int) + 1) = ((k + 1 : Nat) : Int) := IntWalk.i64_in _ (by simp only [List.length_cons] at hk; omega)
    clear hf
    cases hp : p b
    all_goals
      rw [hp] at HF
      simp only [File.takes, File.rest, File.on, hp, Bool.false_eq_true, if_false, if_true]
      clear hp
      go_enter Tryz.func33, Tryz.ntmps33
      go_upto_region 1 with fail
      generalize w.alloc (.cells #[.func (.func K) #[] cap] 104) = w1 at *
      have HFF : Hid (∀ a : World, Below w1.heap.size w1 a → a.cell? ⟨g, 0, none⟩ = some (.string (File.ba (b :: r))) ∧ a.cell? ⟨w.heap.size, 0, none⟩ = some (.func (.func K) #[] cap)) := Lib.hid fun a h => ⟨(hR0.below h).cell 0, (hKb.under h).cell 0⟩
      have HPB : Hid (∀ a : World, Below w1.heap.size w1 a → Calls Tryz.prog K (#[bv b] ++ cap) a fun e w'' => e = .returned (.bool _) ∧ Below a.heap.size a w'') := Lib.hid fun a h => HF.out a (hb0.next h (Nat.le_refl _))
      have HNX : Hid (∀ a : World, Calls Tryz.prog 34 #[.agg #[.string (File.ba (b :: r))]] a fun e w' => e = .returned (bv b) ∧ Below a.heap.size a w') := Lib.hid fun a => next_spec (b :: r) a
      refine wp_havoc_lit (by kernel_rfl) (by kernel_rfl) ?_
      repeat (first
        | (refine hv_skip (by rfl) ?_; simp only [Act.put, List.setIfInBounds_toArray, List.set_cons_zero, List.set_cons_succ])
        | (apply hv_val (by rfl); (intro w hw; have F := HFF.out w hw; go_simp; exact rfl); simp only [Act.put, List.setIfInBounds_toArray, List.set_cons_zero, List.set_cons_succ])
        | (apply hv_call (by rfl); (intro w hw; have F := HFF.out w hw; go_simp; exact ⟨rfl, rfl⟩); (intro w hw; have F := HFF.out w hw; with_reducible exact HNX.out w); simp only [Act.put, List.setIfInBounds_toArray, List.set_cons_zero, List.set_cons_succ])
        | (apply hv_call (by rfl); (intro w hw; have F := HFF.out w hw; go_simp; exact ⟨rfl, rfl⟩); (intro w hw; have F := HFF.out w hw; with_reducible exact HPB.out w hw); simp only [Act.put, List.setIfInBounds_toArray, List.set_cons_zero, List.set_cons_succ]))
      refine hv_nil ?_
      rintro w2 hb2
    · go_wp2_with fail
      go_ret
      exact ⟨rfl, hR0.below hb2, Only.of_below (hb0.next hb2 (Nat.le_refl _)) (Nat.le_of_lt hgl)⟩
    · have hR2 := hR0.below hb2
      have m0 := hR2.cell 0
      have m1 := hR2.cell 1
      have m2 := hR2.lt
      have m3 := hR2.frozen
      have HR2 := Lib.hid hR2
      have HB2 := Lib.hid (hb0.next hb2 (Nat.le_refl _))
      clear hR2 hR0 hKb hb0 hb2 HFF HPB HF
      go_upto_region 3 with fail
      have hRf : RD ((w2.setCell ⟨g, 0, none⟩ (.string (File.ba r))).setCell ⟨g, 1, none⟩ (.int .i64 ((k : Int) + 1))).drew g r (k + 1) := by
        have := (Blk.set_ HR2.out 0 (.string (File.ba r))).set_ 1 (.int .i64 ((k : Int) + 1))
        exact this
      have hO : Only g w ((w2.setCell ⟨g, 0, none⟩ (.string (File.ba r))).setCell ⟨g, 1, none⟩ (.int .i64 ((k : Int) + 1))).drew :=
        (((Only.of_below HB2.out (Nat.le_of_lt hgl)).trans (Only.set_ g 0 _ _)).trans (Only.set_ g 1 _ _)).drew
      have HRf := Lib.hid hRf
      have HO := Lib.hid hO
      clear hRf hO
      go_region
      go_wp2_with fail
      go_ret
      exact ⟨rfl, HRf.out, HO.out⟩
theorem digitPred (l : List UInt8) (w : World) : ∀ b r, l = b :: r → ∀ w', Below w.heap.size w w' → Calls Tryz.prog 35 (#[bv b] ++ #[]) w' fun e w'' => e = .returned (.bool (File.isDig b)) ∧ Below w'.heap.size w' w'' :=
  fun b _ _ w' _ => (digit_spec b w').mono fun _ _ h => ⟨h.1, h.2 ▸ Below.refl _ _⟩
theorem okPred (l : List UInt8) (w : World) : ∀ b r, l = b :: r → ∀ w', Below w.heap.size w w' → Calls Tryz.prog 63 (#[bv b] ++ #[]) w' fun e w'' => e = .returned (.bool (File.okB b)) ∧ Below w'.heap.size w' w'' :=
  fun b _ _ w' _ => (line1_spec b w').mono fun _ _ h => ⟨h.1, h.2 ▸ Below.refl _ _⟩
theorem onePred (l : List UInt8) (a : UInt8) (g : Nat) (w : World) (hB : Blk w g 5 #[bv a]) : ∀ b r, l = b :: r → ∀ w', Below w.heap.size w w' → Calls Tryz.prog 64 (#[bv b] ++ #[.pointer (some ⟨g, 0, none⟩)]) w' fun e w'' => e = .returned (.bool (b == a)) ∧ Below w'.heap.size w' w'' :=
  fun b _ _ w' hw' => one1_spec a b g w' (hB.under hw')
theorem takeDigit (g k : Nat) (l : List UInt8) (w : World) (hR : RD w g l k) (hk : k + l.length ≤ 4611686018427387904) :
    Calls Tryz.prog 33 #[.pointer (some ⟨g, 0, none⟩), .agg #[.func (.func 35) #[] #[]]] w fun e w' => e = .returned (.bool (File.takes File.isDig l)) ∧ RD w' g (File.rest File.isDig l) (File.on File.isDig l k) ∧ Only g w w' :=
  take_spec g k l 35 #[] File.isDig w hR hk (callFunc_run (by kernel_rfl)) (digitPred l w)
theorem takeOk (g k : Nat) (l : List UInt8) (w : World) (hR : RD w g l k) (hk : k + l.length ≤ 4611686018427387904) :
    Calls Tryz.prog 33 #[.pointer (some ⟨g, 0, none⟩), .agg #[.func (.func 63) #[] #[]]] w fun e w' => e = .returned (.bool (File.takes File.okB l)) ∧ RD w' g (File.rest File.okB l) (File.on File.okB l k) ∧ Only g w w' :=
  take_spec g k l 63 #[] File.okB w hR hk (callFunc_run (by kernel_rfl)) (okPred l w)
theorem takeOne (a : UInt8) (q g k : Nat) (l : List UInt8) (w : World) (hR : RD w g l k) (hk : k + l.length ≤ 4611686018427387904) (hB : Blk w q 5 #[bv a]) :
    Calls Tryz.prog 33 #[.pointer (some ⟨g, 0, none⟩), .agg #[.func (.func 64) #[] #[.pointer (some ⟨q, 0, none⟩)]]] w fun e w' => e = .returned (.bool (File.takes (· == a) l)) ∧ RD w' g (File.rest (· == a) l) (File.on (· == a) l k) ∧ Only g w w' :=
  take_spec g k l 64 #[.pointer (some ⟨q, 0, none⟩)] (· == a) w hR hk (callFunc_run (by kernel_rfl)) (onePred l a q w hB)
end Fl
end Go.Proofs.YtlpoiggdjggkiaaGreatDoor
end
section
namespace Go.Proofs.YtlpoiggdjggkiaaGreatDoor
open Go.RowKit
/-- What is known of an operation's value: by the values of those that it depends on, and memory. -/
abbrev Spec := (Nat → Value) → Value → World → Prop
def GivesF (P : Program) (r : Result Next) (K : Value → World → Prop) : Prop :=
  match r with
  | .ok (.value u) w' => K u w'
  | .ok .skip w' => K undef w'
  | .ok (.enter f args) w' => Calls P f args w' fun e w'' => ∃ u, e = .returned u ∧ K u w''
  | _ => False
def StepG (P : Program) (ops : Array Oper) (o : Oper) (a : Act) (w : World) (K : Value → World → Prop) : Prop :=
  if Region.wanted o (yielded ops a.tmps) = true then GivesF P ((execOp a.eval o).run P w) K else K undef w
/-- The like as a structure: no tactic looks behind it by itself (a run that is looked into costs minutes where a function has many slots). -/
structure StepF (P : Program) (ops : Array Oper) (o : Oper) (a : Act) (w : World) (K : Value → World → Prop) : Prop where
  out : StepG P ops o a w K
theorem givesF_wp {P : Program} {o : Oper} {a : Act} {w : World} {K0 : Value → World → Prop} {K : Act → World → Prop} {Q : Exit → Act → World → Prop}
    (h : GivesF P ((execOp a.eval o).run P w) K0) (hK : ∀ u w', K0 u w' → K (a.put o.dst u) w') : o.wp P a w K Q := by
  unfold Oper.wp
  generalize (execOp a.eval o).run P w = r at h
  match r, h with
  | .ok (.value u) w', h => exact hK u w' h
  | .ok .skip w', h => exact hK undef w' h
  | .ok (.enter f args) w', h =>
    refine Calls.mono (P := P) h ?_
    rintro e w'' ⟨u, rfl, hu⟩
    exact hK u w'' hu
/-- The frame behind the first i operations. -/
def frameF : List Oper → Nat → (Nat → Value) → Act → Act
  | [], _, _, a => a
  | o :: l, i, v, a => frameF l (i + 1) v (a.put o.dst (v i))
theorem frameF_snoc (v : Nat → Value) : ∀ (l : List Oper) (i : Nat) (a : Act) (o : Oper), frameF (l ++ [o]) i v a = (frameF l i v a).put o.dst (v (i + l.length)) := by
  intro l
  induction l with
  | nil => intro i a o; rfl
  | cons x l ih => intro i a o; simp only [List.cons_append, frameF, ih, List.length_cons]; rw [show i + 1 + l.length = i + (l.length + 1) by omega]
/-- All that an operation depends on is known. -/
def Known (ops : Array Oper) (sp : Nat → Spec) (i : Nat) (v : Nat → Value) (w : World) : Prop := ∀ j, ((masks ops.toList).getD i 0).testBit j = true → sp j v (v j) w
structure FreeOp (P : Program) (ops : Array Oper) (a₀ : Act) (R : Nat → World → Prop) (S : World → World → Prop) (sp : Nat → Spec) (i : Nat) (o : Oper) : Prop where
  congr : ∀ v v' u w, (∀ j, ((masks ops.toList).getD i 0).testBit j = true → v j = v' j) → sp i v u w → sp i v' u w
  stable : ∀ v u w w', sp i v u w → S w w' → sp i v u w'
  step : ∀ v n w, n < ops.size → R n w → Known ops sp i v w → StepF P ops o (frameF (ops.toList.take i) 0 v a₀) w fun u w' => sp i v u w' ∧ S w w' ∧ R (n + 1) w'
def tailOk (ops : Array Oper) (m : Nat) : Bool := (List.range ops.size).all fun i => decide (i < m) || (List.range i).all fun j => ((masks ops.toList).getD i 0).testBit j
theorem tailOk_spec {ops : Array Oper} {m : Nat} (h : tailOk ops m = true) {i j : Nat} (hi : i < ops.size) (hm : m ≤ i) (hj : j < i) : ((masks ops.toList).getD i 0).testBit j = true := by
  simp only [tailOk, List.all_eq_true, List.mem_range, Bool.or_eq_true, decide_eq_true_eq] at h
  rcases h i hi with h | h
  · omega
  · exact h j hj
section
variable {ops : Array Oper}
theorem frameF_agrees (h : drawOk ops = true) (a₀ : Act) (v : Nat → Value) : ∀ i, i ≤ ops.size → Agrees ops a₀ v (fun j => j < i) (frameF (ops.toList.take i) 0 v a₀) := by
  intro i
  induction i with
  | zero => intro _; rw [List.take_zero]; exact ⟨rfl, rfl, fun _ _ _ _ _ h => absurd h (Nat.not_lt_zero _), fun _ _ => rfl⟩
  | succ i ih =>
    intro hi
    have hoi : ops.toList[i]? = some (ops.toList[i]'(by simp; omega)) := List.getElem?_eq_getElem _
    rw [take_at hoi, frameF_snoc, List.length_take, Nat.zero_add, Nat.min_eq_left (by simp; omega)]
    exact (ih (by omega)).put h hoi fun j => by omega
/-- The last operations, one by one. -/
theorem tail_any (h : drawOk ops = true) {m : Nat} (ht : tailOk ops m = true) {P : Program} {Q : Exit → Act → World → Prop} :
    ∀ (fuel i : Nat) (listed : Array Bool) (a : Act) (w : World), listed.size = ops.size → m ≤ i → i ≤ ops.size → (∀ j, listed.getD j false = true ↔ j < i) → ops.size - i ≤ fuel → wpList P ops Q (ops.toList.drop i) a w → wpAny P .any ops Q fuel listed a w := by
  have hready : ∀ (listed : Array Bool) (i : Nat), m ≤ i → (∀ j, listed.getD j false = true ↔ j < i) → ∀ k ∈ Region.ready .any ops listed, k = i := by
    intro listed i hmi hl k hk
    obtain ⟨ok, hok, hkl, hka⟩ := ready_mem hk
    have hks : k < ops.size := by have := (List.getElem?_eq_some_iff.1 hok).1; simpa using this
    have hki : ¬ k < i := fun hlt => by
      have h1 := (hl k).2 hlt
      have hb : k < listed.size := by
        false_or_by_contra
        rename_i hno
        simp [Array.getD, hno] at h1
      simp [Array.getD, hb] at hkl h1
      rw [hkl] at h1; cases h1
    false_or_by_contra
    rename_i hne
    have hbit := tailOk_spec ht hks (by omega) (show i < k by omega)
    have hsh : Shut ops (fun j => j < i) := by
      intro x ox hx hxi e he hb
      have := (drawOk_spec h).2.1 x ox hx e he hb
      omega
    have := mask_in h hsh (k + 1) k ok (by omega) hok (fun e he hb => (hl _).1 (hka e he hb)) i hbit
    omega
  intro fuel
  induction fuel with
  | zero =>
    intro i listed a w hsz hmi hil hl hf hw
    have hi : i = ops.size := by omega
    have hr : Region.ready .any ops listed = [] := by
      apply List.eq_nil_iff_forall_not_mem.2
      intro k hk
      have := hready listed i hmi hl k hk
      obtain ⟨ok, hok, _, _⟩ := ready_mem hk
      have hks : k < ops.size := by have := (List.getElem?_eq_some_iff.1 hok).1; simpa using this
      omega
    rw [hi, List.drop_of_length_le (by simp)] at hw
    exact ⟨hr, hw⟩
  | succ fuel ih =>
    intro i listed a w hsz hmi hil hl hf hw
    by_cases hi : i = ops.size
    · refine ⟨fun _ => ?_, fun k hk => ?_⟩
      · rw [hi, List.drop_of_length_le (by simp)] at hw
        exact hw
      · have := hready listed i hmi hl k hk
        obtain ⟨ok, hok, _, _⟩ := ready_mem hk
        have hks : k < ops.size := by have := (List.getElem?_eq_some_iff.1 hok).1; simpa using this
        omega
    · have hlt : i < ops.size := by omega
      have hoi : ops.toList[i]? = some ops[i] := by simp [hlt]
      rw [drop_at hoi] at hw
      refine ⟨fun hr => ?_, fun k hk => ?_⟩
      · exfalso
        have hmem : i ∈ Region.ready .any ops listed := by
          simp only [Region.ready, List.mem_filter, List.mem_range, Bool.and_eq_true, Bool.not_eq_true']
          refine ⟨hlt, ?_, ?_⟩
          · have hn : ¬ listed.getD i false = true := fun hh => absurd ((hl i).1 hh) (Nat.lt_irrefl _)
            have hb : i < listed.size := by omega
            simp [Array.getD, hb] at hn ⊢
            exact hn
          · rw [Array.getElem?_eq_getElem hlt]
            simp only [Option.map_some, Option.getD_some, Array.all_eq_true_iff_forall_mem]
            intro e he
            by_cases hb : Region.binds .any e = true
            · have := (drawOk_spec h).2.1 i ops[i] hoi e (by simpa using he) hb
              simp [(hl e.on).2 this]
            · simp [hb]
        rw [hr] at hmem
        cases hmem
      · obtain rfl := hready listed i hmi hl k hk
        unfold wpOp
        rw [show ops[k]? = some ops[k] by simp [hlt]]
        simp only [wpList] at hw ⊢
        have hset := fun j => getD_set listed k j (by omega)
        have hnext : ∀ a w, wpList P ops Q (ops.toList.drop (k + 1)) a w → wpAny P .any ops Q fuel (listed.setIfInBounds k true) a w := fun a w hh =>
          ih (k + 1) _ a w (by simpa using hsz) (by omega) (by omega) (fun j => by rw [hset, hl]; omega) (by omega) hh
        split
        · rename_i hwt
          rw [if_pos hwt] at hw
          rcases hw with hw | hw
          · exact .inl (Oper.wp_mono (fun a w hh => hnext a w hh) hw)
          · exact .inr hw
        · rename_i hwt
          rw [if_neg hwt] at hw
          exact hnext _ _ hw
theorem Agrees.swap {a₀ a : Act} {v v' : Nat → Value} {T : Nat → Prop} (ha : Agrees ops a₀ v T a) (hv : ∀ i, T i → v i = v' i) : Agrees ops a₀ v' T a :=
  ⟨ha.defers, ha.size, fun i oi d h1 h2 h3 h4 => by rw [← hv i h3]; exact ha.hit i oi d h1 h2 h3 h4, ha.miss⟩
theorem count_split : ∀ (l : List Bool) (m : Nat), m ≤ l.length → (∀ j, j < l.length → (l[j]? = some true ↔ j < m)) → l.count false = l.length - m := by
  intro l
  induction l with
  | nil => intro m _ _; simp
  | cons x l ih =>
    intro m hm h
    have h0 := h 0 (by simp)
    simp only [List.getElem?_cons_zero, Option.some.injEq] at h0
    cases m with
    | zero =>
      have hx : x = false := by
        cases x
        · rfl
        · exact absurd (h0.1 rfl) (by omega)
      subst hx
      have := ih 0 (Nat.zero_le _) fun j hj => by
        have := h (j + 1) (by simpa using hj)
        simpa using this
      simp [this]
    | succ m =>
      have hx : x = true := h0.2 (by omega)
      subst hx
      have := ih m (by simpa using hm) fun j hj => by
        have := h (j + 1) (by simpa using hj)
        simpa using this
      simp [this]
theorem free_any (h : drawOk ops = true) {m : Nat} (ht : tailOk ops m = true) (hm : m ≤ ops.size) {P : Program} {Q : Exit → Act → World → Prop} {a₀ : Act} {R : Nat → World → Prop} {S : World → World → Prop} {sp : Nat → Spec}
    (hop : ∀ i o, ops.toList[i]? = some o → i < m → FreeOp P ops a₀ R S sp i o)
    (hend : ∀ v n w, n ≤ ops.size → R n w → (∀ j, j < m → sp j v (v j) w) → wpList P ops Q (ops.toList.drop m) (frameF (ops.toList.take m) 0 v a₀) w) :
    ∀ (fuel : Nat) (listed : Array Bool) (a : Act) (w : World) (v : Nat → Value) (n : Nat), listed.size = ops.size → (∀ j, listed.getD j false = true → j < m) → Shut ops (fun i => listed.getD i false = true) → listed.toList.count false ≤ fuel →
      Agrees ops a₀ v (fun i => listed.getD i false = true) a → (∀ j, listed.getD j false = true → sp j v (v j) w) → R n w → n + listed.toList.count false = ops.size → wpAny P .any ops Q fuel listed a w := by
  have hall : ∀ (fuel : Nat) (listed : Array Bool) (a : Act) (w : World) (v : Nat → Value) (n : Nat), listed.size = ops.size → (∀ j, listed.getD j false = true ↔ j < m) → listed.toList.count false ≤ fuel →
      Agrees ops a₀ v (fun i => listed.getD i false = true) a → (∀ j, listed.getD j false = true → sp j v (v j) w) → R n w → n ≤ ops.size → wpAny P .any ops Q fuel listed a w := by
    intro fuel listed a w v n hsz hl hf ha hsp hR hnn
    have hc : listed.toList.count false = listed.toList.length - m := count_split _ m (by simp; omega) fun j hj => by
      rw [← hl j]
      have hb : j < listed.size := by simpa using hj
      simp [Array.getD, hb]
    have hEq : a = frameF (ops.toList.take m) 0 v a₀ := by
      have hcN := frameF_agrees h a₀ v m hm
      have h1 : a.tmps = (frameF (ops.toList.take m) 0 v a₀).tmps := Array.ext_getElem? fun d => ha.same h hcN d fun i oi _ _ => hl i
      have h2 : a.defers = (frameF (ops.toList.take m) 0 v a₀).defers := ha.defers.trans hcN.defers.symm
      cases a; cases hcc : frameF (ops.toList.take m) 0 v a₀; rw [hcc] at h1 h2; simp_all
    refine tail_any h ht fuel m listed a w hsz (Nat.le_refl _) hm hl (by rw [hc] at hf; simp at hf; omega) ?_
    rw [hEq]
    exact hend v n w hnn hR fun j hj => hsp j ((hl j).2 hj)
  intro fuel
  induction fuel with
  | zero =>
    intro listed a w v n hsz hlm hshut hfuel ha hsp hR hcnt
    refine hall 0 listed a w v n hsz (fun j => ⟨hlm j, fun hj => ?_⟩) hfuel ha hsp hR (by omega)
    have hb : j < listed.size := by omega
    have h0 : listed.toList.count false = 0 := by omega
    have hne : listed[j] ≠ false := fun e => by
      have : 0 < listed.toList.count false := List.count_pos_iff.2 (by rw [← e]; simp)
      omega
    simp [Array.getD, hb]
    simpa using hne
  | succ fuel ih =>
    intro listed a w v n hsz hlm hshut hfuel ha hsp hR hcnt
    by_cases hdone : ∀ j, j < m → listed.getD j false = true
    · exact hall _ listed a w v n hsz (fun j => ⟨hlm j, hdone j⟩) hfuel ha hsp hR (by omega)
    · obtain ⟨j0, hj0, hjl⟩ : ∃ j, j < m ∧ ¬ listed.getD j false = true := by
        false_or_by_contra
        rename_i hno
        exact hdone fun j hj => Decidable.byContradiction fun hn => hno ⟨j, hj, hn⟩
      have hmask : ∀ i oi, ops.toList[i]? = some oi → (∀ e ∈ oi.after.toList, Region.binds .any e = true → listed.getD e.on false = true) → ∀ j, ((masks ops.toList).getD i 0).testBit j = true → listed.getD j false = true :=
        fun i oi hoi hafter j hb => mask_in h hshut (i + 1) i oi (by omega) hoi hafter j hb
      refine ⟨fun hr => ?_, fun i hi => ?_⟩
      · exfalso
        -- the least one that is not listed is ready
        have : ∀ k j, j < k → j < m → listed.getD j false = true := by
          intro k
          induction k with
          | zero => intro j hj; omega
          | succ k ihk =>
            intro j hjk hjm
            by_cases hl : listed.getD j false = true
            · exact hl
            · exfalso
              have hjs : j < ops.size := by omega
              have hmem : j ∈ Region.ready .any ops listed := by
                simp only [Region.ready, List.mem_filter, List.mem_range, Bool.and_eq_true, Bool.not_eq_true']
                refine ⟨hjs, ?_, ?_⟩
                · have hb : j < listed.size := by omega
                  simp [Array.getD, hb] at hl ⊢
                  exact hl
                · rw [Array.getElem?_eq_getElem hjs]
                  simp only [Option.map_some, Option.getD_some, Array.all_eq_true_iff_forall_mem]
                  intro e he
                  by_cases hb : Region.binds .any e = true
                  · have hlt := (drawOk_spec h).2.1 j ops[j] (by simp [hjs]) e (by simpa using he) hb
                    simp [ihk e.on (by omega) (by omega)]
                  · simp [hb]
              rw [hr] at hmem
              cases hmem
        exact hjl (this (j0 + 1) j0 (by omega) hj0)
      · obtain ⟨oi, hoi, hl, hafter⟩ := ready_mem hi
        have hio : i < ops.size := by have := (List.getElem?_eq_some_iff.1 hoi).1; omega
        have hil : i < listed.size := by omega
        have hunl : ¬ listed.getD i false = true := by
          simp [Array.getD, hil] at hl ⊢
          exact hl
        have him : i < m := by
          false_or_by_contra
          rename_i hno
          exact hjl (hmask i oi hoi hafter j0 (tailOk_spec ht hio (by omega) (by omega)))
        have hset := fun k => getD_set listed i k hil
        have hshut' : Shut ops (fun j => (listed.setIfInBounds i true).getD j false = true) := by
          intro j oj hj hTj e he hb
          rcases (hset j).1 hTj with hTj | rfl
          · exact (hset _).2 (.inl (hshut j oj hj hTj e he hb))
          · rw [hoi] at hj; injection hj with hj; subst hj
            exact (hset _).2 (.inl (hafter e he hb))
        obtain ⟨hcount, hcnt', hn⟩ : (listed.setIfInBounds i true).toList.count false ≤ fuel ∧ n + 1 + (listed.setIfInBounds i true).toList.count false = ops.size ∧ n < ops.size := by
          have hli : listed.toList[i]'(by simpa using hil) = false := by
            have : listed[i] = false := by simpa [Array.getD, hil] using hl
            simpa using this
          have hm : 0 < listed.toList.count false := List.count_pos_iff.2 (by rw [← hli]; simp)
          rw [Array.toList_setIfInBounds, List.count_set (by simpa using hil), hli]
          simp only [beq_self_eq_true, if_true, show (true == false) = false from rfl, Bool.false_eq_true, if_false]
          omega
        have hlooks : ∀ d ∈ oi.looksAt ops, ∀ j oj, ops.toList[j]? = some oj → oj.dst = some d → (listed.getD j false = true ↔ j < i) := by
          intro d hd j oj hj hjd
          by_cases hji : j = i
          · subst hji
            exact ⟨fun h => absurd h hunl, fun h => absurd h (Nat.lt_irrefl _)⟩
          · have := ((drawOk_spec h).2.2 i j oi oj d hoi hj hji hjd).2 hd
            by_cases hlt : j < i
            · rw [if_pos hlt] at this
              exact ⟨fun _ => hlt, fun _ => hmask i oi hoi hafter j this⟩
            · rw [if_neg hlt] at this
              exact ⟨fun hTj => absurd (mask_in h hshut (j + 1) j oj (by omega) hj (fun e he hb => hshut j oj hj hTj e he hb) i this) hunl, fun h => absurd h hlt⟩
        obtain ⟨he, hwn⟩ := step_alike h ha (frameF_agrees h a₀ v i (by omega)) hoi hlooks
        have hF := hop i oi hoi him
        have hs := (hF.step v n w hn hR fun j hb => hsp j (hmask i oi hoi hafter j hb)).out
        have hnext : ∀ u w', (sp i v u w' ∧ S w w' ∧ R (n + 1) w') → wpAny P .any ops Q fuel (listed.setIfInBounds i true) (a.put oi.dst u) w' := by
          rintro u w' ⟨h1, h2, h3⟩
          have hv : ∀ j, listed.getD j false = true → v j = (fun k => if k = i then u else v k) j := fun j hj => by
            have : j ≠ i := fun e => hunl (e ▸ hj)
            simp [this]
          have hput := (ha.swap hv).put h hoi hset
          rw [if_pos (rfl : i = i)] at hput
          refine ih _ _ w' (fun k => if k = i then u else v k) (n + 1) (by simpa using hsz) (fun j hj => ?_) hshut' hcount hput (fun j hj => ?_) h3 hcnt'
          · rcases (hset j).1 hj with hj | rfl
            · exact hlm j hj
            · exact him
          · rcases (hset j).1 hj with hj | rfl
            · have hjs : j < ops.size := Nat.lt_of_lt_of_le (hlm j hj) hm
              have hoj : ops.toList[j]? = some ops[j] := by simp [hjs]
              have hFj := hop j _ hoj (hlm j hj)
              have hji : j ≠ i := fun e => hunl (e ▸ hj)
              show sp j _ (if j = i then u else v j) w'
              rw [if_neg hji]
              exact hFj.congr v _ _ _ (fun k hk => hv k (hmask j _ hoj (fun e he hb => hshut j _ hoj hj e he hb) k hk)) (hFj.stable _ _ _ _ (hsp j hj) h2)
            · show sp j _ (if j = j then u else v j) w'
              rw [if_pos (rfl : j = j)]
              exact hF.congr v _ _ _ (fun k hk => hv k (hmask j oi hoi hafter k hk)) h1
        unfold wpOp
        rw [show ops[i]? = some oi by simpa using hoi]
        simp only
        unfold StepG at hs
        rw [← hwn] at hs
        split
        · rename_i hwt
          rw [if_pos hwt, ← he] at hs
          exact .inl (givesF_wp hs hnext)
        · rename_i hwt
          rw [if_neg hwt] at hs
          exact hnext _ _ hs
/-- The law. -/
theorem wp_free {P : Program} {Q : Exit → Act → World → Prop} {id : Nat} {a : Act} {w : World} (hmx : P.follows .mixedOrders = true) (h : drawOk ops = true) (m : Nat) (ht : tailOk ops m = true) (hm : m ≤ ops.size) (R : Nat → World → Prop) (S : World → World → Prop) (sp : Nat → Spec)
    (hR : R 0 w.drew) (hop : ∀ i o, ops.toList[i]? = some o → i < m → FreeOp P ops a R S sp i o)
    (hend : ∀ v n w, n ≤ ops.size → R n w → (∀ j, j < m → sp j v (v j) w) → wpList P ops Q (ops.toList.drop m) (frameF (ops.toList.take m) 0 v a) w) : (Code.region id ops true).wp P Q a w := by
  refine wp_region_any hmx ?_
  refine free_any h ht hm hop hend ops.size _ a _ (fun _ => undef) 0 (by simp) ?_ ?_ (by simp) ?_ ?_ hR (by simp)
  · intro j hj; simp [Array.getD] at hj
  · intro i oi hi hT; simp [Array.getD] at hT
  · refine ⟨rfl, rfl, fun i oi d hi hd hT => ?_, fun _ _ => rfl⟩
    simp [Array.getD] at hT
  · intro j hj; simp [Array.getD] at hj
def HopL (P : Program) (ops : Array Oper) (a₀ : Act) (R : Nat → World → Prop) (S : World → World → Prop) (sp : Nat → Spec) : Nat → List Oper → Prop
  | _, [] => True
  | i, o :: l => FreeOp P ops a₀ R S sp i o ∧ HopL P ops a₀ R S sp (i + 1) l
theorem hop_from {P : Program} {a₀ : Act} {R : Nat → World → Prop} {S : World → World → Prop} {sp : Nat → Spec} : ∀ (l : List Oper) (k : Nat), HopL P ops a₀ R S sp k l → ∀ i o, l[i]? = some o → FreeOp P ops a₀ R S sp (k + i) o := by
  intro l
  induction l with
  | nil => intro k _ i o h; simp at h
  | cons x l ih =>
    rintro k ⟨h1, h2⟩ i o h
    cases i with
    | zero => simp at h; subst h; exact h1
    | succ i => rw [show k + (i + 1) = k + 1 + i by omega]; exact ih _ h2 i o (by simpa using h)
theorem hop_of {P : Program} {a₀ : Act} {R : Nat → World → Prop} {S : World → World → Prop} {sp : Nat → Spec} {m : Nat} (h : HopL P ops a₀ R S sp 0 (ops.toList.take m)) : ∀ i o, ops.toList[i]? = some o → i < m → FreeOp P ops a₀ R S sp i o := fun i o hi hm => by
  have := hop_from _ 0 h i o (by rw [List.getElem?_take_of_lt hm]; exact hi)
  rwa [Nat.zero_add] at this
theorem wp_free_lit {P : Program} {Q : Exit → Act → World → Prop} {id : Nat} {a : Act} {w : World} {l : List Oper} (hmx : P.follows .mixedOrders = true) (m : Nat) (h : drawOk l.toArray = true) (ht : tailOk l.toArray m = true) (hm : m ≤ l.length) (R : Nat → World → Prop) (S : World → World → Prop) (sps : List Spec)
    (hR : R 0 w.drew) (hop : HopL P l.toArray a R S (fun i => sps.getD i fun _ _ _ => True) 0 (l.take m))
    (hend : ∀ v n w, n ≤ l.length → R n w → (∀ j, j < m → (sps.getD j fun _ _ _ => True) v (v j) w) → wpList P l.toArray Q (l.drop m) (frameF (l.take m) 0 v a) w) : (Code.region id l.toArray true).wp P Q a w :=
  wp_free hmx h m ht (by simpa using hm) R S _ hR (hop_of (by simpa using hop)) (by simpa using hend)
/-- Where an operation's run gives a value and leaves memory alone. -/
theorem stepF_val {P : Program} {o : Oper} {a : Act} {w : World} {K : Value → World → Prop} {u : Value} (hw : Region.wanted o (yielded ops a.tmps) = true) (hr : (execOp a.eval o).run P w = .ok (.value u) w) (hK : K u w) : StepF P ops o a w K := by
  refine ⟨?_⟩; unfold StepG; rw [hw, if_pos rfl, hr]; exact hK
theorem stepF_new {P : Program} {o : Oper} {a : Act} {w w' : World} {K : Value → World → Prop} {u : Value} (hw : Region.wanted o (yielded ops a.tmps) = true) (hr : (execOp a.eval o).run P w = .ok (.value u) w') (hK : K u w') : StepF P ops o a w K := by
  refine ⟨?_⟩; unfold StepG; rw [hw, if_pos rfl, hr]; exact hK
theorem stepF_call {P : Program} {o : Oper} {a : Act} {w : World} {K : Value → World → Prop} {f : FuncId} {args : Array Value} {post : Ending → World → Prop} (hw : Region.wanted o (yielded ops a.tmps) = true) (hr : (execOp a.eval o).run P w = .ok (.enter f args) w) (hc : Calls P f args w post)
    (hK : ∀ e w', post e w' → ∃ u, e = .returned u ∧ K u w') : StepF P ops o a w K := by
  refine ⟨?_⟩; unfold StepG; rw [hw, if_pos rfl, hr]; exact Calls.mono (P := P) hc hK
theorem Known.at {sp : Nat → Spec} {i : Nat} {v : Nat → Value} {w : World} (hk : Known ops sp i v w) (j : Nat) (h : ((masks ops.toList).getD i 0).testBit j = true := by kernel_rfl) : sp j v (v j) w := hk j h
/-- The usual proofs of an operation's parts are defaults. -/
theorem fv {P : Program} {a₀ : Act} {R : Nat → World → Prop} {S : World → World → Prop} {sp : Nat → Spec} {i : Nat} {o : Oper}
    (h : ∀ v n w, n < ops.size → R n w → Known ops sp i v w → StepF P ops o (frameF (ops.toList.take i) 0 v a₀) w fun u w' => sp i v u w' ∧ S w w' ∧ R (n + 1) w')
    (hs : ∀ v u w w', sp i v u w → S w w' → sp i v u w' := by exact fun _ _ _ _ h _ => h)
    (hc : ∀ v v' u w, (∀ j, ((masks ops.toList).getD i 0).testBit j = true → v j = v' j) → sp i v u w → sp i v' u w := by exact fun _ _ _ _ _ h => h) : FreeOp P ops a₀ R S sp i o := ⟨hc, hs, h⟩
end
end Go.Proofs.YtlpoiggdjggkiaaGreatDoor
end
section
namespace Go.Proofs.YtlpoiggdjggkiaaGreatDoor
namespace File
set_option linter.unusedSectionVars false
section
variable {α : Type} [DecidableEq α]
def lcsGo (x : α) (g : List α → Nat) : List α → Nat
  | [] => 0
  | y :: ys => if x = y then max (max (g (y :: ys)) (lcsGo x g ys)) (g ys + 1) else max (g (y :: ys)) (lcsGo x g ys)
/-- How many common pairs two lists have at most. -/
def lcs : List α → List α → Nat
  | [] => fun _ => 0
  | x :: xs => lcsGo x (lcs xs)
theorem lcs_cons (x y : α) (xs ys : List α) : lcs (x :: xs) (y :: ys) = if x = y then max (max (lcs xs (y :: ys)) (lcs (x :: xs) ys)) (lcs xs ys + 1) else max (lcs xs (y :: ys)) (lcs (x :: xs) ys) := rfl
theorem lcs_nil (a : List α) : lcs a [] = 0 := by cases a <;> rfl
theorem lcs_left (x : α) (a b : List α) : lcs a b ≤ lcs (x :: a) b := by
  cases b with
  | nil => rw [lcs_nil]; exact Nat.zero_le _
  | cons y ys => rw [lcs_cons]; split <;> omega
theorem lcs_right (y : α) (a b : List α) : lcs a b ≤ lcs a (y :: b) := by
  cases a with
  | nil => exact Nat.zero_le _
  | cons x xs => rw [lcs_cons]; split <;> omega
theorem lcs_most : ∀ (a b : List α), lcs a b ≤ a.length := by
  intro a
  induction a with
  | nil => intro b; exact Nat.zero_le _
  | cons x xs ih =>
    intro b
    induction b with
    | nil => rw [lcs_nil]; exact Nat.zero_le _
    | cons y ys ihb =>
      have h1 := ih (y :: ys)
      have h2 := ih ys
      rw [lcs_cons]
      simp only [List.length_cons] at *
      split <;> omega
/-- As many from two positions on. -/
def from_ (a b : List α) (i j : Nat) : Nat := lcs (a.drop i) (b.drop j)
theorem from_step {a b : List α} {i j : Nat} (hi : i < a.length) (hj : j < b.length) :
    from_ a b i j = if a[i] = b[j] then max (max (from_ a b (i + 1) j) (from_ a b i (j + 1))) (from_ a b (i + 1) (j + 1) + 1) else max (from_ a b (i + 1) j) (from_ a b i (j + 1)) := by
  unfold from_
  rw [List.drop_eq_getElem_cons hi, List.drop_eq_getElem_cons hj, lcs_cons]
theorem from_endA {a b : List α} {i j : Nat} (h : a.length ≤ i) : from_ a b i j = 0 := by
  unfold from_; rw [List.drop_eq_nil_of_le h]; rfl
theorem from_endB {a b : List α} {i j : Nat} (h : b.length ≤ j) : from_ a b i j = 0 := by
  unfold from_; rw [List.drop_eq_nil_of_le h, lcs_nil]
theorem from_le (a b : List α) (i j : Nat) : from_ a b i j ≤ a.length := by
  have := lcs_most (a.drop i) (b.drop j)
  rw [List.length_drop] at this
  unfold from_
  omega
theorem from_left (a b : List α) (i j : Nat) : from_ a b (i + 1) j ≤ from_ a b i j := by
  by_cases hi : i < a.length
  · unfold from_; rw [List.drop_eq_getElem_cons hi]; exact lcs_left _ _ _
  · rw [from_endA (by omega)]; exact Nat.zero_le _
theorem from_right (a b : List α) (i j : Nat) : from_ a b i (j + 1) ≤ from_ a b i j := by
  by_cases hj : j < b.length
  · unfold from_; rw [List.drop_eq_getElem_cons hj]; exact lcs_right _ _ _
  · rw [from_endB (by omega)]; exact Nat.zero_le _
theorem from_mono (a b : List α) {i j i' j' : Nat} (hi : i ≤ i') (hj : j ≤ j') : from_ a b i' j' ≤ from_ a b i j := by
  obtain ⟨d, rfl⟩ := Nat.exists_eq_add_of_le hi
  obtain ⟨e, rfl⟩ := Nat.exists_eq_add_of_le hj
  have h1 : from_ a b (i + d) (j + e) ≤ from_ a b i (j + e) := by
    clear hi hj
    induction d with
    | zero => exact Nat.le_refl _
    | succ d ih => exact Nat.le_trans (from_left a b (i + d) (j + e)) ih
  have h2 : from_ a b i (j + e) ≤ from_ a b i j := by
    clear h1 hi hj
    induction e with
    | zero => exact Nat.le_refl _
    | succ e ih => exact Nat.le_trans (from_right a b i (j + e)) ih
  exact Nat.le_trans h1 h2
/-- A list of common pairs, from two positions on. -/
def Pairs (a b : List α) : Nat → Nat → List (Nat × Nat) → Prop
  | _, _, [] => True
  | i, j, p :: r => i ≤ p.1 ∧ j ≤ p.2 ∧ (∃ h1 : p.1 < a.length, ∃ h2 : p.2 < b.length, a[p.1] = b[p.2]) ∧ Pairs a b (p.1 + 1) (p.2 + 1) r
theorem Pairs.weaken {a b : List α} : ∀ {l : List (Nat × Nat)} {i j i' j' : Nat}, Pairs a b i' j' l → i ≤ i' → j ≤ j' → Pairs a b i j l
  | [], _, _, _, _, _, _, _ => trivial
  | _ :: _, _, _, _, _, ⟨h1, h2, h3, h4⟩, hi, hj => ⟨Nat.le_trans hi h1, Nat.le_trans hj h2, h3, h4⟩
theorem from_pair {a b : List α} {x y : Nat} (h1 : x < a.length) (h2 : y < b.length) (h : a[x] = b[y]) : from_ a b (x + 1) (y + 1) + 1 ≤ from_ a b x y := by
  rw [from_step h1 h2, if_pos h]
  omega
theorem pairs_le {a b : List α} : ∀ (l : List (Nat × Nat)) (i j : Nat), Pairs a b i j l → l.length ≤ from_ a b i j := by
  intro l
  induction l with
  | nil => intro i j _; exact Nat.zero_le _
  | cons p r ih =>
    intro i j ⟨h1, h2, ⟨h3, h4, h5⟩, h6⟩
    have := ih _ _ h6
    have h7 := from_pair h3 h4 h5
    have h8 := from_mono a b h1 h2
    simp only [List.length_cons]
    omega
/-- Whether a pair can be the next one of as many as there can be. -/
def fits (a b : List α) (left i j : Nat) : Bool := match a[i]?, b[j]? with
  | some x, some y => decide (x = y) && decide (from_ a b (i + 1) (j + 1) + 1 = left)
  | _, _ => false
theorem fits_iff {a b : List α} {left i j : Nat} : fits a b left i j = true ↔ ∃ h1 : i < a.length, ∃ h2 : j < b.length, a[i] = b[j] ∧ from_ a b (i + 1) (j + 1) + 1 = left := by
  unfold fits
  by_cases h1 : i < a.length
  · by_cases h2 : j < b.length
    · simp [List.getElem?_eq_getElem h1, List.getElem?_eq_getElem h2, h1, h2]
    · simp [List.getElem?_eq_getElem h1, List.getElem?_eq_none (Nat.le_of_not_lt h2), h2]
  · simp [List.getElem?_eq_none (Nat.le_of_not_lt h1), h1]
def rowFirst (a b : List α) (left i : Nat) : Nat → Nat → Option Nat
  | 0, _ => none
  | n + 1, j => if fits a b left i j then some j else rowFirst a b left i n (j + 1)
def firstGo (a b : List α) (left j : Nat) : Nat → Nat → Option (Nat × Nat)
  | 0, _ => none
  | n + 1, i => match rowFirst a b left i (b.length - j) j with
    | some y => some (i, y)
    | none => firstGo a b left j n (i + 1)
/-- The first pair, from two positions on, behind which there are as many as there can be. -/
def first (a b : List α) (i j : Nat) : Option (Nat × Nat) := firstGo a b (from_ a b i j) j (a.length - i) i
def commonGo (a b : List α) : Nat → Nat → Nat → List (Nat × Nat)
  | 0, _, _ => []
  | n + 1, i, j => match first a b i j with
    | some p => p :: commonGo a b n (p.1 + 1) (p.2 + 1)
    | none => []
/-- The longest common pairs. -/
def common (a b : List α) : List (Nat × Nat) := commonGo a b (a.length + 1) 0 0
theorem rowFirst_some {a b : List α} {left i : Nat} : ∀ {n j y : Nat}, rowFirst a b left i n j = some y → j ≤ y ∧ y < j + n ∧ fits a b left i y = true ∧ ∀ k, j ≤ k → k < y → fits a b left i k = false := by
  intro n
  induction n with
  | zero => intro j y h; cases h
  | succ n ih =>
    intro j y h
    unfold rowFirst at h
    split at h
    · rename_i hf
      injection h with h
      subst h
      exact ⟨Nat.le_refl _, by omega, hf, fun k h1 h2 => absurd h2 (by omega)⟩
    · rename_i hf
      obtain ⟨h1, h2, h3, h4⟩ := ih h
      refine ⟨by omega, by omega, h3, fun k hk1 hk2 => ?_⟩
      by_cases hk : k = j
      · subst hk; simpa using hf
      · exact h4 k (by omega) hk2
theorem rowFirst_none {a b : List α} {left i : Nat} : ∀ {n j : Nat}, rowFirst a b left i n j = none → ∀ k, j ≤ k → k < j + n → fits a b left i k = false := by
  intro n
  induction n with
  | zero => intro j _ k h1 h2; omega
  | succ n ih =>
    intro j h k h1 h2
    unfold rowFirst at h
    split at h
    · cases h
    · rename_i hf
      by_cases hk : k = j
      · subst hk; simpa using hf
      · exact ih h k (by omega) (by omega)
theorem firstGo_some {a b : List α} {left j : Nat} : ∀ {n i : Nat} {p : Nat × Nat}, firstGo a b left j n i = some p → i ≤ p.1 ∧ p.1 < i + n ∧ j ≤ p.2 ∧ fits a b left p.1 p.2 = true ∧ (∀ k, i ≤ k → k < p.1 → ∀ m, j ≤ m → fits a b left k m = false) ∧ ∀ m, j ≤ m → m < p.2 → fits a b left p.1 m = false := by
  intro n
  induction n with
  | zero => intro i p h; cases h
  | succ n ih =>
    intro i p h
    unfold firstGo at h
    cases hr : rowFirst a b left i (b.length - j) j with
    | some y =>
      rw [hr] at h
      injection h with h
      subst h
      obtain ⟨h1, h2, h3, h4⟩ := rowFirst_some hr
      exact ⟨Nat.le_refl _, by dsimp only; omega, h1, h3, fun k hk1 hk2 => absurd hk2 (by dsimp only; omega), h4⟩
    | none =>
      rw [hr] at h
      obtain ⟨h1, h2, h3, h4, h5, h6⟩ := ih h
      refine ⟨by omega, by omega, h3, h4, fun k hk1 hk2 m hm => ?_, h6⟩
      by_cases hk : k = i
      · subst hk
        by_cases hb : m < b.length
        · exact rowFirst_none hr m hm (by omega)
        · cases hf : fits a b left k m
          · rfl
          · obtain ⟨_, h, _⟩ := fits_iff.1 hf
            omega
      · exact h5 k (by omega) hk2 m hm
theorem firstGo_none {a b : List α} {left j : Nat} : ∀ {n i : Nat}, firstGo a b left j n i = none → ∀ k, i ≤ k → k < i + n → ∀ m, j ≤ m → fits a b left k m = false := by
  intro n
  induction n with
  | zero => intro i _ k h1 h2; omega
  | succ n ih =>
    intro i h k h1 h2 m hm
    unfold firstGo at h
    cases hr : rowFirst a b left i (b.length - j) j with
    | some y => rw [hr] at h; cases h
    | none =>
      rw [hr] at h
      by_cases hk : k = i
      · subst hk
        by_cases hb : m < b.length
        · exact rowFirst_none hr m hm (by omega)
        · cases hf : fits a b left k m
          · rfl
          · obtain ⟨_, h, _⟩ := fits_iff.1 hf
            omega
      · exact ih h k (by omega) (by omega) m hm
/-- There is a next pair as long as any are left. -/
theorem fits_exists {a b : List α} {left : Nat} (hl : 0 < left) : ∀ (n i j : Nat), (a.length - i) + (b.length - j) ≤ n → from_ a b i j = left → ∃ x y, i ≤ x ∧ j ≤ y ∧ fits a b left x y = true := by
  intro n
  induction n with
  | zero =>
    intro i j hn h
    rw [from_endA (by omega)] at h
    omega
  | succ n ih =>
    intro i j hn h
    by_cases hi : i < a.length
    · by_cases hj : j < b.length
      · have h1 := from_step hi hj
        by_cases hd : from_ a b (i + 1) j = left
        · obtain ⟨x, y, hx, hy, hf⟩ := ih (i + 1) j (by omega) hd
          exact ⟨x, y, by omega, hy, hf⟩
        · by_cases hr : from_ a b i (j + 1) = left
          · obtain ⟨x, y, hx, hy, hf⟩ := ih i (j + 1) (by omega) hr
            exact ⟨x, y, hx, by omega, hf⟩
          · have hl1 := from_left a b i j
            have hr1 := from_right a b i j
            by_cases he : a[i] = b[j]
            · rw [if_pos he] at h1
              exact ⟨i, j, Nat.le_refl _, Nat.le_refl _, fits_iff.2 ⟨hi, hj, he, by omega⟩⟩
            · rw [if_neg he] at h1
              omega
      · rw [from_endB (by omega)] at h
        omega
    · rw [from_endA (by omega)] at h
      omega
theorem first_some {a b : List α} {i j : Nat} (h : 0 < from_ a b i j) : ∃ p, first a b i j = some p := by
  obtain ⟨x, y, hx, hy, hf⟩ := fits_exists h _ i j (Nat.le_refl _) rfl
  cases hn : first a b i j with
  | some p => exact ⟨p, rfl⟩
  | none =>
    obtain ⟨h1, _⟩ := fits_iff.1 hf
    rw [firstGo_none hn x hx (by omega) y hy] at hf
    cases hf
theorem first_none {a b : List α} {i j : Nat} (h : from_ a b i j = 0) : first a b i j = none := by
  cases hn : first a b i j with
  | none => rfl
  | some p =>
    obtain ⟨_, _, _, h4, _⟩ := firstGo_some hn
    obtain ⟨_, _, _, h5⟩ := fits_iff.1 h4
    omega
theorem commonGo_pairs {a b : List α} : ∀ (n i j : Nat), a.length - i < n → Pairs a b i j (commonGo a b n i j) ∧ (commonGo a b n i j).length = from_ a b i j := by
  intro n
  induction n with
  | zero => intro i j h; omega
  | succ n ih =>
    intro i j h
    unfold commonGo
    by_cases h0 : 0 < from_ a b i j
    · obtain ⟨p, hp⟩ := first_some h0
      rw [hp]
      obtain ⟨h1, h2, h3, h4, _⟩ := firstGo_some hp
      obtain ⟨h5, h6, h7, h8⟩ := fits_iff.1 h4
      obtain ⟨h9, h10⟩ := ih (p.1 + 1) (p.2 + 1) (by omega)
      exact ⟨⟨h1, h3, ⟨h5, h6, h7⟩, h9⟩, by simp only [List.length_cons]; omega⟩
    · rw [first_none (by omega)]
      exact ⟨trivial, by simp; omega⟩
theorem common_pairs (a b : List α) : Pairs a b 0 0 (common a b) := (commonGo_pairs _ _ _ (by omega)).1
theorem common_length (a b : List α) : (common a b).length = lcs a b := by
  rw [show lcs a b = from_ a b 0 0 from rfl]
  exact (commonGo_pairs _ _ _ (by omega)).2
theorem pairs_most {a b : List α} {l : List (Nat × Nat)} (h : Pairs a b 0 0 l) : l.length ≤ (common a b).length := by
  rw [common_length]
  exact pairs_le l 0 0 h
/-- A list of pairs comes no later than another one. -/
def lexLe : List (Nat × Nat) → List (Nat × Nat) → Prop
  | [], _ => True
  | _ :: _, [] => False
  | p :: r, q :: s => p.1 < q.1 ∨ (p.1 = q.1 ∧ (p.2 < q.2 ∨ (p.2 = q.2 ∧ lexLe r s)))
theorem commonGo_first {a b : List α} : ∀ (n i j : Nat), a.length - i < n → ∀ l, Pairs a b i j l → l.length = from_ a b i j → lexLe (commonGo a b n i j) l := by
  intro n
  induction n with
  | zero => intro i j h; omega
  | succ n ih =>
    intro i j h l hl hlen
    unfold commonGo
    by_cases h0 : 0 < from_ a b i j
    · obtain ⟨p, hp⟩ := first_some h0
      rw [hp]
      obtain ⟨h1, h2, h3, h4, h5, h6⟩ := firstGo_some hp
      obtain ⟨h7, h8, h9, h10⟩ := fits_iff.1 h4
      cases l with
      | nil => simp at hlen; omega
      | cons q r =>
        obtain ⟨q1, q2, ⟨q3, q4, q5⟩, q6⟩ := hl
        have e1 := pairs_le r _ _ q6
        have e2 := from_pair q3 q4 q5
        have e3 := from_mono a b q1 q2
        simp only [List.length_cons] at hlen
        have hf : fits a b (from_ a b i j) q.1 q.2 = true := fits_iff.2 ⟨q3, q4, q5, by omega⟩
        unfold lexLe
        by_cases c1 : p.1 < q.1
        · exact .inl c1
        · by_cases c2 : q.1 < p.1
          · rw [h5 q.1 q1 c2 q.2 q2] at hf
            cases hf
          · have c3 : p.1 = q.1 := by omega
            refine .inr ⟨c3, ?_⟩
            by_cases c4 : p.2 < q.2
            · exact .inl c4
            · by_cases c5 : q.2 < p.2
              · have := h6 q.2 q2 c5
                rw [c3] at this
                rw [this] at hf
                cases hf
              · have c6 : p.2 = q.2 := by omega
                refine .inr ⟨c6, ih _ _ (by omega) r (by rw [c3, c6]; exact q6) ?_⟩
                rw [c3, c6] at h10 ⊢
                omega
    · rw [first_none (by omega)]
      cases l <;> trivial
theorem common_first {a b : List α} {l : List (Nat × Nat)} (h : Pairs a b 0 0 l) (hl : l.length = (common a b).length) : lexLe (common a b) l :=
  commonGo_first _ _ _ (by omega) l h (by rw [hl, common_length]; rfl)
end
end File
end Go.Proofs.YtlpoiggdjggkiaaGreatDoor
end
