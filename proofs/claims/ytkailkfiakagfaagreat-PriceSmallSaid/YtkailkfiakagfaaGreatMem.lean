/- Words for memory: slices that read as lists, slices of the call's own, what a call leaves alone. No condition. -/
import Derived.WalkKit
import Derived.WalkSpells
import Derived.WalkLawsBesides
import Derived.WalkSmall
import Derived.Lib.Hide
import Derived.Laws.OwnMore
import Derived.Laws.CopyOwn
import Derived.Deep.Draws
set_option linter.unusedVariables false
set_option linter.unusedSimpArgs false
namespace Go.Proofs.YtkailkfiakagfaaGreat
open Go.RowKit

abbrev iv (n : Int) : Value := .int .i64 n
/-- How a Go type's values lie in cells. -/
structure Enc (α : Type) where
  cells : α → List Value
  sz : Nat
  len : ∀ x, (cells x).length = sz
  one : ∀ x, ∀ u ∈ cells x, u.oneCell' = true
  pos : 0 < sz
def intE : Enc Int := ⟨fun n => [iv n], 1, fun _ => rfl, fun _ u h => by simp at h; subst h; rfl, by decide⟩
def boolE : Enc Bool := ⟨fun n => [.bool n], 1, fun _ => rfl, fun _ u h => by simp at h; subst h; rfl, by decide⟩

/-- The address A holds the list xs. -/
def Sl {α : Type} (E : Enc α) (w : World) (A : Option Addr) (xs : List α) : Prop :=
  xs ≠ [] → ∃ b off, A = some ⟨b, off, none⟩ ∧ b < w.heap.size ∧ ∀ i x, xs[i]? = some x → ∀ j u, (E.cells x)[j]? = some u → w.cell? ⟨b, off + i * E.sz + j, none⟩ = some u

section
variable {α : Type} {E : Enc α} {w w' : World} {A : Option Addr} {xs : List α}
theorem Sl.nil : Sl E w A [] := fun h => absurd rfl h
theorem Sl.keep (h : Sl E w A xs) (hz : w.heap.size ≤ w'.heap.size) (hk : ∀ b o, b < w.heap.size → w'.cell? ⟨b, o, none⟩ = w.cell? ⟨b, o, none⟩) : Sl E w' A xs := fun hx => by
  obtain ⟨b, off, hA, hb, hc⟩ := h hx
  exact ⟨b, off, hA, by omega, fun i x hi j u hu => (hk _ _ hb).trans (hc i x hi j u hu)⟩
theorem Sl.below (h : Sl E w A xs) (hb : Below w.heap.size w w') : Sl E w' A xs := h.keep hb.size fun b o hlt => hb.cell (p := ⟨b, o, none⟩) hlt
theorem Sl.alloc (h : Sl E w A xs) (o : Obj) : Sl E (w.alloc o) A xs := h.below ((Below.refl _ _).alloc (Nat.le_refl _) _)
theorem Sl.get {k : Nat} (h : Sl E w A xs) (hk : k < xs.length) : ∃ b off, A = some ⟨b, off, none⟩ ∧ b < w.heap.size ∧ ∀ j u, (E.cells xs[k])[j]? = some u → w.cell? ⟨b, off + k * E.sz + j, none⟩ = some u := by
  obtain ⟨b, off, hA, hb, hc⟩ := h (by intro e; subst e; simp at hk)
  exact ⟨b, off, hA, hb, hc k _ (List.getElem?_eq_getElem hk)⟩
end
theorem Sl.getI {w : World} {A : Option Addr} {xs : List Int} {k : Nat} (h : Sl intE w A xs) (hk : k < xs.length) :
    ∃ b off, A = some ⟨b, off, none⟩ ∧ b < w.heap.size ∧ w.cell? ⟨b, off + k, none⟩ = some (iv xs[k]) := by
  obtain ⟨b, off, hA, hb, hc⟩ := h.get hk
  exact ⟨b, off, hA, hb, by simpa [intE] using hc 0 (iv xs[k]) rfl⟩
theorem Sl.getB {w : World} {A : Option Addr} {xs : List Bool} {k : Nat} (h : Sl boolE w A xs) (hk : k < xs.length) :
    ∃ b off, A = some ⟨b, off, none⟩ ∧ b < w.heap.size ∧ w.cell? ⟨b, off + k, none⟩ = some (.bool xs[k]) := by
  obtain ⟨b, off, hA, hb, hc⟩ := h.get hk
  exact ⟨b, off, hA, hb, by simpa [boolE] using hc 0 (.bool xs[k]) rfl⟩

theorem Sl.at_ {α : Type} {E : Enc α} {w : World} {A : Option Addr} {xs : List α} {k : Nat} (h : Sl E w A xs) (hk : k < xs.length) : ∃ b off x, A = some ⟨b, off, none⟩ ∧ b < w.heap.size ∧ xs[k]? = some x ∧ ∀ j u, (E.cells x)[j]? = some u → w.cell? ⟨b, off + k * E.sz + j, none⟩ = some u := by
  obtain ⟨b, off, hA, hb, hc⟩ := h.get hk
  exact ⟨b, off, xs[k], hA, hb, List.getElem?_eq_getElem hk, hc⟩
theorem Sl.atI {w : World} {A : Option Addr} {xs : List Int} {k : Nat} (h : Sl intE w A xs) (hk : k < xs.length) :
    ∃ b off x, A = some ⟨b, off, none⟩ ∧ b < w.heap.size ∧ xs[k]? = some x ∧ w.cell? ⟨b, off + k, none⟩ = some (iv x) := by
  obtain ⟨b, off, x, hA, hb, hx, hc⟩ := h.at_ hk
  exact ⟨b, off, x, hA, hb, hx, by simpa [intE] using hc 0 (iv x) rfl⟩
theorem Sl.atB {w : World} {A : Option Addr} {xs : List Bool} {k : Nat} (h : Sl boolE w A xs) (hk : k < xs.length) :
    ∃ b off x, A = some ⟨b, off, none⟩ ∧ b < w.heap.size ∧ xs[k]? = some x ∧ w.cell? ⟨b, off + k, none⟩ = some (.bool x) := by
  obtain ⟨b, off, x, hA, hb, hx, hc⟩ := h.at_ hk
  exact ⟨b, off, x, hA, hb, hx, by simpa [boolE] using hc 0 (.bool x) rfl⟩
theorem drop_at {α : Type} {xs : List α} {k : Nat} {x : α} (h : xs[k]? = some x) : xs.drop k = x :: xs.drop (k + 1) := by
  obtain ⟨hk, rfl⟩ := List.getElem?_eq_some_iff.1 h
  exact List.drop_eq_getElem_cons hk
theorem take_at {α : Type} {xs : List α} {k : Nat} {x : α} (h : xs[k]? = some x) : xs.take (k + 1) = xs.take k ++ [x] := by
  obtain ⟨hk, rfl⟩ := List.getElem?_eq_some_iff.1 h
  exact List.take_succ_eq_append_getElem hk
theorem mem_at {α : Type} {xs : List α} {k : Nat} {x : α} (h : xs[k]? = some x) : x ∈ xs := by
  obtain ⟨hk, rfl⟩ := List.getElem?_eq_some_iff.1 h
  exact List.getElem_mem hk

/-- The slice value v is the call's own, in a block from B on, and holds the list xs. -/
def Own {α : Type} (E : Enc α) (e : TypeId) (B : Nat) (w : World) (v : Value) (xs : List α) : Prop := w.ownsRow B e E.sz v xs.length (xs.flatMap E.cells)
theorem flat_length {α : Type} (E : Enc α) (xs : List α) : (xs.flatMap E.cells).length = xs.length * E.sz := by
  induction xs with
  | nil => simp
  | cons x xs ih => simp [E.len, ih, Nat.add_mul]; omega
theorem flat_get {α : Type} (E : Enc α) : ∀ (xs : List α) (i : Nat) (x : α), xs[i]? = some x → ∀ j u, (E.cells x)[j]? = some u → (xs.flatMap E.cells)[i * E.sz + j]? = some u := by
  intro xs
  induction xs with
  | nil => intro i x h; simp at h
  | cons y ys ih =>
    intro i x h j u hu
    have hl := E.len y
    cases i with
    | zero =>
      simp at h
      subst h
      have hj : j < (E.cells y).length := (List.getElem?_eq_some_iff.1 hu).1
      simp only [List.flatMap_cons, Nat.zero_mul, Nat.zero_add]
      rw [List.getElem?_append_left hj]
      exact hu
    | succ i =>
      simp only [List.getElem?_cons_succ] at h
      have := ih i x h j u hu
      simp only [List.flatMap_cons]
      rw [List.getElem?_append_right (by rw [hl, Nat.add_mul]; omega), ← this]
      congr 1
      rw [hl, Nat.add_mul]
      omega
section
variable {α : Type} {E : Enc α} {e : TypeId} {B : Nat} {w w' : World} {v : Value} {xs : List α}
theorem Own.nil : Own E e B w (.slice none 0 0) ([] : List α) := World.ownsRow_nil _ _ _ _
theorem Own.form (h : Own E e B w v xs) : ∃ A c, v = .slice A xs.length c ∧ xs.length ≤ c ∧ c ≤ maxLen := by
  rcases h.2 with ⟨rfl, hn⟩ | ⟨g, cap, cur, rfl, _, _, hc, hm, _⟩
  · exact ⟨none, 0, by rw [hn], by omega, by simp [maxLen]⟩
  · exact ⟨_, _, rfl, hc, hm⟩
theorem Own.sl {A : Option Addr} {n c : Nat} (h : Own E e B w (.slice A n c) xs) : Sl E w A xs := fun hx => by
  rcases h.2 with ⟨hv, hn⟩ | ⟨g, cap, cur, hv, _, hg, _⟩
  · exact absurd (List.eq_nil_of_length_eq_zero hn) hx
  · have hA : A = some ⟨g, 0, none⟩ := by injection hv
    subst hA
    refine ⟨g, 0, rfl, (Array.getElem?_eq_some_iff.1 hg).1, fun i x hi j u hu => ?_⟩
    have := h.cells (g := g) rfl _ _ (flat_get E xs i x hi j u hu)
    have hadd : ∀ k, (⟨g, 0, none⟩ : Addr).add k = ⟨g, k, none⟩ := fun k => by unfold Addr.add; split <;> simp_all
    rw [hadd] at this
    rw [show 0 + i * E.sz + j = i * E.sz + j from by omega]
    exact this
theorem Own.keep (h : Own E e B w v xs) (hz : w.heap.size ≤ w'.heap.size) (hk : ∀ b, v.ownBlock = some b → w'.heap[b]? = w.heap[b]?) : Own E e B w' v xs := by
  refine ⟨h.1, ?_⟩
  rcases h.2 with hn | ⟨g, cap, cur, rfl, hb, hg, r⟩
  · exact .inl hn
  · exact .inr ⟨g, cap, cur, rfl, hb, (hk g rfl).trans hg, r⟩
theorem Own.lt (h : Own E e B w v xs) : ∀ k, v.ownBlock = some k → B ≤ k ∧ k < w.heap.size := World.ownsRow.lt h
theorem Own.below (h : Own E e B w v xs) (hb : Below w.heap.size w w') : Own E e B w' v xs := h.keep hb.size fun b hv => hb.block b (h.lt b hv).2
theorem Own.alloc (h : Own E e B w v xs) (o : Obj) : Own E e B (w.alloc o) v xs := h.below ((Below.refl _ _).alloc (Nat.le_refl _) _)
theorem Own.base {B' : Nat} (h : Own E e B w v xs) (hB : B' ≤ B) : Own E e B' w v xs := by
  refine ⟨h.1, ?_⟩
  rcases h.2 with hn | ⟨g, cap, cur, rfl, hb, r⟩
  · exact .inl hn
  · exact .inr ⟨g, cap, cur, rfl, by omega, r⟩
end

/-- What the tables say of a slice type and its element type. -/
structure SlTy (P : Program) (t e : TypeId) (sz : Nat) : Prop where
  ht : P.underlying t = some (.slice e)
  info : ∃ i z, P.info? e = some i ∧ i.zero = some z ∧ i.size = sz ∧ i.bytes ≤ 1024 ∧ z.cells.size = sz
theorem slTy_of {P : Program} {t e : TypeId} {sz bytes : Nat} {z : Value} (ht : P.underlying t = some (.slice e)) (h : (P.info? e).map (fun i => (i.zero, i.size, i.bytes)) = some (some z, sz, bytes))
    (hz : z.cells.size = sz) (hb : bytes ≤ 1024) : SlTy P t e sz := by
  obtain ⟨i, hi, h1, h2, h3⟩ := info_parts h
  exact ⟨ht, i, z, hi, h1, h2, by omega, hz⟩

/-- The bound on lengths within which no append can fail. -/
def big : Nat := 137438953472
theorem wpApp1 {α : Type} (E : Enc α) {P : Program} {t e : TypeId} (hT : SlTy P t e E.sz) {ops : Array Oper} {rest : List Oper} {o : Oper} {a : Act} {Q : Exit → Act → World → Prop} {w : World} {arr : Array Value}
    (hgd : o.guard = none) (s x : Operand) (ho : o.op = .call { callee := .builtin .append, args := #[s, x], argTypes := #[t, t] })
    {B : Nat} {v : Value} {xs : List α} (hown : Own E e B w v xs) (y : α) (harr : arr.toList = E.cells y) (hs : a.eval s = v) (hx : a.eval x = .slice (some ⟨w.heap.size, 0, none⟩) 1 1)
    (hB : B ≤ w.heap.size) (hn : xs.length + 1 ≤ big)
    (h : ∀ v' w', Own E e B w' v' (xs ++ [y]) → Below B w w' → (∀ b, b < w.heap.size → v.ownBlock ≠ some b → w'.heap[b]? = w.heap[b]?) → wpList P ops Q rest (a.put o.dst v') w') :
    wpList P ops Q (o :: rest) a (w.alloc (.cells arr e)) := by
  obtain ⟨i, z, hi, hz, hsz, hby, hzc⟩ := hT.info
  unfold big at hn
  have hsize : arr.size = E.sz := by rw [← Array.length_toList, harr, E.len]
  refine wpList_append_own (w.alloc (.cells arr e)) hgd s x t ho B e i z E.sz i.bytes hT.ht hi hz hsz rfl hzc E.pos v xs.length (xs.flatMap E.cells) hs (World.ownsRow.alloc hown _)
    ⟨w.heap.size, 0, none⟩ 1 1 (E.cells y) hx (by rw [E.len]; omega) ?_ (E.one y) (by unfold maxLen; omega) (by have := Nat.mul_le_mul hn hby; omega) (by simp; omega) ?_
  · intro j u hu
    have hadd : (⟨w.heap.size, 0, none⟩ : Addr).add j = ⟨w.heap.size, j, none⟩ := by unfold Addr.add; split <;> simp_all
    rw [hadd, cell_of_row _ w.heap.size j arr e (0, 0) (heap_alloc_new w _), ← hu, ← harr, Array.getElem?_toList]
  · intro v' w' hown' hg _
    have hlt := Own.lt hown
    refine h v' w' (by unfold Own; simpa using hown') ?_ (fun b hb hv => ?_)
    · refine (((Below.refl B w).alloc hB _).grown hg (by simp; omega) fun k hk => ?_)
      exact (hlt k hk).1
    · rw [hg.block b (by simp; omega) (fun e => hv e.symm)]
      exact Below.heap_alloc w _ b hb

/-- What a walk wants to know behind a call of a block that lay there before. -/
theorem aft {B : Nat} {W w1 : World} (hb : Below B W w1) (g : Nat) (h : g < B ∧ g < W.heap.size) : (∀ o, w1.cell? ⟨g, o, none⟩ = W.cell? ⟨g, o, none⟩) ∧ (∀ o, w1.frozen? ⟨g, o, none⟩ = W.frozen? ⟨g, o, none⟩) ∧
    g < w1.heap.size ∧ g ≤ w1.heap.size ∧ (∀ n, g < w1.heap.size + n) ∧ ¬ g = w1.heap.size :=
  ⟨fun o => hb.cell (p := ⟨g, o, none⟩) h.1, fun o => hb.frozen (p := ⟨g, o, none⟩) h.1, by have := hb.size; omega, by have := hb.size; omega, fun n => by have := hb.size; omega, by have := hb.size; omega⟩
end Go.Proofs.YtkailkfiakagfaaGreat
namespace Go.RowKit
theorem Below.of_alloc {w w1 : World} {o : Obj} (h : Below (w.alloc o).heap.size (w.alloc o) w1) : Below w.heap.size w w1 :=
  ((Below.refl _ _).alloc (Nat.le_refl _) o).trans (h.mono (by simp))
theorem Below.next {B : Nat} {w0 w w1 : World} (h : Below B w0 w) (h1 : Below w.heap.size w w1) (hB : B ≤ w0.heap.size) : Below B w0 w1 :=
  h.trans (h1.mono (by have := h.size; omega))
end Go.RowKit
namespace Go.Proofs.YtkailkfiakagfaaGreat
open Go.RowKit
theorem drop_step {α : Type} {xs : List α} {k : Nat} (h : k < xs.length) : xs.drop k = xs[k] :: xs.drop (k + 1) := List.drop_eq_getElem_cons h
theorem drop_end {α : Type} {xs : List α} {k : Nat} (h : ¬ k < xs.length) : xs.drop k = [] := List.drop_eq_nil_of_le (by omega)
theorem ret_eq {v v' : Value} (h : v = v') : Ending.returned v = .returned v' := by rw [h]
end Go.Proofs.YtkailkfiakagfaaGreat
