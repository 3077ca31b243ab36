/- More words for memory: whole slices appended, slices made. Condition: lengths are below a great bound. -/
import Derived.Test.YtkailkfiakagfaaGreatMem
import Derived.Laws.AppendOwnNone
set_option linter.unusedVariables false
set_option linter.unusedSimpArgs false
namespace Go.Proofs.YtkailkfiakagfaaGreat
open Go.RowKit

/-- Block g is just the cells cs of type t, none of them frozen. -/
def Blk (w : World) (g : Nat) (t : TypeId) (cs : Array Value) : Prop := w.heap[g]? = some (.cells cs t (0, 0))
section
variable {w w' : World} {g : Nat} {t : TypeId} {cs : Array Value}
theorem Blk.lt (h : Blk w g t cs) : g < w.heap.size := lt_of_block h
theorem Blk.cell (h : Blk w g t cs) : ∀ o, w.cell? ⟨g, o, none⟩ = cs[o]? := fun o => cell_of_row w g o cs t (0, 0) h
theorem Blk.frozen (h : Blk w g t cs) : ∀ o, w.frozen? ⟨g, o, none⟩ = false := fun o => by
  unfold Blk at h
  simp [World.frozen?, h]
theorem Blk.new (w : World) (t : TypeId) (cs : Array Value) : Blk (w.alloc (.cells cs t)) w.heap.size t cs := heap_alloc_new w _
theorem Blk.new_ (w : World) (t : TypeId) (cs : Array Value) (h : g = w.heap.size) : Blk (w.alloc (.cells cs t)) g t cs := h ▸ heap_alloc_new w _
theorem Blk.alloc (h : Blk w g t cs) (o : Obj) : Blk (w.alloc o) g t cs := (Below.heap_alloc w o g h.lt).trans h
theorem Blk.set_ (h : Blk w g t cs) (i : Nat) (u : Value) : Blk (w.setCell ⟨g, i, none⟩ u) g t (cs.setIfInBounds i u) := by
  unfold Blk at h ⊢
  simp [World.setCell, Array.getElem?_modify, h]
theorem Blk.far (h : Blk w g t cs) {p : Addr} (hp : g ≠ p.block) (u : Value) : Blk (w.setCell p u) g t cs := (Below.heap_setCell w p u g hp).trans h
theorem Blk.below {B : Nat} (h : Blk w g t cs) (hb : Below B w w') (hg : g < B) : Blk w' g t cs := (hb.block g hg).trans h
theorem Blk.under (h : Blk w g t cs) (hb : Below w.heap.size w w') : Blk w' g t cs := h.below hb h.lt
/-- What the walk wants of a block. -/
theorem Blk.facts (h : Blk w g t cs) : (∀ o, w.cell? ⟨g, o, none⟩ = cs[o]?) ∧ (∀ o, w.frozen? ⟨g, o, none⟩ = false) ∧ g < w.heap.size ∧ g ≤ w.heap.size ∧ (∀ n, g < w.heap.size + n) ∧ ¬ g = w.heap.size :=
  ⟨h.cell, h.frozen, h.lt, Nat.le_of_lt h.lt, fun n => by have := h.lt; omega, by have := h.lt; omega⟩
end
theorem Own.setCell {α : Type} {E : Enc α} {e : TypeId} {B : Nat} {w : World} {v : Value} {xs : List α} (h : Own E e B w v xs) {p : Addr} (hp : p.block < B) (u : Value) : Own E e B (w.setCell p u) v xs :=
  h.keep (by simp [World.setCell]) fun b hb => Below.heap_setCell w p u b (by have := (h.lt b hb).1; omega)
theorem Sl.setCell {α : Type} {E : Enc α} {w : World} {A : Option Addr} {xs : List α} {B : Nat} (h : Sl E w A xs) (hlt : ∀ b off, A = some ⟨b, off, none⟩ → b < B) {p : Addr} (hp : B ≤ p.block) (u : Value) : Sl E (w.setCell p u) A xs := fun hx => by
  obtain ⟨b, off, hA, hb, hc⟩ := h hx
  have := hlt b off hA
  refine ⟨b, off, hA, by simpa [World.setCell] using hb, fun i x hi j u' hu => ?_⟩
  rw [World.cell?_of_block (w := w) (Below.heap_setCell w p u b (by omega))]
  exact hc i x hi j u' hu
theorem flat_inv {α : Type} (E : Enc α) : ∀ (xs : List α) (j : Nat) (u : Value), (xs.flatMap E.cells)[j]? = some u → ∃ i x k, j = i * E.sz + k ∧ xs[i]? = some x ∧ (E.cells x)[k]? = some u := by
  intro xs
  induction xs with
  | nil => intro j u h; simp at h
  | cons x xs ih =>
    intro j u h
    have hl := E.len x
    simp only [List.flatMap_cons] at h
    by_cases hj : j < E.sz
    · rw [List.getElem?_append_left (by omega)] at h
      exact ⟨0, x, j, by omega, rfl, h⟩
    · rw [List.getElem?_append_right (by omega), hl] at h
      obtain ⟨i, y, k, hk, hy, hu⟩ := ih _ _ h
      exact ⟨i + 1, y, k, by rw [Nat.add_mul]; omega, hy, hu⟩

theorem wpAppS {α : Type} (E : Enc α) {P : Program} {t e : TypeId} (hT : SlTy P t e E.sz) {ops : Array Oper} {rest : List Oper} {o : Oper} {a : Act} {Q : Exit → Act → World → Prop} {w : World}
    (hgd : o.guard = none) (s x : Operand) (ho : o.op = .call { callee := .builtin .append, args := #[s, x], argTypes := #[t, t] })
    {B : Nat} {v : Value} {xs : List α} (hown : Own E e B w v xs) {A : Option Addr} {c : Nat} {ys : List α} (hy : Sl E w A ys) (hs : a.eval s = v) (hx : a.eval x = .slice A ys.length c)
    (hB : B ≤ w.heap.size) (hn : xs.length + ys.length ≤ big)
    (h : ∀ v' w', Own E e B w' v' (xs ++ ys) → Below B w w' → (∀ b, b < w.heap.size → v.ownBlock ≠ some b → w'.heap[b]? = w.heap[b]?) → wpList P ops Q rest (a.put o.dst v') w') :
    wpList P ops Q (o :: rest) a w := by
  obtain ⟨i, z, hi, hz, hsz, hby, hzc⟩ := hT.info
  unfold big at hn
  have hlt := Own.lt hown
  cases A with
  | none =>
    have hys : ys = [] := by
      by_cases h0 : ys = []
      · exact h0
      · obtain ⟨b, off, hA, _⟩ := hy h0
        cases hA
    subst hys
    refine wpList_plain hgd fun K hK => ?_
    have hrun : (Builtin.append_ #[t, t] o.type #[v, .slice none 0 c]).run P w = .ok v w := by
      rcases hown.2 with ⟨rfl, hn'⟩ | ⟨g, cap, cur, rfl, _, _, hnc, _⟩
      · simp [Builtin.append_, run_underlying hT.ht, sizeOf, typeInfo, hi, Builtin.lenOf, Builtin.firstCells]
      · simp [Builtin.append_, run_underlying hT.ht, sizeOf, typeInfo, hi, Builtin.lenOf, Builtin.firstCells, hnc, storeCells]
    simp only [List.length_nil] at hx
    unfold Oper.wp
    simp [execOp, ho, resolve, invoke, builtin, hs, hx, hrun, Result.andThen]
    exact hK _ _ (h v w (by simpa using hown) (Below.refl _ _) fun _ _ _ => rfl)
  | some ad =>
    refine wpList_append_own w hgd s x t ho B e i z E.sz i.bytes hT.ht hi hz hsz rfl hzc E.pos v xs.length (xs.flatMap E.cells) hs hown
      ad ys.length c (ys.flatMap E.cells) hx (flat_length E ys) ?_ ?_ (by unfold maxLen; omega) (by have := Nat.mul_le_mul hn hby; omega) hB ?_
    · intro j u hu
      obtain ⟨k, y, k', rfl, hk, hu⟩ := flat_inv E ys j u hu
      obtain ⟨b, off, hA, _, hc⟩ := hy (by intro e; subst e; simp at hk)
      injection hA with hA
      subst hA
      have hadd : ∀ n, (⟨b, off, none⟩ : Addr).add n = ⟨b, off + n, none⟩ := fun n => by unfold Addr.add; split <;> simp_all
      rw [hadd, ← Nat.add_assoc]
      exact hc k y hk k' u hu
    · intro u hu
      obtain ⟨y, _, hu⟩ := List.mem_flatMap.1 hu
      exact E.one y u hu
    · intro v' w' hown' hg _
      refine h v' w' (by unfold Own; simpa using hown') ((Below.refl B w).grown hg hB fun k hk => (hlt k hk).1) fun b hb hv => ?_
      exact hg.block b hb (fun e => hv e.symm)

theorem Own.empty {α : Type} {E : Enc α} {e : TypeId} {B : Nat} {w : World} (hB : B ≤ w.heap.size) : Own E e B (w.alloc (.cells #[] e)) (.slice (some ⟨w.heap.size, 0, none⟩) 0 0) ([] : List α) :=
  World.ownsRow_made w #[] 0 hB (by simp [maxLen]) (by simp)
/-- make([]T, 0, n) -/
theorem wpMake0 {α : Type} (E : Enc α) {P : Program} {t e : TypeId} (hT : SlTy P t e E.sz) {ops : Array Oper} {rest : List Oper} {o : Oper} {a : Act} {Q : Exit → Act → World → Prop} {w : World}
    (hgd : o.guard = none) (l c : Operand) (ho : o.op = .makeSlice t l c) (n : Nat) (hl : a.eval l = iv 0) (hc : a.eval c = iv n) (hn : n ≤ big)
    (h : ∀ w', Own E e w.heap.size w' (.slice (some ⟨w.heap.size, 0, none⟩) 0 n) ([] : List α) → Below w.heap.size w w' → wpList P ops Q rest (a.put o.dst (.slice (some ⟨w.heap.size, 0, none⟩) 0 n)) w') :
    wpList P ops Q (o :: rest) a w := by
  obtain ⟨i, z, hi, hz, hsz, hby, hzc⟩ := hT.info
  unfold big at hn
  refine wpList_make_own w hgd l c t ho w.heap.size e i z E.sz hT.ht hi hz hsz .i64 .i64 n n hl hc rfl (by have := Nat.mul_le_mul hby hn; omega) (by unfold maxLen; omega) (Nat.le_refl _) ?_
  intro w' h1 h2
  exact h w' h1 ((Below.refl _ w).grown h2 (Nat.le_refl _) (by simp))
theorem madeCells_flat {α : Type} (E : Enc α) (z : α) (arr : Array Value) (h : arr.toList = E.cells z) (n : Nat) : (madeCells arr (n * E.sz)).toList = (List.replicate n z).flatMap E.cells := by
  have hsz : arr.size = E.sz := by rw [← Array.length_toList, h, E.len]
  apply List.ext_getElem?
  intro j
  by_cases hj : j < n * E.sz
  · have hpos := E.pos
    have hdm := Nat.div_add_mod j E.sz
    have hm : j % E.sz < E.sz := Nat.mod_lt _ hpos
    have hd : j / E.sz < n := by
      rw [Nat.div_lt_iff_lt_mul hpos]; exact hj
    have hcell : (E.cells z)[j % E.sz]? = some ((E.cells z)[j % E.sz]'(by rw [E.len]; exact hm)) := List.getElem?_eq_getElem _
    have h2 := flat_get E (List.replicate n z) (j / E.sz) z (by rw [List.getElem?_replicate, if_pos hd]) (j % E.sz) _ hcell
    rw [show j / E.sz * E.sz + j % E.sz = j by rw [Nat.mul_comm]; exact hdm] at h2
    rw [h2, ← hcell, ← h]
    simp only [madeCells, Array.toList_map, Array.toList_range, List.getElem?_map, List.getElem?_range hj, Option.map_some, hsz]
    have hlt : j % E.sz < arr.size := by omega
    rw [getElem!_pos arr _ hlt, Array.getElem?_toList, Array.getElem?_eq_getElem hlt]
  · rw [List.getElem?_eq_none (by simp [madeCells]; omega), List.getElem?_eq_none (by rw [flat_length]; simp; omega)]
/-- make([]T, n) -/
theorem wpMakeN {α : Type} (E : Enc α) {P : Program} {t e : TypeId} (hT : SlTy P t e E.sz) (z0 : α) (hz0 : ∃ i z, P.info? e = some i ∧ i.zero = some z ∧ z.cells.toList = E.cells z0) {ops : Array Oper} {rest : List Oper} {o : Oper} {a : Act} {Q : Exit → Act → World → Prop} {w : World}
    (hgd : o.guard = none) (l c : Operand) (ho : o.op = .makeSlice t l c) (n : Nat) (hl : a.eval l = iv n) (hc : a.eval c = iv n) (hn : n ≤ big)
    (h : ∀ w', Own E e w.heap.size w' (.slice (some ⟨w.heap.size, 0, none⟩) n n) (List.replicate n z0) → Below w.heap.size w w' → wpList P ops Q rest (a.put o.dst (.slice (some ⟨w.heap.size, 0, none⟩) n n)) w') :
    wpList P ops Q (o :: rest) a w := by
  obtain ⟨i, z, hi, hz, hsz, hby, hzc⟩ := hT.info
  obtain ⟨i', z', hi', hz', hc'⟩ := hz0
  rw [hi] at hi'; injection hi' with hi'; subst hi'
  rw [hz] at hz'; injection hz' with hz'; subst hz'
  unfold big at hn
  refine wpList_make_full w hgd l c t ho w.heap.size e i z E.sz hT.ht hi hz hsz .i64 .i64 n n n hl hc rfl rfl (by have := Nat.mul_le_mul hby hn; omega) (by unfold maxLen; omega) (Nat.le_refl _) ?_
  intro w' h1 h2
  refine h w' ?_ ((Below.refl _ w).grown h2 (Nat.le_refl _) (by simp))
  unfold Own
  rw [List.length_replicate, ← madeCells_flat E z0 z.cells hc']
  exact h1
theorem Own.full {α : Type} {E : Enc α} {e : TypeId} {B : Nat} {w : World} {g n : Nat} {xs : List α} (h : Own E e B w (.slice (some ⟨g, 0, none⟩) n n) xs) : Blk w g e (xs.flatMap E.cells).toArray ∧ B ≤ g := by
  obtain ⟨A, c, hv, _, _⟩ := h.form
  injection hv with _ hn _
  subst hn
  rcases h.2 with ⟨hv, _⟩ | ⟨g', cap, cur, hv, hb, hg, _, _, hsz, htake⟩
  · cases hv
  · injection hv with h1 _ h3
    injection h1 with h1
    injection h1 with h1
    subst h1 h3
    refine ⟨?_, hb⟩
    unfold Blk
    rw [hg, ← htake, List.take_of_length_le (by rw [Array.length_toList, hsz]; exact Nat.le_refl _)]
theorem Own.ofBlk {α : Type} {E : Enc α} {e : TypeId} {B : Nat} {w : World} {g : Nat} {xs : List α} (h : Blk w g e (xs.flatMap E.cells).toArray) (hB : B ≤ g) (hm : xs.length ≤ maxLen) : Own E e B w (.slice (some ⟨g, 0, none⟩) xs.length xs.length) xs :=
  ⟨flat_length E xs, .inr ⟨g, xs.length, _, rfl, hB, h, Nat.le_refl _, hm, by rw [List.size_toArray, flat_length], by rw [List.take_of_length_le (by rw [flat_length]; exact Nat.le_refl _)]⟩⟩
theorem run_copyI {P : Program} {t e : TypeId} {ty : TypeId} (ht : P.underlying t = some (.slice e)) (hsz : (P.info? e).map (·.size) = some 1) {w : World} {g : Nat} {zs ys : List Int} (hB : Blk w g e (zs.map iv).toArray) (hl : zs.length = ys.length)
    {b off c : Nat} (hs : Sl intE w (some ⟨b, off, none⟩) ys) : ∃ w2, (Builtin.copy_ #[t, t] ty #[.slice (some ⟨g, 0, none⟩) ys.length ys.length, .slice (some ⟨b, off, none⟩) ys.length c]).run P w = .ok (iv ys.length) w2 ∧
      Blk w2 g e (ys.map iv).toArray ∧ Below g w w2 := by
  refine ⟨_, run_copy_row (P := P) w t t ty e g 0 ys.length ys.length ⟨b, off, none⟩ ys.length c (zs.map iv).toArray e (ys.map iv) ht hsz hB (by simp) ?_ (by simp [hl]) (ints_oneCell _ _) |>.trans ?_, ?_, below_setRow (Below.refl g w) (Nat.le_refl _) (ys.map iv).toArray⟩
  · intro j v hv
    rw [List.getElem?_map] at hv
    obtain ⟨y, hy, rfl⟩ := Option.map_eq_some_iff.1 hv
    obtain ⟨b', off', hA, _, hc⟩ := hs (by intro e; subst e; simp at hy)
    injection hA with hA
    injection hA with e1 e2
    subst e1 e2
    have hadd : (⟨b, off, none⟩ : Addr).add j = ⟨b, off + j, none⟩ := by unfold Addr.add; split <;> simp_all
    rw [hadd]
    simpa [intE] using hc j y hy 0 (iv y) rfl
  · have : List.drop (0 + (ys.map iv).length) (zs.map iv) = [] := List.drop_eq_nil_of_le (by simp [hl])
    rw [this]
    simp [goInt]
  · exact setRow_heap w g _ _ e _ hB
/-- A copy of ints within memory: from wherever the numbers ys lie, to the place k of the block g. -/
theorem run_copyG {P : Program} {t e : TypeId} {ty : TypeId} (ht : P.underlying t = some (.slice e)) (hsz : (P.info? e).map (·.size) = some 1) {w : World} {g : Nat} {zs ys : List Int} (hB : Blk w g e (zs.map iv).toArray) (k : Nat)
    {b off : Nat} (dl dc sl sc : Nat) (hn : ys.length = Nat.min sl dl) (hs : ∀ j y, ys[j]? = some y → w.cell? ⟨b, off + j, none⟩ = some (iv y)) (hfit : k + ys.length ≤ zs.length) :
    ∃ w2, (Builtin.copy_ #[t, t] ty #[.slice (some ⟨g, k, none⟩) dl dc, .slice (some ⟨b, off, none⟩) sl sc]).run P w = .ok (iv ys.length) w2 ∧ Blk w2 g e ((splice zs k ys).map iv).toArray ∧ Below g w w2 := by
  refine ⟨_, run_copy_row (P := P) w t t ty e g k dl dc ⟨b, off, none⟩ sl sc (zs.map iv).toArray e (ys.map iv) ht hsz hB (by simpa using hn) ?_ (by simpa using hfit) (ints_oneCell _ _) |>.trans ?_, ?_, below_setRow (Below.refl g w) (Nat.le_refl _) ((splice zs k ys).map iv).toArray⟩
  · intro j v hv
    rw [List.getElem?_map] at hv
    obtain ⟨y, hy, rfl⟩ := Option.map_eq_some_iff.1 hv
    have hadd : (⟨b, off, none⟩ : Addr).add j = ⟨b, off + j, none⟩ := by unfold Addr.add; split <;> simp_all
    rw [hadd]
    exact hs j y hy
  · simp [splice, goInt, List.map_append, List.map_take, List.map_drop]
  · exact setRow_heap w g _ _ e _ hB
theorem flat_int (xs : List Int) : xs.flatMap intE.cells = xs.map iv := by
  induction xs with
  | nil => rfl
  | cons x xs ih => rw [List.flatMap_cons, ih]; rfl
end Go.Proofs.YtkailkfiakagfaaGreat
