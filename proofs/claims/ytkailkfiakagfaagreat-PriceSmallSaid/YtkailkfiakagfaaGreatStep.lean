/- append of one element, at a step of a statement whose order Go leaves open. Condition: lengths are below a great bound. -/
import Derived.Test.YtkailkfiakagfaaGreatMem2
import Derived.Deep.RegionHeld3
set_option linter.unusedVariables false
set_option linter.unusedSimpArgs false
namespace Go.Proofs.YtkailkfiakagfaaGreat
open Go.RowKit
theorem stepApp1 {α : Type} (E : Enc α) {P : Program} {t e : TypeId} (hT : SlTy P t e E.sz) {ops : Array Oper} {o : Oper} {a : Act} {K : Act → World → Prop} {Q : Exit → Act → World → Prop} {E' : Prop} {w W : World} {arr : Array Value}
    (hgd : o.guard = none) (s x : Operand) (ho : o.op = .call { callee := .builtin .append, args := #[s, x], argTypes := #[t, t] })
    {B : Nat} {v : Value} {xs : List α} (hown : Own E e B w v xs) (y : α) (harr : arr.toList = E.cells y) (hs : a.eval s = v) {G : Nat} (hG : G = w.heap.size) (hx : a.eval x = .slice (some ⟨G, 0, none⟩) 1 1)
    (hW : W = w.alloc (.cells arr e)) (hB : B ≤ w.heap.size) (hn : xs.length + 1 ≤ big)
    (h : ∀ v' w', Own E e B w' v' (xs ++ [y]) → Below B w w' → (∀ b, b < w.heap.size → v.ownBlock ≠ some b → w'.heap[b]? = w.heap[b]?) → K (a.put o.dst v') w') :
    if Region.wanted o (yielded ops a.tmps) = true then Oper.wp P o a W K Q else E' := by
  subst hW hG
  have hw : Region.wanted o (yielded ops a.tmps) = true := by simp [Region.wanted, hgd]
  rw [if_pos hw]
  obtain ⟨i, z, hi, hz, hsz, hby, hzc⟩ := hT.info
  unfold big at hn
  have hsize : arr.size = E.sz := by rw [← Array.length_toList, harr, E.len]
  refine wp_append_own (w.alloc (.cells arr e)) s x t ho B e i z E.sz i.bytes hT.ht hi hz hsz rfl hzc E.pos v xs.length (xs.flatMap E.cells) hs (World.ownsRow.alloc hown _)
    ⟨w.heap.size, 0, none⟩ 1 1 (E.cells y) hx (by rw [E.len]; omega) ?_ (E.one y) (by unfold maxLen; omega) (by have := Nat.mul_le_mul hn hby; omega) (by simp; omega) ?_
  · intro j u hu
    have hadd : (⟨w.heap.size, 0, none⟩ : Addr).add j = ⟨w.heap.size, j, none⟩ := by unfold Addr.add; split <;> simp_all
    rw [hadd, cell_of_row _ w.heap.size j arr e (0, 0) (heap_alloc_new w _), ← hu, ← harr, Array.getElem?_toList]
  · intro v' w' hown' hg _
    have hlt := Own.lt hown
    refine h v' w' (by unfold Own; simpa using hown') ?_ (fun b hb hv => ?_)
    · refine (((Below.refl B w).alloc hB _).grown hg (by simp; omega) fun k hk => ?_)
      exact (hlt k hk).1
    · rw [hg.block b (by simp; omega) (fun e => hv e.symm)]
      exact Below.heap_alloc w _ b hb
/-- append of a whole slice, at such a step. -/
theorem stepAppS {α : Type} (E : Enc α) {P : Program} {t e : TypeId} (hT : SlTy P t e E.sz) {ops : Array Oper} {o : Oper} {a : Act} {K : Act → World → Prop} {Q : Exit → Act → World → Prop} {E' : Prop} {w : World}
    (hgd : o.guard = none) (s x : Operand) (ho : o.op = .call { callee := .builtin .append, args := #[s, x], argTypes := #[t, t] })
    {B : Nat} {v : Value} {xs : List α} (hown : Own E e B w v xs) {g : Nat} {n c : Nat} {ys : List α} (hy : Sl E w (some ⟨g, 0, none⟩) ys) (hyn : n = ys.length) (hs : a.eval s = v) {G : Nat} (hG : G = g) (hx : a.eval x = .slice (some ⟨G, 0, none⟩) n c)
    (hB : B ≤ w.heap.size) (hn : xs.length + ys.length ≤ big)
    (h : ∀ v' w', Own E e B w' v' (xs ++ ys) → Below B w w' → (∀ b, b < w.heap.size → v.ownBlock ≠ some b → w'.heap[b]? = w.heap[b]?) → K (a.put o.dst v') w') :
    if Region.wanted o (yielded ops a.tmps) = true then Oper.wp P o a w K Q else E' := by
  subst hG hyn
  have hw : Region.wanted o (yielded ops a.tmps) = true := by simp [Region.wanted, hgd]
  rw [if_pos hw]
  obtain ⟨i, z, hi, hz, hsz, hby, hzc⟩ := hT.info
  unfold big at hn
  refine wp_append_own w s x t ho B e i z E.sz i.bytes hT.ht hi hz hsz rfl hzc E.pos v xs.length (xs.flatMap E.cells) hs hown
    ⟨G, 0, none⟩ ys.length c (ys.flatMap E.cells) hx (flat_length E ys) ?_ ?_ (by unfold maxLen; omega) (by have := Nat.mul_le_mul hn hby; omega) hB ?_
  · intro j u hu
    obtain ⟨k, y, k', rfl, hk, hu⟩ := flat_inv E ys j u hu
    obtain ⟨b, off, hA, _, hc⟩ := hy (by intro e; subst e; simp at hk)
    injection hA with hA
    injection hA with e1 e2
    subst e1 e2
    rw [Addr.add_lit]
    have := hc k y hk k' u hu
    rw [show 0 + k * E.sz + k' = 0 + (k * E.sz + k') from by omega] at this
    exact this
  · intro u hu
    obtain ⟨y, _, hu⟩ := List.mem_flatMap.1 hu
    exact E.one y u hu
  · intro v' w' hown' hg _
    have hlt := Own.lt hown
    exact h v' w' (by unfold Own; simpa using hown') ((Below.refl B w).grown hg hB fun k hk => (hlt k hk).1) fun b hb hv => hg.block b hb (fun e => hv e.symm)
/-- A call of a Go function, at such a step. -/
theorem stepCall {P : Program} {ops : Array Oper} {o : Oper} {a : Act} {K : Act → World → Prop} {Q : Exit → Act → World → Prop} {E' : Prop} {w : World} {f : FuncId} {args : Array Value} {post : Ending → World → Prop}
    (hgd : o.guard = none) (hc : Calls P f args w post) (hr : (execOp a.eval o).run P w = .ok (.enter f args) w) (hK : ∀ e w', post e w' → ∃ v, e = .returned v ∧ K (a.put o.dst v) w') :
    if Region.wanted o (yielded ops a.tmps) = true then Oper.wp P o a w K Q else E' := by
  have hw : Region.wanted o (yielded ops a.tmps) = true := by simp [Region.wanted, hgd]
  rw [if_pos hw]
  unfold Oper.wp
  rw [hr]
  refine Calls.mono (P := P) hc ?_
  intro e w'' h
  obtain ⟨v, rfl, hk⟩ := hK e w'' h
  exact hk
/-- wpApp1 with the new block's number as the walk spells it. -/
theorem wpApp1G {α : Type} (E : Enc α) {P : Program} {t e : TypeId} (hT : SlTy P t e E.sz) {ops : Array Oper} {rest : List Oper} {o : Oper} {a : Act} {Q : Exit → Act → World → Prop} {w : World} {arr : Array Value}
    (hgd : o.guard = none) (s x : Operand) (ho : o.op = .call { callee := .builtin .append, args := #[s, x], argTypes := #[t, t] })
    {B : Nat} {v : Value} {xs : List α} (hown : Own E e B w v xs) (y : α) (harr : arr.toList = E.cells y) (hs : a.eval s = v) {G : Nat} (hG : G = w.heap.size) (hx : a.eval x = .slice (some ⟨G, 0, none⟩) 1 1)
    (hB : B ≤ w.heap.size) (hn : xs.length + 1 ≤ big)
    (h : ∀ v' w', Own E e B w' v' (xs ++ [y]) → Below B w w' → (∀ b, b < w.heap.size → v.ownBlock ≠ some b → w'.heap[b]? = w.heap[b]?) → wpList P ops Q rest (a.put o.dst v') w') :
    wpList P ops Q (o :: rest) a (w.alloc (.cells arr e)) := by
  subst hG
  exact wpApp1 E hT hgd s x ho hown y harr hs hx hB hn h
end Go.Proofs.YtkailkfiakagfaaGreat
