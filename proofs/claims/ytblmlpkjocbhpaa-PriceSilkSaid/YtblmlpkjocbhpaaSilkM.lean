/- A map of one key that the call made, whose element is a slice; an append at a step of a statement whose order Go leaves open. No condition. -/
import Derived.Test.YtblmlpkjocbhpaaSilkB
import Derived.Test.YtblmlpkjocbhpaaMapk
import Derived.Test.YtblmlpkjocbhpaaFree
set_option linter.unusedVariables false
set_option linter.unusedSimpArgs false
namespace Go.Proofs.Ytblmlpkjocbhpaa
open Go.RowKit Go.Maps
set_option maxRecDepth 100000
def nilV : Value := .slice none 0 0
open Classical in
/-- How the map's elements read: the one slice as 1, nil as 0. -/
noncomputable def oneElem (u : Value) (v : Value) : Option (DataW Unit × List MemPlace) :=
  if v = nilV then some (.lit (.int .i64 0), []) else if v = u then some (.lit (.int .i64 1), []) else none
theorem oneElem_nil (u : Value) : oneElem u nilV = some (.lit (.int .i64 0), []) := by unfold oneElem; rw [if_pos rfl]
theorem oneElem_self {u : Value} (h : u ≠ nilV) : oneElem u u = some (.lit (.int .i64 1), []) := by unfold oneElem; rw [if_neg h, if_pos rfl]
theorem oneElem_inv0 {u v : Value} {ps : List MemPlace} (h : oneElem u v = some (.lit (.int .i64 0), ps)) : v = nilV := by
  unfold oneElem at h
  split at h
  · assumption
  · split at h
    · injection h with h; injection h with h; injection h with h; injection h with _ h; cases h
    · cases h
theorem oneElem_inv1 {u v : Value} {ps : List MemPlace} (h : oneElem u v = some (.lit (.int .i64 1), ps)) : v = u := by
  unfold oneElem at h
  split at h
  · injection h with h; injection h with h; injection h with h; injection h with _ h; cases h
  · split at h
    · assumption
    · cases h
/-- Block b is a map whose one entry is u at the key -1. -/
def OneMap (P : Program) (t : TypeId) (w : World) (b : Nat) (u : Value) : Prop := w.ownsMap P t (oneElem u) b 1 ((DataW.map []).put (.int .i64 (-1)) (.lit (.int .i64 1)))
/-- Block b is an empty map. -/
def NoMap (w : World) (b : Nat) : Prop := w.heap[b]? = some (.map #[] 0)
section
variable {P : Program} {t mt e : TypeId} {w w' : World} {b : Nat} {u : Value}
theorem NoMap.owns (h : NoMap w b) (P : Program) (t : TypeId) (R : Value → Option (DataW Unit × List MemPlace)) : w.ownsMap P t R b 0 (.map []) := by
  unfold NoMap at h
  exact ⟨#[], 0, h, ⟨by simp, MapKept.stamped_empty 0, by simp⟩, Nat.le_refl _, rfl⟩
theorem NoMap.lookup (h : NoMap w b) (hk : P.underlying t = some (.int .i64)) (ht : P.underlying mt = some (.map t e)) (hz : (zeroValue e).run P w = .ok nilV w) {x : Int} (hx : keyOf P t (iv x) = some (.int .i64 x)) :
    (Instr.lookup mt (.map (some b)) (iv x) false).run P w = .ok nilV w := by
  obtain ⟨v, ps, h1, h2⟩ := (h.owns P t (oneElem nilV)).lookup (int_keyed hk) ht hz (oneElem_nil _) hx
  have h3 := oneElem_inv0 (u := nilV) (ps := ps) (by rw [h2]; rfl)
  rw [h1, h3]
theorem NoMap.put (h : NoMap w b) (hk : P.underlying t = some (.int .i64)) (ht : P.underlying mt = some (.map t e)) (hx : keyOf P t (iv (-1)) = some (.int .i64 (-1))) (hu : u ≠ nilV) :
    ∃ w', (Instr.mapUpdate mt (.map (some b)) (iv (-1)) u).run P w = .ok () w' ∧ OneMap P t w' b u ∧ w.grownBy w' (some b) :=
  (h.owns P t (oneElem u)).update (int_keyed hk) ht (by decide) hx (oneElem_self hu)
theorem OneMap.lookup_self (h : OneMap P t w b u) (hk : P.underlying t = some (.int .i64)) (ht : P.underlying mt = some (.map t e)) (hz : (zeroValue e).run P w = .ok nilV w) (hx : keyOf P t (iv (-1)) = some (.int .i64 (-1))) :
    (Instr.lookup mt (.map (some b)) (iv (-1)) false).run P w = .ok u w := by
  obtain ⟨v, ps, h1, h2⟩ := World.ownsMap.lookup h (int_keyed hk) ht hz (oneElem_nil _) hx
  rw [atKey_put_same tidy_empty.isMap (isKeyInt (by decide))] at h2
  rw [h1, oneElem_inv1 h2]
theorem OneMap.lookup_other (h : OneMap P t w b u) (hk : P.underlying t = some (.int .i64)) (ht : P.underlying mt = some (.map t e)) (hz : (zeroValue e).run P w = .ok nilV w) {x : Int} (hx : keyOf P t (iv x) = some (.int .i64 x)) (hne : x ≠ -1) :
    (Instr.lookup mt (.map (some b)) (iv x) false).run P w = .ok nilV w := by
  obtain ⟨v, ps, h1, h2⟩ := World.ownsMap.lookup h (int_keyed hk) ht hz (oneElem_nil _) hx
  rw [atKey_put_other (by intro he; injection he with _ he; exact hne he)] at h2
  have h3 := oneElem_inv0 (u := u) (ps := ps) (by rw [h2]; rfl)
  rw [h1, h3]
theorem OneMap.below (h : OneMap P t w b u) (hb : Below w.heap.size w w') : OneMap P t w' b u :=
  World.ownsMap.kept (row := none) h ⟨hb.os, hb.tape, hb.output, hb.size, fun k hk _ => hb.block k hk⟩ (by simp)
theorem OneMap.lt (h : OneMap P t w b u) : b < w.heap.size := World.ownsMap.lt h
end
/-- append of a slice to a slice of the call's own, at such a step. -/
theorem stepF_app {α : Type} (E : Enc α) {P : Program} {t e : TypeId} (hT : SlTy P t e E.sz) {ops : Array Oper} {o : Oper} {a : Act} {K : Value → World → Prop} {w : World}
    (hw : Region.wanted o (yielded ops a.tmps) = true) (s x : Operand) (ho : o.op = .call { callee := .builtin .append, args := #[s, x], argTypes := #[t, t] })
    {B : Nat} {v : Value} {xs : List α} (hown : Own E e B w v xs) {g off : Nat} {n c : Nat} {ys : List α} (hy : Sl E w (some ⟨g, off, none⟩) ys) (hyn : n = ys.length) (hs : a.eval s = v) (hx : a.eval x = .slice (some ⟨g, off, none⟩) n c)
    (hB : B ≤ w.heap.size) (hn : xs.length + ys.length ≤ big)
    (h : ∀ v' w', Own E e B w' v' (xs ++ ys) → Below B w w' → (∀ b, b < w.heap.size → v.ownBlock ≠ some b → w'.heap[b]? = w.heap[b]?) → K v' w') : StepF P ops o a w K := by
  subst hyn
  obtain ⟨i, z, hi, hz, hsz, hby, hzc⟩ := hT.info
  unfold big at hn
  obtain ⟨v', w', hr, h2, h3, _⟩ := run_append_own (P := P) w B t o.type e i z E.sz i.bytes hT.ht hi hz hsz rfl hzc E.pos v xs.length (xs.flatMap E.cells) hown
    ⟨g, off, none⟩ ys.length c (ys.flatMap E.cells) (flat_length E ys) (fun j u hu => by
      obtain ⟨k, y, k', rfl, hk, hu⟩ := flat_inv E ys j u hu
      obtain ⟨b, off', hA, _, hc⟩ := hy (by intro e; subst e; simp at hk)
      injection hA with hA
      injection hA with e1 e2
      subst e1 e2
      rw [Addr.add_lit]
      have := hc k y hk k' u hu
      rw [show off + k * E.sz + k' = off + (k * E.sz + k') from by omega] at this
      exact this) (fun u hu => by
      obtain ⟨y, _, hu⟩ := List.mem_flatMap.1 hu
      exact E.one y u hu) (by unfold maxLen; omega) (by have := Nat.mul_le_mul hn hby; omega) hB
  refine stepF_new hw ?_ (h v' w' (by unfold Own; simpa using h2) ((Below.refl B w).grown h3 hB fun k hk => (Own.lt hown k hk).1) fun b hb hv => h3.block b hb (fun e => hv e.symm))
  unfold execOp
  simp only [ho, resolve, invoke, builtin, Sem.run_bind, Sem.run_pure, Result.andThen_ok, List.map_toArray, List.map_cons, List.map_nil, hs, hx, hr]
end Go.Proofs.Ytblmlpkjocbhpaa
