/- The law of regions whose order is open, within a round of a range over a function. Condition: no operation is a defer statement; the round ends at its end. -/
import Derived.Test.YtekkhnjepcebkaaGreatDoorFree
import Derived.Test.YtekkhnjepcebkaaGreatDoorRangeBox
import Derived.Deep.Quiet
import Derived.Maps.AppendAt
import Derived.Deep.RegionHeld3
import Derived.Deep.QuietTactic
import Derived.BigQuiet
set_option linter.unusedVariables false
set_option linter.unusedSimpArgs false
namespace Go.Proofs.YtekkhnjepcebkaaGreatDoor
open Go.RowKit
theorem rowsIn_wide {n : Nat} {P : Program} {row : String} {args : Array Value} {w : World} {R : Value → World → Prop} (h : Rows P row args w R) : RowsIn Fence.wide n P row args w R :=
  fun c cs _ => let ⟨v, w', r, s⟩ := h c cs; ⟨v, w', r, stepsIn_wide.2 s⟩
section
variable {P : Program} {ops : Array Oper} {Q : Exit → Act → World → Prop} {n l : Nat}
theorem opIn_of_op {o : Oper} {a : Act} {w : World} {K : Act → World → Prop} (hd : ∀ c, o.op ≠ .defer c) (h : o.wp P a w K Q) : o.wpIn (Fence.wide.inRound l) n P a w K Q := by
  unfold Oper.wpIn
  refine ⟨fun _ _ => trivial, ?_⟩
  rw [Oper.semAt_eq _ _ _ hd]
  unfold Oper.wp at h
  generalize (execOp a.eval o).run P w = r at *
  cases r with
  | ok x w' =>
    cases x <;> simp only [Oper.upon, Oper.uponIn] at h ⊢ <;>
      first
        | exact h
        | exact h.elim
        | exact ⟨fun e => (by cases e), CallsIn.inRound l (callsIn_wide.2 h)⟩
        | exact ⟨fun e => (by cases e), rowsIn_wide h⟩
  | halt x w' => cases x <;> simp only [Oper.upon, Oper.uponIn] at h ⊢ <;> exact h
theorem anyIn_of_any {md : Region.Mode} (hno : ∀ (i : Nat) (o : Oper), ops[i]? = some o → ∀ c, o.op ≠ .defer c) (hQ : ¬ LetsOut Q) : ∀ (fuel : Nat) (listed : Array Bool) (a : Act) (w : World), wpAny P md ops Q fuel listed a w → wpAnyIn (Fence.wide.inRound l) n P md ops Q fuel listed a w := by
  intro fuel
  induction fuel with
  | zero => intro listed a w h; exact h
  | succ fuel ih =>
    intro listed a w h
    refine ⟨h.1, fun i hi => ?_⟩
    have h2 := h.2 i hi
    unfold wpOp at h2
    unfold wpOpIn
    cases ho : ops[i]? with
    | none => rw [ho] at h2; exact ih _ _ _ h2
    | some o =>
      rw [ho] at h2
      simp only at h2 ⊢
      split
      · rename_i hw
        rw [if_pos hw] at h2
        rcases h2 with h2 | h2
        · exact opIn_of_op (hno i o ho) (Oper.wp_mono (fun a w => ih _ a w) h2)
        · exact absurd h2.2 hQ
      · rename_i hw
        rw [if_neg hw] at h2
        exact ⟨fun _ _ => trivial, ih _ _ _ h2⟩
def noDefer (ops : List Oper) : Bool := ops.all fun o => match o.op with
  | .defer _ => false
  | _ => true
theorem noDefer_spec {L : List Oper} (h : noDefer L = true) : ∀ (i : Nat) (o : Oper), L.toArray[i]? = some o → ∀ c, o.op ≠ .defer c := fun i o ho c e => by
  have hm : o ∈ L := by rw [List.getElem?_toArray] at ho; exact List.mem_of_getElem? ho
  have := List.all_eq_true.1 h o hm
  rw [e] at this
  cases this
/-- The law, within a round. -/
theorem wpIn_free_lit {id : Nat} {a : Act} {w : World} {L : List Oper} (hmx : P.follows .mixedOrders = true) (m : Nat) (h : drawOk L.toArray = true) (ht : tailOk L.toArray m = true) (hm : m ≤ L.length) (hno : noDefer L = true) (hQ : ¬ LetsOut Q) (R : Nat → World → Prop) (S : World → World → Prop) (sps : List Spec)
    (hR : R 0 w.drew) (hop : HopL P L.toArray a R S (fun i => sps.getD i fun _ _ _ => True) 0 (L.take m))
    (hend : ∀ v n w, n ≤ L.length → R n w → (∀ j, j < m → (sps.getD j fun _ _ _ => True) v (v j) w) → wpList P L.toArray Q (L.drop m) (frameF (L.take m) 0 v a) w) : (Code.region id L.toArray true).wpIn (Fence.wide.inRound l) n P Q a w := by
  refine wpIn_region_any hmx (anyIn_of_any (noDefer_spec hno) hQ _ _ _ _ ?_)
  refine free_any h ht (by simpa using hm) (hop_of (by simpa using hop)) (by simpa using hend) L.toArray.size _ a _ (fun _ => undef) 0 (by simp) ?_ ?_ (by simp) ?_ ?_ hR (by simp)
  · intro j hj; simp [Array.getD] at hj
  · intro i oi hi hT; simp [Array.getD] at hT
  · refine ⟨rfl, rfl, fun i oi d hi hd hT => ?_, fun _ _ => rfl⟩
    simp [Array.getD] at hT
  · intro j hj; simp [Array.getD] at hj
/-- A region that only reads, within a round. -/
theorem wpIn_round_quiet {id : Nat} {a : Act} {w : World} {L : List Oper} (hm : P.follows .mixedOrders = true) (hB : Region.lexB .any L.toArray = true) (hno : noDefer L = true) (hQ : ¬ LetsOut Q)
    (h : wpQuiet P L.toArray (fun w' => ∃ n, w' = w.drewN n) (fun a' => ∀ w', (∃ n, w' = w.drewN n) → Q .normal a' w') L a) : (Code.region id L.toArray true).wpIn (Fence.wide.inRound l) n P Q a w := by
  simp only [Region.lexB, Bool.and_eq_true] at hB
  refine wpIn_region_any hm (anyIn_of_any (noDefer_spec hno) hQ _ _ _ _ (wpAny_of_quiet (C := fun w' => ∃ n, w' = w.drewN n) (Q := fun a' => ∀ w', (∃ n, w' = w.drewN n) → Q .normal a' w') (fun _ w' hw' h => h w' hw') _ _ _ _ ⟨1, rfl⟩ ?_))
  have := wpAnyQ_lex (C := fun w' => ∃ n, w' = w.drewN n) (md := .any) hB.1 L 0 (Array.replicate L.toArray.size false) a (by simp) (by simpa using hB.2) h
  simpa using this
/-- A region whose orders are gone through with S in hand, within a round. -/
theorem wpIn_round_held {S : World → Prop} {id : Nat} {a : Act} {w : World} {L : List Oper} (hm : P.follows .mixedOrders = true) (hno : noDefer L = true) (hQ : ¬ LetsOut Q) (hS : S w.drew)
    (h : S w.drew → wpAnyH P .any L.toArray Q S L.toArray.size (Array.replicate L.toArray.size false) a w.drew) : (Code.region id L.toArray true).wpIn (Fence.wide.inRound l) n P Q a w :=
  wpIn_region_any hm (anyIn_of_any (noDefer_spec hno) hQ _ _ _ _ (wpAny_of_held _ _ _ _ (h hS)))
end
/-- append of one element that lies anywhere, at such a step, and where the new slice lies. -/
theorem stepApp1At {α : Type} (E : Enc α) {P : Program} {t e : TypeId} (hT : SlTy P t e E.sz) {ops : Array Oper} {o : Oper} {a : Act} {K : Act → World → Prop} {Q : Exit → Act → World → Prop} {E' : Prop} {w : World}
    (hgd : o.guard = none) (s x : Operand) (ho : o.op = .call { callee := .builtin .append, args := #[s, x], argTypes := #[t, t] })
    {B : Nat} {v : Value} {xs : List α} (hown : Own E e B w v xs) {g off : Nat} {y : α} (hy : Sl E w (some ⟨g, off, none⟩) [y]) (hs : a.eval s = v) (hx : a.eval x = .slice (some ⟨g, off, none⟩) 1 1)
    (hB : B ≤ w.heap.size) (hn : xs.length + 1 ≤ big)
    (h : ∀ v' w', Own E e B w' v' (xs ++ [y]) → Below B w w' → (∀ b, b < w.heap.size → v.ownBlock ≠ some b → w'.heap[b]? = w.heap[b]?) → (v'.ownBlock = v.ownBlock ∨ v'.ownBlock = some w.heap.size) → K (a.put o.dst v') w') :
    if Region.wanted o (yielded ops a.tmps) = true then Oper.wp P o a w K Q else E' := by
  have hw : Region.wanted o (yielded ops a.tmps) = true := by simp [Region.wanted, hgd]
  rw [if_pos hw]
  obtain ⟨i, z, hi, hz, hsz, hby, hzc⟩ := hT.info
  unfold big at hn
  obtain ⟨v', w', hr, h2, h3, _, h5⟩ := run_append_own_at (P := P) w B t o.type e i z E.sz i.bytes hT.ht hi hz hsz rfl hzc E.pos v xs.length (xs.flatMap E.cells) hown
    ⟨g, off, none⟩ 1 1 ([y].flatMap E.cells) (flat_length E [y]) (fun j u hu => by
      obtain ⟨k, y', k', rfl, hk, hu⟩ := flat_inv E [y] j u hu
      obtain ⟨b, off', hA, _, hc⟩ := hy (by simp)
      injection hA with hA
      injection hA with e1 e2
      subst e1 e2
      rw [Addr.add_lit]
      have := hc k y' hk k' u hu
      rw [show off + k * E.sz + k' = off + (k * E.sz + k') from by omega] at this
      exact this) (fun u hu => by
      obtain ⟨y', _, hu⟩ := List.mem_flatMap.1 hu
      exact E.one y' u hu) (by unfold maxLen; omega) (by have := Nat.mul_le_mul hn hby; omega) hB
  unfold Oper.wp execOp
  simp only [ho, resolve, invoke, builtin, Sem.run_bind, Sem.run_pure, Result.andThen_ok, List.map_toArray, List.map_cons, List.map_nil, hs, hx, hr]
  exact h v' w' (by unfold Own; simpa using h2) ((Below.refl B w).grown h3 hB fun k hk => (Own.lt hown k hk).1) (fun b hb hv => h3.block b hb (fun e => hv e.symm)) h5
/-- append of one element in a round. -/
theorem wpApp1In {F : Fence} {m : Nat} {α : Type} (E : Enc α) {P : Program} {t e : TypeId} (hT : SlTy P t e E.sz) {ops : Array Oper} {rest : List Oper} {o : Oper} {a : Act} {Q : Exit → Act → World → Prop} {w : World} {arr : Array Value}
    (hgd : o.guard = none) (s x : Operand) (ho : o.op = .call { callee := .builtin .append, args := #[s, x], argTypes := #[t, t] })
    {B : Nat} {v : Value} {xs : List α} (hown : Own E e B w v xs) (y : α) (harr : arr.toList = E.cells y) (hs : a.eval s = v) {G : Nat} (hG : G = w.heap.size) (hx : a.eval x = .slice (some ⟨G, 0, none⟩) 1 1)
    (hB : B ≤ w.heap.size) (hn : xs.length + 1 ≤ big)
    (h : ∀ v' w', Own E e B w' v' (xs ++ [y]) → Below B w w' → (∀ b, b < w.heap.size → v.ownBlock ≠ some b → w'.heap[b]? = w.heap[b]?) → wpListIn F m P ops Q rest (a.put o.dst v') w') :
    wpListIn F m P ops Q (o :: rest) a (w.alloc (.cells arr e)) := by
  subst hG
  obtain ⟨i, z, hi, hz, hsz, hby, hzc⟩ := hT.info
  unfold big at hn
  refine wpListIn_append_own (w.alloc (.cells arr e)) hgd s x t ho B e i z E.sz i.bytes hT.ht hi hz hsz rfl hzc E.pos v xs.length (xs.flatMap E.cells) hs (World.ownsRow.alloc hown _)
    ⟨w.heap.size, 0, none⟩ 1 1 (E.cells y) hx (by rw [E.len]; omega) ?_ (E.one y) (by unfold maxLen; omega) (by have := Nat.mul_le_mul hn hby; omega) (by simp; omega) ?_
  · intro j u hu
    rw [Addr.add_lit, Nat.zero_add, cell_of_row _ w.heap.size j arr e (0, 0) (heap_alloc_new w _), ← hu, ← harr, Array.getElem?_toList]
  · intro v' w' hown' hg _
    have hlt := Own.lt hown
    refine h v' w' (by unfold Own; simpa using hown') ?_ (fun b hb hv => ?_)
    · exact ((Below.refl B w).alloc hB _).grown hg (by simp; omega) fun k hk => (hlt k hk).1
    · rw [hg.block b (by simp; omega) (fun e => hv e.symm)]
      exact Below.heap_alloc w _ b hb
end Go.Proofs.YtekkhnjepcebkaaGreatDoor
