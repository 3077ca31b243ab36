/- FileAlike: the last statement whose order Go leaves open: what is known after any set of its operations. -/
import Derived.Test.YtkhmkpcihphkcaaDoorFreeInv
import Derived.Test.YtkhmkpcihphkcaaDoorFlL
set_option linter.unusedVariables false
set_option linter.unusedSimpArgs false
namespace Go.Proofs.YtkhmkpcihphkcaaDoor
open Go.RowKit
theorem stepF_app {α : Type} (E : Enc α) {P : Program} {t e : TypeId} (hT : SlTy P t e E.sz) {ops : Array Oper} {o : Oper} {a : Act} {K : Value → World → Prop} {w : World}
    (hw : Region.wanted o (yielded ops a.tmps) = true) (s x : Operand) (ho : o.op = .call { callee := .builtin .append, args := #[s, x], argTypes := #[t, t] })
    {B : Nat} {v : Value} {xs : List α} (hown : Own E e B w v xs) {g off : Nat} {n c : Nat} {ys : List α} (hy : Sl E w (some ⟨g, off, none⟩) ys) (hyn : n = ys.length) (hs : a.eval s = v) (hx : a.eval x = .slice (some ⟨g, off, none⟩) n c)
    (hB : B ≤ w.heap.size) (hn : xs.length + ys.length ≤ big)
    (h : ∀ v' w', Own E e B w' v' (xs ++ ys) → Below B w w' → (∀ b, b < w.heap.size → v.ownBlock ≠ some b → w'.heap[b]? = w.heap[b]?) → K v' w') : StepF P ops o a w K := by
  subst hyn
  obtain ⟨i, z, hi, hz, hsz, hby, hzc⟩ := hT.info
  unfold big at hn
  obtain ⟨v', w', hr, h2, h3, _⟩ := run_append_own (P := P) w B t o.type e i z E.sz i.bytes hT.ht hi hz hsz rfl hzc E.pos v xs.length (xs.flatMap E.cells) hown
    ⟨g, off, none⟩ ys.length c (ys.flatMap E.cells) (flat_length E ys) (fun j u hu => by
      obtain ⟨k, y, k', rfl, hk, hu⟩ := flat_inv E ys j u hu
      obtain ⟨b, off', hA, _, hc⟩ := hy (by intro e; subst e; simp at hk)
      injection hA with hA
      injection hA with e1 e2
      subst e1 e2
      rw [Addr.add_lit]
      have := hc k y hk k' u hu
      rw [show off + k * E.sz + k' = off + (k * E.sz + k') from by omega] at this
      exact this) (fun u hu => by
      obtain ⟨y, _, hu⟩ := List.mem_flatMap.1 hu
      exact E.one y u hu) (by unfold maxLen; omega) (by have := Nat.mul_le_mul hn hby; omega) hB
  refine stepF_new hw ?_ (h v' w' (by unfold Own; simpa using h2) ((Below.refl B w).grown h3 hB fun k hk => (Own.lt hown k hk).1) fun b hb hv => h3.block b hb (fun e => hv e.symm))
  unfold execOp
  simp only [ho, resolve, invoke, builtin, Sem.run_bind, Sem.run_pure, Result.andThen_ok, List.map_toArray, List.map_cons, List.map_nil, hs, hx, hr]
theorem stepF_skip {P : Program} {ops : Array Oper} {o : Oper} {a : Act} {w w' : World} {K : Value → World → Prop} (hw : Region.wanted o (yielded ops a.tmps) = true) (hr : (execOp a.eval o).run P w = .ok .skip w') (hK : K undef w') : StepF P ops o a w K := by
  refine ⟨?_⟩; unfold StepG; rw [hw, if_pos rfl, hr]; exact hK
namespace Fl
open Go.RowKit Go.Shelf
set_option maxRecDepth 100000
theorem ownNe {α : Type} {E : Enc α} {e t : TypeId} {B : Nat} {w : World} {v : Value} {xs : List α} {g : Nat} {cs : Array Value} (h : Own E e B w v xs) (hb : Blk w g t cs) (ht : t ≠ e) : v.ownBlock ≠ some g := fun hv => by
  rcases h.2 with ⟨rfl, _⟩ | ⟨g', cap, cur, rfl, _, hg, _⟩
  · cases hv
  · have hg' : g' = g := by simpa [Value.ownBlock] using hv
    unfold Blk at hb
    rw [hg', hb] at hg
    injection hg with hg
    injection hg with _ h2 _
    exact ht h2
structure JI (B : Nat) (W : World) (X Y : Value) (a b : List ByteArray) (en : ByteArray) (p q : Int) (T : Nat → Bool) (v : Nat → Value) (w : World) : Prop where
  bel : Below B W w
  f0 : T 0 = true → v 0 = X
  f4 : T 4 = true → v 4 = Y
  f1 : T 1 = true → T 3 = false → Own strE 9 B w (v 1) a
  f2 : T 2 = true → T 3 = false → Own strE 9 B w (v 2) [en]
  f3 : T 3 = true → Own strE 9 B w (v 3) (a ++ [en])
  f5 : T 5 = true → T 7 = false → Own strE 9 B w (v 5) b
  f6 : T 6 = true → T 7 = false → Own strE 9 B w (v 6) [en]
  f7 : T 7 = true → Own strE 9 B w (v 7) (b ++ [en])
  d16 : T 1 = true → T 6 = true → T 3 = false → ∀ g, (v 1).ownBlock = some g → (v 6).ownBlock ≠ some g
  d35 : T 3 = true → T 5 = true → T 7 = false → ∀ g, (v 5).ownBlock = some g → (v 3).ownBlock ≠ some g
  f8 : T 8 = true → v 8 = .tuple #[.agg #[iv p, iv q], iv 0]
  f9 : T 9 = true → v 9 = .tuple #[.agg #[iv p, iv q], iv 0]
  f10 : T 10 = true → v 10 = .agg #[iv p, iv q]
  f11 : T 11 = true → v 11 = iv 0
  f12 : T 12 = true → T 13 = false → ∃ gb, v 12 = .pointer (some ⟨gb, 0, none⟩) ∧ B ≤ gb ∧ Blk w gb 54 #[iv 0, iv 0]
  f13 : T 12 = true → T 13 = true → ∃ gb, v 12 = .pointer (some ⟨gb, 0, none⟩) ∧ B ≤ gb ∧ Blk w gb 54 #[iv p, iv q]
variable {B : Nat} {W : World} {X Y : Value} {a b : List ByteArray} {en : ByteArray} {p q : Int} {T : Nat → Bool} {v : Nat → Value} {w w' : World} {u : Value}
theorem JI.below (h : JI B W X Y a b en p q T v w) (hb : Below w.heap.size w w') (hB : B = W.heap.size) : JI B W X Y a b en p q T v w' :=
  { h with
    bel := h.bel.next hb (by omega)
    f1 := fun h1 h2 => (h.f1 h1 h2).below hb
    f2 := fun h1 h2 => (h.f2 h1 h2).below hb
    f3 := fun h1 => (h.f3 h1).below hb
    f5 := fun h1 h2 => (h.f5 h1 h2).below hb
    f6 := fun h1 h2 => (h.f6 h1 h2).below hb
    f7 := fun h1 => (h.f7 h1).below hb
    f12 := fun h1 h2 => by obtain ⟨gb, e1, e2, e3⟩ := h.f12 h1 h2; exact ⟨gb, e1, e2, e3.under hb⟩
    f13 := fun h1 h2 => by obtain ⟨gb, e1, e2, e3⟩ := h.f13 h1 h2; exact ⟨gb, e1, e2, e3.under hb⟩ }
abbrev up (T : Nat → Bool) (i : Nat) : Nat → Bool := fun k => decide (k = i) || T k
abbrev upv (v : Nat → Value) (i : Nat) (u : Value) : Nat → Value := fun k => if k = i then u else v k
theorem JI.s0 (h : JI B W X Y a b en p q T v w) (hu : u = X) : JI B W X Y a b en p q (up T 0) (upv v 0 u) w :=
  ⟨h.bel, fun _ => hu, h.f4, h.f1, h.f2, h.f3, h.f5, h.f6, h.f7, h.d16, h.d35, h.f8, h.f9, h.f10, h.f11, h.f12, h.f13⟩
theorem JI.s4 (h : JI B W X Y a b en p q T v w) (hu : u = Y) : JI B W X Y a b en p q (up T 4) (upv v 4 u) w :=
  ⟨h.bel, h.f0, fun _ => hu, h.f1, h.f2, h.f3, h.f5, h.f6, h.f7, h.d16, h.d35, h.f8, h.f9, h.f10, h.f11, h.f12, h.f13⟩
theorem JI.s1 (h0 : JI B W X Y a b en p q T v w) (hb : Below w.heap.size w w') (hB : B = W.heap.size) (hu : Own strE 9 w.heap.size w' u a) (hcl : T 7 = true → T 3 = true) : JI B W X Y a b en p q (up T 1) (upv v 1 u) w' :=
  have h := h0.below hb hB
  ⟨h.bel, h.f0, h.f4, fun _ _ => hu.base (by have := h0.bel.size; omega), h.f2, h.f3, h.f5, h.f6, h.f7,
    fun _ h6 h3 g hg hv => by
      have h7 : T 7 = false := by cases e : T 7 with
        | false => rfl
        | true => have h3' : T 3 = false := h3; rw [hcl e] at h3'; cases h3'
      have e1 := (hu.lt g hg).1
      have e2 := ((h0.f6 h6 h7).lt g hv).2
      omega, h.d35, h.f8, h.f9, h.f10, h.f11, h.f12, h.f13⟩
theorem JI.s2 (h0 : JI B W X Y a b en p q T v w) (hb : Below w.heap.size w w') (hB : B = W.heap.size) (hu : Own strE 9 w.heap.size w' u [en]) : JI B W X Y a b en p q (up T 2) (upv v 2 u) w' :=
  have h := h0.below hb hB
  ⟨h.bel, h.f0, h.f4, h.f1, fun _ _ => hu.base (by have := h0.bel.size; omega), h.f3, h.f5, h.f6, h.f7, h.d16, h.d35, h.f8, h.f9, h.f10, h.f11, h.f12, h.f13⟩
theorem JI.s6 (h0 : JI B W X Y a b en p q T v w) (hb : Below w.heap.size w w') (hB : B = W.heap.size) (hu : Own strE 9 w.heap.size w' u [en]) : JI B W X Y a b en p q (up T 6) (upv v 6 u) w' :=
  have h := h0.below hb hB
  ⟨h.bel, h.f0, h.f4, h.f1, h.f2, h.f3, h.f5, fun _ _ => hu.base (by have := h0.bel.size; omega), h.f7,
    fun h1 _ h3 g hg hv => by
      have e1 := (hu.lt g hv).1
      have e2 := ((h0.f1 h1 h3).lt g hg).2
      omega, h.d35, h.f8, h.f9, h.f10, h.f11, h.f12, h.f13⟩
theorem JI.s5 (h0 : JI B W X Y a b en p q T v w) (hb : Below w.heap.size w w') (hB : B = W.heap.size) (hu : Own strE 9 w.heap.size w' u b) : JI B W X Y a b en p q (up T 5) (upv v 5 u) w' :=
  have h := h0.below hb hB
  ⟨h.bel, h.f0, h.f4, h.f1, h.f2, h.f3, fun _ _ => hu.base (by have := h0.bel.size; omega), h.f6, h.f7, h.d16,
    fun h3 _ _ g hg hv => by
      have e1 := (hu.lt g hg).1
      have e2 := ((h0.f3 h3).lt g hv).2
      omega, h.f8, h.f9, h.f10, h.f11, h.f12, h.f13⟩
theorem JI.s12 (h0 : JI B W X Y a b en p q T v w) (hB : B = W.heap.size) (hu : u = .pointer (some ⟨w.heap.size, 0, none⟩)) (h13 : T 13 = true → T 12 = true) (h12 : T 12 = false) : JI B W X Y a b en p q (up T 12) (upv v 12 u) (w.alloc (.cells #[iv 0, iv 0] 54)) :=
  have h := h0.below ((Below.refl _ w).alloc (Nat.le_refl _) _) hB
  ⟨h.bel, h.f0, h.f4, h.f1, h.f2, h.f3, h.f5, h.f6, h.f7, h.d16, h.d35, h.f8, h.f9, h.f10, h.f11, fun _ _ => ⟨w.heap.size, hu, by have := h0.bel.size; omega, Blk.new _ _ _⟩, fun _ e => by rw [h13 e] at h12; cases h12⟩
theorem JI.s3 (h : JI B W X Y a b en p q T v w) (hown : Own strE 9 B w' u (a ++ [en])) (hb : Below B w w') (hk : ∀ g, g < w.heap.size → (v 1).ownBlock ≠ some g → w'.heap[g]? = w.heap[g]?)
    (h1 : T 1 = true) (h3 : T 3 = false) (hcl : T 5 = true → T 3 = true) (hcl7 : T 7 = true → T 3 = true) : JI B W X Y a b en p q (up T 3) (upv v 3 u) w' := by
  have n5 : T 5 = true → False := fun e => by rw [hcl e] at h3; cases h3
  have n7 : T 7 = true → False := fun e => by rw [hcl7 e] at h3; cases h3
  have no1 := h.f1 h1 h3
  refine ⟨h.bel.trans hb, h.f0, h.f4, fun _ e => (by cases e), fun _ e => (by cases e), fun _ => hown, fun e _ => (n5 e).elim, fun e6 e7 => ?_, fun e => (n7 e).elim, fun _ _ e => (by cases e), fun _ e => (n5 e).elim, h.f8, h.f9, h.f10, h.f11, fun e e' => ?_, fun e e' => ?_⟩
  · exact (h.f6 e6 e7).keep hb.size fun g hg => hk g ((h.f6 e6 e7).lt g hg).2 (fun e => h.d16 h1 e6 h3 g e hg)
  · obtain ⟨gb, e1, e2, e3⟩ := h.f12 e e'
    exact ⟨gb, e1, e2, (hk gb e3.lt (ownNe no1 e3 (by decide))).trans e3⟩
  · obtain ⟨gb, e1, e2, e3⟩ := h.f13 e e'
    exact ⟨gb, e1, e2, (hk gb e3.lt (ownNe no1 e3 (by decide))).trans e3⟩
theorem JI.s7 (h : JI B W X Y a b en p q T v w) (hown : Own strE 9 B w' u (b ++ [en])) (hb : Below B w w') (hk : ∀ g, g < w.heap.size → (v 5).ownBlock ≠ some g → w'.heap[g]? = w.heap[g]?)
    (h3 : T 3 = true) (h5 : T 5 = true) (h7 : T 7 = false) : JI B W X Y a b en p q (up T 7) (upv v 7 u) w' := by
  have no5 := h.f5 h5 h7
  have no3 := h.f3 h3
  refine ⟨h.bel.trans hb, h.f0, h.f4, fun _ e => (by have e' : T 3 = false := e; rw [h3] at e'; cases e'), fun _ e => (by have e' : T 3 = false := e; rw [h3] at e'; cases e'), fun _ => ?_, fun _ e => (by cases e), fun _ e => (by cases e), fun _ => hown, fun _ _ e => (by have e' : T 3 = false := e; rw [h3] at e'; cases e'), fun _ _ e => (by cases e), h.f8, h.f9, h.f10, h.f11, fun e e' => ?_, fun e e' => ?_⟩
  · exact no3.keep hb.size fun g hg => hk g (no3.lt g hg).2 (fun e => h.d35 h3 h5 h7 g e hg)
  · obtain ⟨gb, e1, e2, e3⟩ := h.f12 e e'
    exact ⟨gb, e1, e2, (hk gb e3.lt (ownNe no5 e3 (by decide))).trans e3⟩
  · obtain ⟨gb, e1, e2, e3⟩ := h.f13 e e'
    exact ⟨gb, e1, e2, (hk gb e3.lt (ownNe no5 e3 (by decide))).trans e3⟩
theorem JI.s8 (h0 : JI B W X Y a b en p q T v w) (hb : Below w.heap.size w w') (hB : B = W.heap.size) (hu : u = .tuple #[.agg #[iv p, iv q], iv 0]) : JI B W X Y a b en p q (up T 8) (upv v 8 u) w' :=
  have h := h0.below hb hB
  ⟨h.bel, h.f0, h.f4, h.f1, h.f2, h.f3, h.f5, h.f6, h.f7, h.d16, h.d35, fun _ => hu, h.f9, h.f10, h.f11, h.f12, h.f13⟩
theorem JI.s9 (h : JI B W X Y a b en p q T v w) (hu : u = .tuple #[.agg #[iv p, iv q], iv 0]) : JI B W X Y a b en p q (up T 9) (upv v 9 u) w :=
  ⟨h.bel, h.f0, h.f4, h.f1, h.f2, h.f3, h.f5, h.f6, h.f7, h.d16, h.d35, h.f8, fun _ => hu, h.f10, h.f11, h.f12, h.f13⟩
theorem JI.s10 (h : JI B W X Y a b en p q T v w) (hu : u = .agg #[iv p, iv q]) : JI B W X Y a b en p q (up T 10) (upv v 10 u) w :=
  ⟨h.bel, h.f0, h.f4, h.f1, h.f2, h.f3, h.f5, h.f6, h.f7, h.d16, h.d35, h.f8, h.f9, fun _ => hu, h.f11, h.f12, h.f13⟩
theorem JI.s11 (h : JI B W X Y a b en p q T v w) (hu : u = iv 0) : JI B W X Y a b en p q (up T 11) (upv v 11 u) w :=
  ⟨h.bel, h.f0, h.f4, h.f1, h.f2, h.f3, h.f5, h.f6, h.f7, h.d16, h.d35, h.f8, h.f9, h.f10, fun _ => hu, h.f12, h.f13⟩
theorem JI.s13 {gb : Nat} (h : JI B W X Y a b en p q T v w) (hg : v 12 = .pointer (some ⟨gb, 0, none⟩)) (hB : B ≤ gb) (hb : Blk w gb 54 #[iv 0, iv 0]) (h3 : T 3 = true) (h7 : T 7 = true) : JI B W X Y a b en p q (up T 13) (upv v 13 u) ((w.setCell ⟨gb, 0, none⟩ (iv p)).setCell ⟨gb, 1, none⟩ (iv q)) := by
  have hk : ∀ {x : Value} {xs : List ByteArray}, Own strE 9 B w x xs → Own strE 9 B ((w.setCell ⟨gb, 0, none⟩ (iv p)).setCell ⟨gb, 1, none⟩ (iv q)) x xs := fun ho =>
    ho.keep (by simp [World.setCell]) fun g hgg => by
      have hne : g ≠ gb := fun e => ownNe ho hb (by decide) (e ▸ hgg)
      rw [Below.heap_setCell _ _ _ g hne, Below.heap_setCell _ _ _ g hne]
  refine ⟨(h.bel.setCell (p := ⟨gb, 0, none⟩) hB _).setCell (p := ⟨gb, 1, none⟩) hB _, h.f0, h.f4, fun _ e => (by have e' : T 3 = false := e; rw [h3] at e'; cases e'), fun _ e => (by have e' : T 3 = false := e; rw [h3] at e'; cases e'), fun e => hk (h.f3 e), fun _ e => (by have e' : T 7 = false := e; rw [h7] at e'; cases e'), fun _ e => (by have e' : T 7 = false := e; rw [h7] at e'; cases e'), fun e => hk (h.f7 e), h.d16, h.d35, h.f8, h.f9, h.f10, h.f11, fun _ e => (by cases e), fun _ _ => ⟨gb, hg, hB, (hb.set_ 0 _).set_ 1 _⟩⟩
end Fl
end Go.Proofs.YtkhmkpcihphkcaaDoor
