/- make with a capacity, copy of elements of any size, append of a slice that may be nil. Condition: lengths are below a great bound. -/
import Derived.Test.YtekkhnjepcebkaaGreatDoorStep
set_option linter.unusedVariables false
set_option linter.unusedSimpArgs false
namespace Go.Proofs.YtekkhnjepcebkaaGreatDoor
open Go.RowKit
set_option maxRecDepth 100000
/-- make([]T, n, m) -/
theorem wpMakeCap {α : Type} (E : Enc α) {P : Program} {t e : TypeId} (hT : SlTy P t e E.sz) {ops : Array Oper} {rest : List Oper} {o : Oper} {a : Act} {Q : Exit → Act → World → Prop} {w : World}
    (hgd : o.guard = none) (l c : Operand) (ho : o.op = .makeSlice t l c) (n m : Nat) (hl : a.eval l = iv n) (hc : a.eval c = iv m) (hnm : n ≤ m) (hm : m ≤ big)
    (h : ∀ w' cs, cs.size = m * E.sz → Blk w' w.heap.size e cs → Below w.heap.size w w' → w'.heap.size = w.heap.size + 1 → wpList P ops Q rest (a.put o.dst (.slice (some ⟨w.heap.size, 0, none⟩) n m)) w') :
    wpList P ops Q (o :: rest) a w := by
  obtain ⟨i, z, hi, hz, hsz, hby, hzc⟩ := hT.info
  unfold big at hm
  have hb' : (i.bytes : Int) * (m : Int) ≤ 281474976710656 := by
    have h1 := Nat.mul_le_mul hby hm
    have h : ((i.bytes * m : Nat) : Int) ≤ 281474976710656 := by omega
    rwa [Int.natCast_mul] at h
  have hr := run_make (P := P) w t e i z hT.ht hi hz .i64 .i64 n m (by omega) (by omega) hb' (by omega)
  simp only [Int.toNat_natCast] at hr
  refine wpList_plain hgd fun K hK' => ?_
  unfold Oper.wp
  simp [execOp, ho, hl, hc, hr, Result.andThen]
  exact hK' _ _ (h _ _ (by rw [size_madeCells, hsz]) (Blk.new _ _ _) ((Below.refl _ _).alloc (Nat.le_refl _) _) (by simp))
/-- copy to the head of a block. -/
theorem run_copyE {α : Type} (E : Enc α) {P : Program} {t e ty : TypeId} (hT : SlTy P t e E.sz) {w : World} {g : Nat} {cur : Array Value} (hB : Blk w g e cur) {A : Option Addr} {ys : List α} (hs : Sl E w A ys) (dl dc c k : Nat)
    (hk : k = Nat.min ys.length dl) (hfit : k * E.sz ≤ cur.size) :
    ∃ w2, (Builtin.copy_ #[t, t] ty #[.slice (some ⟨g, 0, none⟩) dl dc, .slice A ys.length c]).run P w = .ok (iv k) w2 ∧ Blk w2 g e ((ys.take k).flatMap E.cells ++ cur.toList.drop (k * E.sz)).toArray ∧ Below g w w2 := by
  obtain ⟨i, z, hi, hz, hsz, hby, hzc⟩ := hT.info
  by_cases h0 : k = 0
  · refine ⟨w, ?_, ?_, Below.refl _ _⟩
    · cases A with
      | none => simp [Builtin.copy_, run_underlying hT.ht, Builtin.lenOf, Builtin.firstCells, sizeOf, typeInfo, hi, ← hk, h0, storeCells]; rfl
      | some ad => simp [Builtin.copy_, run_underlying hT.ht, Builtin.lenOf, Builtin.firstCells, sizeOf, typeInfo, hi, ← hk, h0, storeCells]; rfl
    · simp [h0]; exact hB
  · have hys : ys ≠ [] := by
      rintro rfl
      simp at hk
      omega
    obtain ⟨b, off, rfl, hb, hc⟩ := hs hys
    have hkl : k ≤ ys.length := by rw [hk]; exact Nat.min_le_left _ _
    have hlen : ((ys.take k).flatMap E.cells).length = k * E.sz := by rw [flat_length, List.length_take, Nat.min_eq_left hkl]
    have hl := run_loadCells_list (P := P) w ⟨b, off, none⟩ ((ys.take k).flatMap E.cells) fun j u hu => by
      obtain ⟨q, y, q', rfl, hq, hu⟩ := flat_inv E _ j u hu
      rw [Addr.add_lit, ← Nat.add_assoc]
      refine hc q y ?_ q' u hu
      rw [List.getElem?_take] at hq
      split at hq
      · exact hq
      · cases hq
    have hst := run_storeCells_at P g 0 e ((ys.take k).flatMap E.cells) 0 cur w hB (by simpa [hlen] using hfit) fun u hu => by
      obtain ⟨y, _, hu⟩ := List.mem_flatMap.1 hu
      exact E.one y u hu
    simp only [Nat.zero_add, Nat.add_zero, List.take_zero, List.nil_append, hlen] at hst hl
    refine ⟨w.setRow g ((ys.take k).flatMap E.cells ++ cur.toList.drop (k * E.sz)).toArray, ?_, setRow_heap w g cur _ e (0, 0) hB, below_setRow (Below.refl g w) (Nat.le_refl _) _⟩
    simp only [Builtin.copy_, run_underlying hT.ht, Builtin.lenOf, Builtin.firstCells, sizeOf, typeInfo, hi, hsz, ← hk]
    simp [hl, hst, Builtin.firstCells, run_underlying hT.ht, sizeOf, typeInfo, Builtin.lenOf, hi, hsz, ← hk, Result.andThen, goInt]
theorem wpCopyE {α : Type} (E : Enc α) {P : Program} {t e : TypeId} (hT : SlTy P t e E.sz) {ops : Array Oper} {rest : List Oper} {o : Oper} {a : Act} {Q : Exit → Act → World → Prop} {w : World}
    (hgd : o.guard = none) (d s : Operand) (ho : o.op = .call { callee := .builtin .copy, args := #[d, s], argTypes := #[t, t] }) {g : Nat} {cur : Array Value} (hB : Blk w g e cur) {A : Option Addr} {ys : List α} (hs : Sl E w A ys) (dl dc c k : Nat)
    (hd : a.eval d = .slice (some ⟨g, 0, none⟩) dl dc) (hse : a.eval s = .slice A ys.length c) (hk : k = Nat.min ys.length dl) (hfit : k * E.sz ≤ cur.size)
    (h : ∀ w', Blk w' g e ((ys.take k).flatMap E.cells ++ cur.toList.drop (k * E.sz)).toArray → Below g w w' → wpList P ops Q rest (a.put o.dst (iv k)) w') : wpList P ops Q (o :: rest) a w := by
  obtain ⟨w2, hr, hB2, hb2⟩ := run_copyE E (ty := o.type) hT hB hs dl dc c k hk hfit
  refine wpList_plain hgd fun K hK => ?_
  unfold Oper.wp
  simp [execOp, ho, resolve, invoke, builtin, hd, hse, hr, Result.andThen]
  exact hK _ _ (h w2 hB2 hb2)
/-- A block whose head holds the list is owned. -/
theorem Own.ofHead {α : Type} {E : Enc α} {e : TypeId} {B : Nat} {w : World} {g n m : Nat} {xs : List α} {rest : List Value} (h : Blk w g e (xs.flatMap E.cells ++ rest).toArray) (hB : B ≤ g) (hn : xs.length = n) (hnm : n ≤ m) (hm : m ≤ maxLen) (hr : n * E.sz + rest.length = m * E.sz) :
    Own E e B w (.slice (some ⟨g, 0, none⟩) n m) xs := by
  subst hn
  exact ⟨flat_length E xs, .inr ⟨g, m, _, rfl, hB, h, hnm, hm, by rw [List.size_toArray, List.length_append, flat_length, hr], by simp [← flat_length E xs]⟩⟩
theorem stepAppO {α : Type} (E : Enc α) {P : Program} {t e : TypeId} (hT : SlTy P t e E.sz) {ops : Array Oper} {o : Oper} {a : Act} {K : Act → World → Prop} {Q : Exit → Act → World → Prop} {E' : Prop} {w : World}
    (hgd : o.guard = none) (s x : Operand) (ho : o.op = .call { callee := .builtin .append, args := #[s, x], argTypes := #[t, t] })
    {B : Nat} {v : Value} {xs : List α} (hown : Own E e B w v xs) {g off : Nat} {n c : Nat} {ys : List α} (hy : Sl E w (some ⟨g, off, none⟩) ys) (hyn : n = ys.length) (hs : a.eval s = v) (hx : a.eval x = .slice (some ⟨g, off, none⟩) n c)
    (hB : B ≤ w.heap.size) (hn : xs.length + ys.length ≤ big)
    (h : ∀ v' w', Own E e B w' v' (xs ++ ys) → Below B w w' → (∀ b, b < w.heap.size → v.ownBlock ≠ some b → w'.heap[b]? = w.heap[b]?) → K (a.put o.dst v') w') :
    if Region.wanted o (yielded ops a.tmps) = true then Oper.wp P o a w K Q else E' := by
  subst hyn
  have hw : Region.wanted o (yielded ops a.tmps) = true := by simp [Region.wanted, hgd]
  rw [if_pos hw]
  obtain ⟨i, z, hi, hz, hsz, hby, hzc⟩ := hT.info
  unfold big at hn
  refine wp_append_own w s x t ho B e i z E.sz i.bytes hT.ht hi hz hsz rfl hzc E.pos v xs.length (xs.flatMap E.cells) hs hown
    ⟨g, off, none⟩ ys.length c (ys.flatMap E.cells) hx (flat_length E ys) ?_ ?_ (by unfold maxLen; omega) (by have := Nat.mul_le_mul hn hby; omega) hB ?_
  · intro j u hu
    obtain ⟨k, y, k', rfl, hk, hu⟩ := flat_inv E ys j u hu
    obtain ⟨b, off', hA, _, hc⟩ := hy (by intro e; subst e; simp at hk)
    injection hA with hA
    injection hA with e1 e2
    subst e1 e2
    rw [Addr.add_lit]
    have := hc k y hk k' u hu
    rw [show off + k * E.sz + k' = off + (k * E.sz + k') from by omega] at this
    exact this
  · intro u hu
    obtain ⟨y, _, hu⟩ := List.mem_flatMap.1 hu
    exact E.one y u hu
  · intro v' w' hown' hg _
    have hlt := Own.lt hown
    exact h v' w' (by unfold Own; simpa using hown') ((Below.refl B w).grown hg hB fun k hk => (hlt k hk).1) fun b hb hv => hg.block b hb (fun e => hv e.symm)
/-- append of a slice that may be nil, and may begin anywhere, at such a step. -/
theorem stepAppA {α : Type} (E : Enc α) {P : Program} {t e : TypeId} (hT : SlTy P t e E.sz) {ops : Array Oper} {o : Oper} {a : Act} {K : Act → World → Prop} {Q : Exit → Act → World → Prop} {E' : Prop} {w : World}
    (hgd : o.guard = none) (s x : Operand) (ho : o.op = .call { callee := .builtin .append, args := #[s, x], argTypes := #[t, t] })
    {B : Nat} {v : Value} {xs : List α} (hown : Own E e B w v xs) {A : Option Addr} {n c : Nat} {ys : List α} (hy : Sl E w A ys) (hyn : n = ys.length) (hs : a.eval s = v) (hx : a.eval x = .slice A n c)
    (hB : B ≤ w.heap.size) (hn : xs.length + ys.length ≤ big)
    (h : ∀ v' w', Own E e B w' v' (xs ++ ys) → Below B w w' → (∀ b, b < w.heap.size → v.ownBlock ≠ some b → w'.heap[b]? = w.heap[b]?) → K (a.put o.dst v') w') :
    if Region.wanted o (yielded ops a.tmps) = true then Oper.wp P o a w K Q else E' := by
  subst hyn
  have hw : Region.wanted o (yielded ops a.tmps) = true := by simp [Region.wanted, hgd]
  rw [if_pos hw]
  obtain ⟨i, z, hi, hz, hsz, hby, hzc⟩ := hT.info
  unfold big at hn
  have hlt := Own.lt hown
  cases A with
  | none =>
    have hys : ys = [] := by
      by_cases h0 : ys = []
      · exact h0
      · obtain ⟨b, off, hA, _⟩ := hy h0
        cases hA
    subst hys
    have hrun : (Builtin.append_ #[t, t] o.type #[v, .slice none 0 c]).run P w = .ok v w := by
      rcases hown.2 with ⟨rfl, hn'⟩ | ⟨g, cap, cur, rfl, _, _, hnc, _⟩
      · simp [Builtin.append_, run_underlying hT.ht, sizeOf, typeInfo, hi, Builtin.lenOf, Builtin.firstCells]
      · simp [Builtin.append_, run_underlying hT.ht, sizeOf, typeInfo, hi, Builtin.lenOf, Builtin.firstCells, hnc, storeCells]
    simp only [List.length_nil] at hx
    unfold Oper.wp
    simp [execOp, ho, resolve, invoke, builtin, hs, hx, hrun, Result.andThen]
    exact h v w (by simpa using hown) (Below.refl _ _) fun _ _ _ => rfl
  | some ad =>
    refine wp_append_own w s x t ho B e i z E.sz i.bytes hT.ht hi hz hsz rfl hzc E.pos v xs.length (xs.flatMap E.cells) hs hown
      ad ys.length c (ys.flatMap E.cells) hx (flat_length E ys) ?_ ?_ (by unfold maxLen; omega) (by have := Nat.mul_le_mul hn hby; omega) hB ?_
    · intro j u hu
      obtain ⟨k, y, k', rfl, hk, hu⟩ := flat_inv E ys j u hu
      obtain ⟨b, off, hA, _, hc⟩ := hy (by intro e; subst e; simp at hk)
      injection hA with hA
      subst hA
      rw [Addr.add_lit]
      rw [← Nat.add_assoc]
      exact hc k y hk k' u hu
    · intro u hu
      obtain ⟨y, _, hu⟩ := List.mem_flatMap.1 hu
      exact E.one y u hu
    · intro v' w' hown' hg _
      exact h v' w' (by unfold Own; simpa using hown') ((Below.refl B w).grown hg hB fun k hk => (hlt k hk).1) fun b hb hv => hg.block b hb (fun e => hv e.symm)
end Go.Proofs.YtekkhnjepcebkaaGreatDoor
