/- A statement whose order Go leaves open, its last operations last in every order: by an invariant over the set of the operations that are done, their values, and memory. Condition: the operations' order fixes who reads what ('drawOk', 'tailOk', closed facts). -/
import Derived.Test.YtekkhnjepcebkaaGreatDoorFree
import Derived.Test.YtekkhnjepcebkaaGreatDoorMem2
set_option linter.unusedVariables false
set_option linter.unusedSimpArgs false
namespace Go.Proofs.YtekkhnjepcebkaaGreatDoor
open Go.RowKit
/-- One operation keeps the invariant. T: what is done; v: the values. -/
structure InvOp (P : Program) (ops : Array Oper) (a₀ : Act) (I : (Nat → Bool) → (Nat → Value) → World → Prop) (i : Nat) (o : Oper) : Prop where
  step : ∀ T v w, I T v w → T i = false → (∀ j, ((masks ops.toList).getD i 0).testBit j = true → T j = true) → (∀ j, T j = true → ∀ k, ((masks ops.toList).getD j 0).testBit k = true → T k = true) →
    StepF P ops o (frameF (ops.toList.take i) 0 v a₀) w fun u w' => I (fun k => decide (k = i) || T k) (fun k => if k = i then u else v k) w'
section
variable {ops : Array Oper}
theorem inv_any (h : drawOk ops = true) {m : Nat} (ht : tailOk ops m = true) (hm : m ≤ ops.size) {P : Program} {Q : Exit → Act → World → Prop} {a₀ : Act} {I : (Nat → Bool) → (Nat → Value) → World → Prop}
    (hop : ∀ i o, ops.toList[i]? = some o → i < m → InvOp P ops a₀ I i o)
    (hend : ∀ T v w, (∀ j, j < m → T j = true) → I T v w → wpList P ops Q (ops.toList.drop m) (frameF (ops.toList.take m) 0 v a₀) w) :
    ∀ (fuel : Nat) (listed : Array Bool) (a : Act) (w : World) (v : Nat → Value), listed.size = ops.size → (∀ j, listed.getD j false = true → j < m) → Shut ops (fun i => listed.getD i false = true) → listed.toList.count false ≤ fuel →
      Agrees ops a₀ v (fun i => listed.getD i false = true) a → I (fun j => listed.getD j false) v w → wpAny P .any ops Q fuel listed a w := by
  have hall : ∀ (fuel : Nat) (listed : Array Bool) (a : Act) (w : World) (v : Nat → Value), listed.size = ops.size → (∀ j, listed.getD j false = true ↔ j < m) → listed.toList.count false ≤ fuel →
      Agrees ops a₀ v (fun i => listed.getD i false = true) a → I (fun j => listed.getD j false) v w → wpAny P .any ops Q fuel listed a w := by
    intro fuel listed a w v hsz hl hf ha hI
    have hc : listed.toList.count false = listed.toList.length - m := count_split _ m (by simp; omega) fun j hj => by
      rw [← hl j]
      have hb : j < listed.size := by simpa using hj
      simp [Array.getD, hb]
    have hEq : a = frameF (ops.toList.take m) 0 v a₀ := by
      have hcN := frameF_agrees h a₀ v m hm
      have h1 : a.tmps = (frameF (ops.toList.take m) 0 v a₀).tmps := Array.ext_getElem? fun d => ha.same h hcN d fun i oi _ _ => hl i
      have h2 : a.defers = (frameF (ops.toList.take m) 0 v a₀).defers := ha.defers.trans hcN.defers.symm
      cases a; cases hcc : frameF (ops.toList.take m) 0 v a₀; rw [hcc] at h1 h2; simp_all
    refine tail_any h ht fuel m listed a w hsz (Nat.le_refl _) hm hl (by rw [hc] at hf; simp at hf; omega) ?_
    rw [hEq]
    exact hend _ v w (fun j hj => (hl j).2 hj) hI
  intro fuel
  induction fuel with
  | zero =>
    intro listed a w v hsz hlm hshut hfuel ha hI
    refine hall 0 listed a w v hsz (fun j => ⟨hlm j, fun hj => ?_⟩) hfuel ha hI
    have hb : j < listed.size := by omega
    have h0 : listed.toList.count false = 0 := by omega
    have hne : listed[j] ≠ false := fun e => by
      have : 0 < listed.toList.count false := List.count_pos_iff.2 (by rw [← e]; simp)
      omega
    simp [Array.getD, hb]
    simpa using hne
  | succ fuel ih =>
    intro listed a w v hsz hlm hshut hfuel ha hI
    by_cases hdone : ∀ j, j < m → listed.getD j false = true
    · exact hall _ listed a w v hsz (fun j => ⟨hlm j, hdone j⟩) hfuel ha hI
    · obtain ⟨j0, hj0, hjl⟩ : ∃ j, j < m ∧ ¬ listed.getD j false = true := by
        false_or_by_contra
        rename_i hno
        exact hdone fun j hj => Decidable.byContradiction fun hn => hno ⟨j, hj, hn⟩
      have hmask : ∀ i oi, ops.toList[i]? = some oi → (∀ e ∈ oi.after.toList, Region.binds .any e = true → listed.getD e.on false = true) → ∀ j, ((masks ops.toList).getD i 0).testBit j = true → listed.getD j false = true :=
        fun i oi hoi hafter j hb => mask_in h hshut (i + 1) i oi (by omega) hoi hafter j hb
      refine ⟨fun hr => ?_, fun i hi => ?_⟩
      · exfalso
        -- the least one that is not listed is ready
        have : ∀ k j, j < k → j < m → listed.getD j false = true := by
          intro k
          induction k with
          | zero => intro j hj; omega
          | succ k ihk =>
            intro j hjk hjm
            by_cases hl : listed.getD j false = true
            · exact hl
            · exfalso
              have hjs : j < ops.size := by omega
              have hmem : j ∈ Region.ready .any ops listed := by
                simp only [Region.ready, List.mem_filter, List.mem_range, Bool.and_eq_true, Bool.not_eq_true']
                refine ⟨hjs, ?_, ?_⟩
                · have hb : j < listed.size := by omega
                  simp [Array.getD, hb] at hl ⊢
                  exact hl
                · rw [Array.getElem?_eq_getElem hjs]
                  simp only [Option.map_some, Option.getD_some, Array.all_eq_true_iff_forall_mem]
                  intro e he
                  by_cases hb : Region.binds .any e = true
                  · have hlt := (drawOk_spec h).2.1 j ops[j] (by simp [hjs]) e (by simpa using he) hb
                    simp [ihk e.on (by omega) (by omega)]
                  · simp [hb]
              rw [hr] at hmem
              cases hmem
        exact hjl (this (j0 + 1) j0 (by omega) hj0)
      · obtain ⟨oi, hoi, hl, hafter⟩ := ready_mem hi
        have hio : i < ops.size := by have := (List.getElem?_eq_some_iff.1 hoi).1; omega
        have hil : i < listed.size := by omega
        have hunl : ¬ listed.getD i false = true := by
          simp [Array.getD, hil] at hl ⊢
          exact hl
        have him : i < m := by
          false_or_by_contra
          rename_i hno
          exact hjl (hmask i oi hoi hafter j0 (tailOk_spec ht hio (by omega) (by omega)))
        have hset := fun k => getD_set listed i k hil
        have hshut' : Shut ops (fun j => (listed.setIfInBounds i true).getD j false = true) := by
          intro j oj hj hTj e he hb
          rcases (hset j).1 hTj with hTj | rfl
          · exact (hset _).2 (.inl (hshut j oj hj hTj e he hb))
          · rw [hoi] at hj; injection hj with hj; subst hj
            exact (hset _).2 (.inl (hafter e he hb))
        have hcount : (listed.setIfInBounds i true).toList.count false ≤ fuel := by
          have hli : listed.toList[i]'(by simpa using hil) = false := by
            have : listed[i] = false := by simpa [Array.getD, hil] using hl
            simpa using this
          have hm : 0 < listed.toList.count false := List.count_pos_iff.2 (by rw [← hli]; simp)
          rw [Array.toList_setIfInBounds, List.count_set (by simpa using hil), hli]
          simp only [beq_self_eq_true, if_true, show (true == false) = false from rfl, Bool.false_eq_true, if_false]
          omega
        have hlooks : ∀ d ∈ oi.looksAt ops, ∀ j oj, ops.toList[j]? = some oj → oj.dst = some d → (listed.getD j false = true ↔ j < i) := by
          intro d hd j oj hj hjd
          by_cases hji : j = i
          · subst hji
            exact ⟨fun h => absurd h hunl, fun h => absurd h (Nat.lt_irrefl _)⟩
          · have := ((drawOk_spec h).2.2 i j oi oj d hoi hj hji hjd).2 hd
            by_cases hlt : j < i
            · rw [if_pos hlt] at this
              exact ⟨fun _ => hlt, fun _ => hmask i oi hoi hafter j this⟩
            · rw [if_neg hlt] at this
              exact ⟨fun hTj => absurd (mask_in h hshut (j + 1) j oj (by omega) hj (fun e he hb => hshut j oj hj hTj e he hb) i this) hunl, fun h => absurd h hlt⟩
        obtain ⟨he, hwn⟩ := step_alike h ha (frameF_agrees h a₀ v i (by omega)) hoi hlooks
        have hF := hop i oi hoi him
        have hs := (hF.step (fun j => listed.getD j false) v w hI (by simpa using hunl) (fun j hb => hmask i oi hoi hafter j hb) (fun j hj k hb => by
          have hjs : j < ops.size := Nat.lt_of_lt_of_le (hlm j hj) hm
          have hoj : ops.toList[j]? = some ops[j] := by simp [hjs]
          exact hmask j _ hoj (fun e he hb => hshut j _ hoj hj e he hb) k hb)).out
        have hnext : ∀ u w', I (fun k => decide (k = i) || listed.getD k false) (fun k => if k = i then u else v k) w' → wpAny P .any ops Q fuel (listed.setIfInBounds i true) (a.put oi.dst u) w' := by
          rintro u w' h1
          have hv : ∀ j, listed.getD j false = true → v j = (fun k => if k = i then u else v k) j := fun j hj => by
            have : j ≠ i := fun e => hunl (e ▸ hj)
            simp [this]
          have hput := (ha.swap hv).put h hoi hset
          rw [if_pos (rfl : i = i)] at hput
          have hT : (fun k => (listed.setIfInBounds i true).getD k false) = fun k => decide (k = i) || listed.getD k false := by
            funext k
            have := hset k
            cases h1 : (listed.setIfInBounds i true).getD k false <;> cases h2 : listed.getD k false <;> by_cases h3 : k = i <;> simp_all
          refine ih _ _ w' (fun k => if k = i then u else v k) (by simpa using hsz) (fun j hj => ?_) hshut' hcount hput (by rw [hT]; exact h1)
          rcases (hset j).1 hj with hj | rfl
          · exact hlm j hj
          · exact him
        unfold wpOp
        rw [show ops[i]? = some oi by simpa using hoi]
        simp only
        unfold StepG at hs
        rw [← hwn] at hs
        split
        · rename_i hwt
          rw [if_pos hwt, ← he] at hs
          exact .inl (givesF_wp hs hnext)
        · rename_i hwt
          rw [if_neg hwt] at hs
          exact hnext _ _ hs
theorem wp_inv {P : Program} {Q : Exit → Act → World → Prop} {id : Nat} {a : Act} {w : World} (hmx : P.follows .mixedOrders = true) (h : drawOk ops = true) (m : Nat) (ht : tailOk ops m = true) (hm : m ≤ ops.size) (I : (Nat → Bool) → (Nat → Value) → World → Prop)
    (h0 : ∀ v, I (fun _ => false) v w.drew) (hop : ∀ i o, ops.toList[i]? = some o → i < m → InvOp P ops a I i o)
    (hend : ∀ T v w, (∀ j, j < m → T j = true) → I T v w → wpList P ops Q (ops.toList.drop m) (frameF (ops.toList.take m) 0 v a) w) : (Code.region id ops true).wp P Q a w := by
  refine wp_region_any hmx ?_
  refine inv_any h ht hm hop hend ops.size _ a _ (fun _ => undef) (by simp) ?_ ?_ (by simp) ?_ ?_
  · intro j hj; simp [Array.getD] at hj
  · intro i oi hi hT; simp [Array.getD] at hT
  · refine ⟨rfl, rfl, fun i oi d hi hd hT => ?_, fun _ _ => rfl⟩
    simp [Array.getD] at hT
  · have : (fun j => (Array.replicate ops.size false).getD j false) = fun _ => false := by funext j; simp [Array.getD]
    rw [this]
    exact h0 _
def InvL (P : Program) (ops : Array Oper) (a₀ : Act) (I : (Nat → Bool) → (Nat → Value) → World → Prop) : Nat → List Oper → Prop
  | _, [] => True
  | i, o :: l => InvOp P ops a₀ I i o ∧ InvL P ops a₀ I (i + 1) l
theorem inv_from {P : Program} {a₀ : Act} {I : (Nat → Bool) → (Nat → Value) → World → Prop} : ∀ (l : List Oper) (k : Nat), InvL P ops a₀ I k l → ∀ i o, l[i]? = some o → InvOp P ops a₀ I (k + i) o := by
  intro l
  induction l with
  | nil => intro k _ i o h; simp at h
  | cons x l ih =>
    rintro k ⟨h1, h2⟩ i o h
    cases i with
    | zero => simp at h; subst h; exact h1
    | succ i => rw [show k + (i + 1) = k + 1 + i by omega]; exact ih _ h2 i o (by simpa using h)
theorem wp_inv_lit {P : Program} {Q : Exit → Act → World → Prop} {id : Nat} {a : Act} {w : World} {l : List Oper} (hmx : P.follows .mixedOrders = true) (m : Nat) (h : drawOk l.toArray = true) (ht : tailOk l.toArray m = true) (hm : m ≤ l.length) (I : (Nat → Bool) → (Nat → Value) → World → Prop)
    (h0 : ∀ v, I (fun _ => false) v w.drew) (hop : InvL P l.toArray a I 0 (l.take m))
    (hend : ∀ T v w, (∀ j, j < m → T j = true) → I T v w → wpList P l.toArray Q (l.drop m) (frameF (l.take m) 0 v a) w) : (Code.region id l.toArray true).wp P Q a w :=
  wp_inv hmx h m ht (by simpa using hm) I h0 (fun i o hi him => by
    have := inv_from (l.take m) 0 hop i o (by rw [List.getElem?_take_of_lt him]; simpa using hi)
    rwa [Nat.zero_add] at this) (by simpa using hend)
end
end Go.Proofs.YtekkhnjepcebkaaGreatDoor
-- A statement whose order Go leaves open, of which one operation alone changes memory, while the others only give values. Condition: the operations' order fixes who reads what (closed facts).
namespace Go.Proofs.YtekkhnjepcebkaaGreatDoor
open Go.RowKit
/-- One operation: a plain one gives its value and leaves memory alone; the special one (s) comes from Pre to Post. -/
structure OneOp (P : Program) (ops : Array Oper) (a₀ : Act) (s : Nat) (G : World → Prop) (c : List Value) (Pre : World → Prop) (Post : Value → World → Prop) (i : Nat) (o : Oper) : Prop where
  plain : i ≠ s → ∀ v w, G w → (∀ j, ((masks ops.toList).getD i 0).testBit j = true → j ≠ s → v j = c.getD j undef) → StepF P ops o (frameF (ops.toList.take i) 0 v a₀) w fun u w' => u = c.getD i undef ∧ w' = w
  special : i = s → ∀ v w, G w → Pre w → (∀ j, ((masks ops.toList).getD i 0).testBit j = true → j ≠ s → v j = c.getD j undef) → StepF P ops o (frameF (ops.toList.take i) 0 v a₀) w fun u w' => Post u w' ∧ G w'
section
variable {P : Program} {ops : Array Oper} {a₀ : Act} {s : Nat} {G : World → Prop} {c : List Value} {Pre : World → Prop} {Post : Value → World → Prop} {i : Nat} {o : Oper}
theorem one_plain (hi : i ≠ s) (h : ∀ v w, G w → (∀ j, ((masks ops.toList).getD i 0).testBit j = true → j ≠ s → v j = c.getD j undef) → StepF P ops o (frameF (ops.toList.take i) 0 v a₀) w fun u w' => u = c.getD i undef ∧ w' = w) : OneOp P ops a₀ s G c Pre Post i o := ⟨fun _ => h, fun e => absurd e hi⟩
theorem one_special (hi : i = s) (h : ∀ v w, G w → Pre w → (∀ j, ((masks ops.toList).getD i 0).testBit j = true → j ≠ s → v j = c.getD j undef) → StepF P ops o (frameF (ops.toList.take i) 0 v a₀) w fun u w' => Post u w' ∧ G w') : OneOp P ops a₀ s G c Pre Post i o := ⟨fun e => absurd hi e, fun _ => h⟩
end
def OneL (P : Program) (ops : Array Oper) (a₀ : Act) (s : Nat) (G : World → Prop) (c : List Value) (Pre : World → Prop) (Post : Value → World → Prop) : Nat → List Oper → Prop
  | _, [] => True
  | i, o :: l => OneOp P ops a₀ s G c Pre Post i o ∧ OneL P ops a₀ s G c Pre Post (i + 1) l
theorem StepF.mono {P : Program} {ops : Array Oper} {o : Oper} {a : Act} {w : World} {K K' : Value → World → Prop} (h : StepF P ops o a w K) (hk : ∀ u w', K u w' → K' u w') : StepF P ops o a w K' := by
  obtain ⟨h⟩ := h
  refine ⟨?_⟩
  unfold StepG at *
  split
  · rename_i hw
    rw [if_pos hw] at h
    unfold GivesF at *
    split <;> simp_all
    exact h.mono fun e w' ⟨u, h1, h2⟩ => ⟨u, h1, hk _ _ h2⟩
  · rename_i hw
    rw [if_neg hw] at h
    exact hk _ _ h
theorem wp_one_lit {P : Program} {Q : Exit → Act → World → Prop} {id : Nat} {a : Act} {w : World} {l : List Oper} (hmx : P.follows .mixedOrders = true) (m : Nat) (h : drawOk l.toArray = true) (ht : tailOk l.toArray m = true) (hm : m ≤ l.length) (s : Nat) (hs : s < m) (G : World → Prop) (c : List Value) (Pre : World → Prop) (Post : Value → World → Prop)
    (hG : G w.drew) (hP : Pre w.drew) (hop : OneL P l.toArray a s G c Pre Post 0 (l.take m))
    (hend : ∀ v w, G w → Post (v s) w → (∀ j, j < m → j ≠ s → v j = c.getD j undef) → wpList P l.toArray Q (l.drop m) (frameF (l.take m) 0 v a) w) : (Code.region id l.toArray true).wp P Q a w := by
  refine wp_inv_lit hmx m h ht hm (fun T v w => G w ∧ (T s = false → Pre w) ∧ (T s = true → Post (v s) w) ∧ ∀ j, T j = true → j ≠ s → v j = c.getD j undef) (fun v => ⟨hG, fun _ => hP, fun e => (by cases e), fun j e => (by cases e)⟩) ?_ ?_
  · have key : ∀ (ls : List Oper) (k : Nat), OneL P l.toArray a s G c Pre Post k ls → InvL P l.toArray a (fun T v w => G w ∧ (T s = false → Pre w) ∧ (T s = true → Post (v s) w) ∧ ∀ j, T j = true → j ≠ s → v j = c.getD j undef) k ls := by
      intro ls
      induction ls with
      | nil => intro k _; trivial
      | cons o ls ih =>
        rintro k ⟨h1, h2⟩
        refine ⟨⟨fun T v w hI hT hmk _ => ?_⟩, ih (k + 1) h2⟩
        obtain ⟨i1, i2, i3, i4⟩ := hI
        by_cases hk : k = s
        · refine (h1.special hk v w i1 (i2 (by rw [← hk]; exact hT)) fun j hj hne => i4 j (hmk j hj) hne).mono fun u w' ⟨p1, p2⟩ => ?_
          subst hk
          refine ⟨p2, fun e => by simp at e, fun _ => by simpa using p1, fun j hj hne => ?_⟩
          have hj' : T j = true := by simpa [hne] using hj
          show (if j = k then u else v j) = _
          rw [if_neg hne]
          exact i4 j hj' hne
        · refine (h1.plain hk v w i1 fun j hj hne => i4 j (hmk j hj) hne).mono fun u w' ⟨p1, p2⟩ => ?_
          subst p2
          have hsk : decide (s = k) = false := by simp; omega
          refine ⟨i1, fun e => i2 (by simpa [hsk] using e), fun e => ?_, fun j hj hne => ?_⟩
          · show Post (if s = k then u else v s) w'
            rw [if_neg (fun e => hk e.symm)]
            exact i3 (by simpa [hsk] using e)
          · show (if j = k then u else v j) = _
            by_cases hjk : j = k
            · rw [if_pos hjk, hjk]; exact p1
            · rw [if_neg hjk]
              exact i4 j (by simpa [hjk] using hj) hne
    exact key _ 0 hop
  · intro T v w hT ⟨i1, _, i3, i4⟩
    exact hend v w i1 (i3 (hT s hs)) fun j hj hne => i4 j (hT j hj) hne
theorem stepF_appA {α : Type} (E : Enc α) {P : Program} {t e : TypeId} (hT : SlTy P t e E.sz) {ops : Array Oper} {o : Oper} {a : Act} {K : Value → World → Prop} {w : World}
    (hw : Region.wanted o (yielded ops a.tmps) = true) (s x : Operand) (ho : o.op = .call { callee := .builtin .append, args := #[s, x], argTypes := #[t, t] })
    {B : Nat} {v : Value} {xs : List α} (hown : Own E e B w v xs) {A : Option Addr} {n c : Nat} {ys : List α} (hy : Sl E w A ys) (hyn : n = ys.length) (hs : a.eval s = v) (hx : a.eval x = .slice A n c)
    (hB : B ≤ w.heap.size) (hn : xs.length + ys.length ≤ big)
    (h : ∀ v' w', Own E e B w' v' (xs ++ ys) → Below B w w' → (∀ b, b < w.heap.size → v.ownBlock ≠ some b → w'.heap[b]? = w.heap[b]?) → K v' w') : StepF P ops o a w K := by
  subst hyn
  obtain ⟨i, z, hi, hz, hsz, hby, hzc⟩ := hT.info
  unfold big at hn
  cases A with
  | none =>
    have hys : ys = [] := by
      by_cases h0 : ys = []
      · exact h0
      · obtain ⟨b, off, hA, _⟩ := hy h0
        cases hA
    subst hys
    have hrun : (Builtin.append_ #[t, t] o.type #[v, .slice none 0 c]).run P w = .ok v w := by
      rcases hown.2 with ⟨rfl, hn'⟩ | ⟨g, cap, cur, rfl, _, _, hnc, _⟩
      · simp [Builtin.append_, run_underlying hT.ht, sizeOf, typeInfo, hi, Builtin.lenOf, Builtin.firstCells]
      · simp [Builtin.append_, run_underlying hT.ht, sizeOf, typeInfo, hi, Builtin.lenOf, Builtin.firstCells, hnc, storeCells]
    simp only [List.length_nil] at hx
    refine stepF_new hw ?_ (h v w (by simpa using hown) (Below.refl _ _) fun _ _ _ => rfl)
    simp [execOp, ho, resolve, invoke, builtin, hs, hx, hrun, Result.andThen]
  | some ad =>
    obtain ⟨v', w', hr, h2, h3, _⟩ := run_append_own (P := P) w B t o.type e i z E.sz i.bytes hT.ht hi hz hsz rfl hzc E.pos v xs.length (xs.flatMap E.cells) hown
      ad ys.length c (ys.flatMap E.cells) (flat_length E ys) (fun j u hu => by
        obtain ⟨k, y, k', rfl, hk, hu⟩ := flat_inv E ys j u hu
        obtain ⟨b, off', hA, _, hc⟩ := hy (by intro e; subst e; simp at hk)
        injection hA with hA
        subst hA
        rw [Addr.add_lit]
        have := hc k y hk k' u hu
        rw [show off' + k * E.sz + k' = off' + (k * E.sz + k') from by omega] at this
        exact this) (fun u hu => by
        obtain ⟨y, _, hu⟩ := List.mem_flatMap.1 hu
        exact E.one y u hu) (by unfold maxLen; omega) (by have := Nat.mul_le_mul hn hby; omega) hB
    refine stepF_new hw ?_ (h v' w' (by unfold Own; simpa using h2) ((Below.refl B w).grown h3 hB fun k hk => (Own.lt hown k hk).1) fun b hb hv => h3.block b hb (fun e => hv e.symm))
    unfold execOp
    simp only [ho, resolve, invoke, builtin, Sem.run_bind, Sem.run_pure, Result.andThen_ok, List.map_toArray, List.map_cons, List.map_nil, hs, hx, hr]
end Go.Proofs.YtekkhnjepcebkaaGreatDoor
