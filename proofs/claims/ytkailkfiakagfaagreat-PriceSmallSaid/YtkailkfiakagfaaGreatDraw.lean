/- A statement whose order Go leaves open, none of whose operations changes memory that was there: its operations one by one, in the order of the text. Condition: the operations' order fixes who reads what ('drawOk', a closed fact). -/
import Derived.Test.YtkailkfiakagfaaGreatMem
import Derived.Orders
import Derived.RegionTactic
set_option linter.unusedVariables false
set_option linter.unusedSimpArgs false
namespace Go.Proofs.YtkailkfiakagfaaGreat
open Go.RowKit

/-- What an operation's run comes to: the value v, in a world that has B. -/
def Gives (P : Program) (r : Result Next) (v : Value) (B : World → Prop) : Prop :=
  match r with
  | .ok (.value u) w' => u = v ∧ B w'
  | .ok .skip w' => v = undef ∧ B w'
  | .ok (.enter f args) w' => Calls P f args w' fun e w'' => e = .returned v ∧ B w''
  | _ => False
def StepTo (P : Program) (ops : Array Oper) (o : Oper) (a : Act) (w : World) (v : Value) : Prop :=
  if Region.wanted o (yielded ops a.tmps) = true then Gives P ((execOp a.eval o).run P w) v (Below w.heap.size w) else v = undef
/-- The operations one by one; ahead of each, memory may have grown. -/
def Havoc (P : Program) (ops : Array Oper) (Q : Exit → Act → World → Prop) (W : World) : List Oper → Act → Prop
  | [], a => ∀ w, Below W.heap.size W w → Q .normal a w
  | o :: rest, a => ∃ v, (∀ w, Below W.heap.size W w → StepTo P ops o a w v) ∧ Havoc P ops Q W rest (a.put o.dst v)

theorem gives_wp {P : Program} {o : Oper} {a : Act} {w : World} {v : Value} {B : World → Prop} {K : Act → World → Prop} {Q : Exit → Act → World → Prop}
    (h : Gives P ((execOp a.eval o).run P w) v B) (hK : ∀ w', B w' → K (a.put o.dst v) w') : o.wp P a w K Q := by
  unfold Oper.wp
  generalize (execOp a.eval o).run P w = r at h
  match r, h with
  | .ok (.value u) w', ⟨hu, hB⟩ => subst hu; exact hK w' hB
  | .ok .skip w', ⟨hu, hB⟩ => subst hu; exact hK w' hB
  | .ok (.enter f args) w', h =>
    refine Calls.mono (P := P) h ?_
    rintro e w'' ⟨rfl, hB⟩
    exact hK w'' hB

/-- The operations that must come ahead of each: a number whose bits they are. -/
def maskOf (ms : List Nat) (o : Oper) : Nat := o.after.toList.foldl (fun s e => if Region.binds .any e then s ||| 2 ^ e.on ||| ms.getD e.on 0 else s) 0
def masks (l : List Oper) : List Nat := l.foldl (fun ms o => ms ++ [maskOf ms o]) []
def drawOk (ops : Array Oper) : Bool :=
  let l := ops.toList
  let ms := masks l
  Region.noSelect ops &&
  (List.range l.length).all fun i => match l[i]? with
    | none => true
    | some oi =>
      (oi.after.toList.all fun e => !Region.binds .any e || decide (e.on < i)) &&
      (List.range l.length).all fun j => match l[j]? with
        | none => true
        | some oj => j == i || match oj.dst with
          | none => true
          | some d => oi.dst != some d && (!(oi.looksAt ops).contains d || if j < i then (ms.getD i 0).testBit j else (ms.getD j 0).testBit i)

theorem masks_snoc (l : List Oper) (o : Oper) : masks (l ++ [o]) = masks l ++ [maskOf (masks l) o] := by simp [masks, List.foldl_append]
theorem masks_length (l : List Oper) : (masks l).length = l.length := by
  suffices h : ∀ (l : List Oper) (ms : List Nat), (l.foldl (fun ms o => ms ++ [maskOf ms o]) ms).length = ms.length + l.length by simpa [masks] using h l []
  intro l
  induction l with
  | nil => intro ms; rfl
  | cons o l ih => intro ms; rw [List.foldl_cons, ih]; simp; omega
theorem masks_prefix (l : List Oper) : ∀ (ms : List Nat) (i : Nat), i < ms.length → (l.foldl (fun ms o => ms ++ [maskOf ms o]) ms).getD i 0 = ms.getD i 0 := by
  induction l with
  | nil => intro ms i _; rfl
  | cons o l ih =>
    intro ms i h
    rw [List.foldl_cons, ih _ _ (by simp; omega)]
    simp [List.getD_eq_getElem?_getD, List.getElem?_append_left h]
theorem fold_congr {ms ms' : List Nat} {i : Nat} (h : ∀ k, k < i → ms.getD k 0 = ms'.getD k 0) : ∀ (es : List Edge) (s : Nat), (∀ e ∈ es, Region.binds .any e = true → e.on < i) →
    es.foldl (fun s e => if Region.binds .any e then s ||| 2 ^ e.on ||| ms.getD e.on 0 else s) s = es.foldl (fun s e => if Region.binds .any e then s ||| 2 ^ e.on ||| ms'.getD e.on 0 else s) s := by
  intro es
  induction es with
  | nil => intro s _; rfl
  | cons e es ih =>
    intro s ho
    rw [List.foldl_cons, List.foldl_cons]
    by_cases hb : Region.binds .any e = true
    · rw [if_pos hb, if_pos hb, h e.on (ho e List.mem_cons_self hb)]
      exact ih _ fun e he => ho e (List.mem_cons_of_mem _ he)
    · rw [if_neg hb, if_neg hb]
      exact ih _ fun e he => ho e (List.mem_cons_of_mem _ he)
theorem maskOf_congr {ms ms' : List Nat} {o : Oper} {i : Nat} (ho : ∀ e ∈ o.after.toList, Region.binds .any e = true → e.on < i) (h : ∀ k, k < i → ms.getD k 0 = ms'.getD k 0) : maskOf ms o = maskOf ms' o :=
  fold_congr h _ _ ho
theorem masks_get (l : List Oper) (i : Nat) (o : Oper) (h : l[i]? = some o) : (masks l).getD i 0 = maskOf (masks (l.take i)) o := by
  obtain ⟨hi, rfl⟩ := List.getElem?_eq_some_iff.1 h
  have h1 : l = l.take (i + 1) ++ l.drop (i + 1) := (List.take_append_drop _ _).symm
  have h2 : l.take (i + 1) = l.take i ++ [l[i]] := List.take_succ_eq_append_getElem hi
  have hlen : (masks (l.take i)).length = i := by rw [masks_length, List.length_take]; omega
  rw [show masks l = masks (l.take (i + 1) ++ l.drop (i + 1)) from by rw [← h1], h2]
  unfold masks
  rw [List.foldl_append]
  have h3 := masks_snoc (l.take i) l[i]
  rw [show List.foldl (fun ms o => ms ++ [maskOf ms o]) [] (l.take i ++ [l[i]]) = masks (l.take i ++ [l[i]]) from rfl, h3,
    masks_prefix _ _ _ (by simp [hlen])]
  simp [List.getD_eq_getElem?_getD, List.getElem?_append_right, hlen]
  rfl

theorem foldl_bit (ms : List Nat) (j : Nat) : ∀ (es : List Edge) (s : Nat), (es.foldl (fun s e => if Region.binds .any e then s ||| 2 ^ e.on ||| ms.getD e.on 0 else s) s).testBit j = true →
    s.testBit j = true ∨ ∃ e ∈ es, Region.binds .any e = true ∧ (e.on = j ∨ (ms.getD e.on 0).testBit j = true) := by
  intro es
  induction es with
  | nil => intro s h; exact .inl h
  | cons e es ih =>
    intro s h
    rw [List.foldl_cons] at h
    rcases ih _ h with h | ⟨e', he', hb, h⟩
    · by_cases hb : Region.binds .any e = true
      · rw [if_pos hb, Nat.testBit_or, Nat.testBit_or, Bool.or_eq_true, Bool.or_eq_true, Nat.testBit_two_pow] at h
        rcases h with (h | h) | h
        · exact .inl h
        · exact .inr ⟨e, List.mem_cons_self, hb, .inl (by simpa using h)⟩
        · exact .inr ⟨e, List.mem_cons_self, hb, .inr h⟩
      · rw [if_neg hb] at h; exact .inl h
    · exact .inr ⟨e', List.mem_cons_of_mem _ he', hb, h⟩

section
variable {ops : Array Oper}
/-- What drawOk says, taken apart. -/
theorem drawOk_spec (h : drawOk ops = true) : (∀ (j : Nat) (o : Oper), ops.toList[j]? = some o → ∀ cs b, o.op ≠ .select cs b) ∧
    (∀ (i : Nat) (oi : Oper), ops.toList[i]? = some oi → ∀ e ∈ oi.after.toList, Region.binds .any e = true → e.on < i) ∧
    (∀ (i j : Nat) (oi oj : Oper) (d : Tmp), ops.toList[i]? = some oi → ops.toList[j]? = some oj → j ≠ i → oj.dst = some d → oi.dst ≠ some d ∧
      (d ∈ oi.looksAt ops → if j < i then ((masks ops.toList).getD i 0).testBit j = true else ((masks ops.toList).getD j 0).testBit i = true)) := by
  simp only [drawOk, Bool.and_eq_true, List.all_eq_true, List.mem_range] at h
  obtain ⟨h1, h2⟩ := h
  refine ⟨fun j o hj cs b => Region.noSelect_spec h1 j o cs b (by simpa using hj), fun i oi hi e he hb => ?_, fun i j oi oj d hi hj hne hd => ?_⟩
  · have := h2 i (List.getElem?_eq_some_iff.1 hi).1
    rw [hi] at this
    simp only [Bool.and_eq_true, List.all_eq_true, List.mem_range] at this
    have := this.1 e he
    rw [hb] at this
    simpa using this
  · have := h2 i (List.getElem?_eq_some_iff.1 hi).1
    rw [hi] at this
    simp only [Bool.and_eq_true, List.all_eq_true, List.mem_range] at this
    have := this.2 j (List.getElem?_eq_some_iff.1 hj).1
    rw [hj] at this
    simp only [hd, Bool.or_eq_true, beq_iff_eq, hne, false_or, Bool.and_eq_true, bne_iff_ne, ne_eq, Bool.not_eq_true', List.contains_eq_mem, decide_eq_false_iff_not] at this
    refine ⟨this.1, fun hm => ?_⟩
    rcases this.2 with h | h
    · exact absurd hm h
    · split at h <;> rename_i hlt
      · rw [if_pos hlt]; exact h
      · rw [if_neg hlt]; exact h
/-- A set of operations that holds with each what must come ahead of it. -/
def Shut (ops : Array Oper) (T : Nat → Prop) : Prop := ∀ i oi, ops.toList[i]? = some oi → T i → ∀ e ∈ oi.after.toList, Region.binds .any e = true → T e.on
theorem mask_in (h : drawOk ops = true) {T : Nat → Prop} (hT : Shut ops T) : ∀ (n i : Nat) (oi : Oper), i < n → ops.toList[i]? = some oi → (∀ e ∈ oi.after.toList, Region.binds .any e = true → T e.on) →
    ∀ j, ((masks ops.toList).getD i 0).testBit j = true → T j := by
  obtain ⟨_, h2, _⟩ := drawOk_spec h
  intro n
  induction n with
  | zero => intro i _ hi; omega
  | succ n ih =>
    intro i oi hi hoi hall j hj
    have hlen := (List.getElem?_eq_some_iff.1 hoi).1
    have hsame : ∀ k, k < i → (masks (ops.toList.take i)).getD k 0 = (masks ops.toList).getD k 0 := fun k hk => by
      have hk' : ops.toList[k]? = some (ops.toList[k]'(by omega)) := List.getElem?_eq_getElem (by omega)
      rw [masks_get ops.toList k _ hk', masks_get (ops.toList.take i) k _ (by rw [List.getElem?_take, if_pos hk]; exact hk'), List.take_take, Nat.min_eq_left (by omega)]
    rw [masks_get _ _ _ hoi, maskOf_congr (i := i) (fun e he hb => h2 i oi hoi e he hb) hsame] at hj
    rcases foldl_bit _ _ _ _ hj with hz | ⟨e, he, hb, hj⟩
    · simp at hz
    · have hlt := h2 i oi hoi e he hb
      have hTe := hall e he hb
      rcases hj with rfl | hj
      · exact hTe
      · have hoe : ops.toList[e.on]? = some (ops.toList[e.on]'(by omega)) := List.getElem?_eq_getElem (by omega)
        exact ih e.on _ (by omega) hoe (fun e' he' hb' => hT _ _ hoe hTe e' he' hb') j hj

/-- The frame a is a₀ but for the operations of T, which have left the values v. -/
structure Agrees (ops : Array Oper) (a₀ : Act) (v : Nat → Value) (T : Nat → Prop) (a : Act) : Prop where
  defers : a.defers = a₀.defers
  size : a.tmps.size = a₀.tmps.size
  hit : ∀ i oi d, ops.toList[i]? = some oi → oi.dst = some d → T i → d < a₀.tmps.size → a.tmps[d]? = some (v i)
  miss : ∀ d, (∀ i oi, ops.toList[i]? = some oi → oi.dst = some d → ¬ T i) → a.tmps[d]? = a₀.tmps[d]?
theorem Agrees.start (a₀ : Act) (v : Nat → Value) : Agrees ops a₀ v (fun _ => False) a₀ := ⟨rfl, rfl, fun _ _ _ _ _ h => h.elim, fun _ _ => rfl⟩
theorem Agrees.put (h : drawOk ops = true) {a₀ a : Act} {v : Nat → Value} {T T' : Nat → Prop} {i : Nat} {oi : Oper} (ha : Agrees ops a₀ v T a) (hi : ops.toList[i]? = some oi) (hT : ∀ j, T' j ↔ T j ∨ j = i) :
    Agrees ops a₀ v T' (a.put oi.dst (v i)) := by
  obtain ⟨_, _, h3⟩ := drawOk_spec h
  cases hd : oi.dst with
  | none =>
    refine ⟨ha.defers, ha.size, fun k ok d hk hkd hTk hlt => ?_, fun d hd' => ?_⟩
    · rcases (hT k).1 hTk with hTk | rfl
      · exact ha.hit k ok d hk hkd hTk hlt
      · rw [hi] at hk; injection hk with hk; subst hk; rw [hd] at hkd; cases hkd
    · exact ha.miss d fun k ok hk hkd hTk => hd' k ok hk hkd ((hT k).2 (.inl hTk))
  | some d₀ =>
    refine ⟨ha.defers, by simp [Act.put, ha.size], fun k ok d hk hkd hTk hlt => ?_, fun d hd' => ?_⟩
    · by_cases hki : k = i
      · subst hki
        rw [hi] at hk; injection hk with hk; subst hk
        rw [hd] at hkd; injection hkd with hkd; subst hkd
        simp [Act.put, Array.getElem?_setIfInBounds_self_of_lt, ha.size, hlt]
      · have hne : d₀ ≠ d := fun e => (h3 k i ok oi d₀ hk hi (fun e => hki e.symm) hd).1 (e ▸ hkd)
        have hTk' : T k := by rcases (hT k).1 hTk with h | h; exact h; exact absurd h hki
        simp only [Act.put, Array.getElem?_setIfInBounds_ne hne]
        exact ha.hit k ok d hk hkd hTk' hlt
    · have hne : d₀ ≠ d := fun e => hd' i oi hi (e ▸ hd) ((hT i).2 (.inr rfl))
      simp only [Act.put, Array.getElem?_setIfInBounds_ne hne]
      exact ha.miss d fun k ok hk hkd hTk => hd' k ok hk hkd ((hT k).2 (.inl hTk))
/-- Two frames read alike at a slot whose writers they have in common. -/
theorem Agrees.same (h : drawOk ops = true) {a₀ a b : Act} {v : Nat → Value} {T U : Nat → Prop} (ha : Agrees ops a₀ v T a) (hb : Agrees ops a₀ v U b) (d : Tmp)
    (hTU : ∀ i oi, ops.toList[i]? = some oi → oi.dst = some d → (T i ↔ U i)) : a.tmps[d]? = b.tmps[d]? := by
  by_cases hw : ∃ i oi, ops.toList[i]? = some oi ∧ oi.dst = some d ∧ T i
  · obtain ⟨i, oi, hi, hd, hTi⟩ := hw
    by_cases hlt : d < a₀.tmps.size
    · rw [ha.hit i oi d hi hd hTi hlt, hb.hit i oi d hi hd ((hTU i oi hi hd).1 hTi) hlt]
    · rw [Array.getElem?_eq_none (ha.size ▸ Nat.le_of_not_lt hlt), Array.getElem?_eq_none (hb.size ▸ Nat.le_of_not_lt hlt)]
  · rw [ha.miss d fun i oi hi hd hTi => hw ⟨i, oi, hi, hd, hTi⟩, hb.miss d fun i oi hi hd hUi => hw ⟨i, oi, hi, hd, (hTU i oi hi hd).2 hUi⟩]

theorem step_alike (h : drawOk ops = true) {a₀ a b : Act} {v : Nat → Value} {T U : Nat → Prop} {i : Nat} {oi : Oper} (ha : Agrees ops a₀ v T a) (hb : Agrees ops a₀ v U b) (hi : ops.toList[i]? = some oi)
    (hTU : ∀ d ∈ oi.looksAt ops, ∀ j oj, ops.toList[j]? = some oj → oj.dst = some d → (T j ↔ U j)) :
    execOp a.eval oi = execOp b.eval oi ∧ Region.wanted oi (yielded ops a.tmps) = Region.wanted oi (yielded ops b.tmps) := by
  have hslot : ∀ d ∈ oi.looksAt ops, a.tmps[d]? = b.tmps[d]? := fun d hd => ha.same h hb d (hTU d hd)
  refine ⟨execOp_congr oi (fun cs b => (drawOk_spec h).1 i oi hi cs b) fun x hx => ?_, ?_⟩
  · cases x with
    | tmp t =>
      have := hslot t (List.mem_append_left _ (List.mem_filterMap.2 ⟨.tmp t, by simpa using hx, rfl⟩))
      simp [Act.eval, this]
    | _ => rfl
  · unfold Region.wanted
    cases hg : oi.guard with
    | none => rfl
    | some gw =>
      obtain ⟨g, want⟩ := gw
      have : yielded ops a.tmps g = yielded ops b.tmps g := by
        unfold yielded
        cases ht : (ops[g]?).bind (·.dst) with
        | none => rfl
        | some t =>
          have := hslot t (by simp [Oper.looksAt, hg, ht])
          simp [this]
      simp only [this]

theorem getD_set (listed : Array Bool) (i k : Nat) (hi : i < listed.size) : ((listed.setIfInBounds i true).getD k false = true) ↔ (listed.getD k false = true ∨ k = i) := by
  simp only [Array.getD_eq_getD_getElem?, Array.getElem?_setIfInBounds]
  by_cases hk : i = k
  · subst hk; simp [hi]
  · rw [if_neg hk]
    exact ⟨.inl, fun h => h.elim id fun e => absurd e.symm hk⟩
theorem ready_mem {listed : Array Bool} {i : Nat} (hi : i ∈ Region.ready .any ops listed) : ∃ oi, ops.toList[i]? = some oi ∧ listed.getD i true = false ∧ ∀ e ∈ oi.after.toList, Region.binds .any e = true → listed.getD e.on false = true := by
  simp only [Region.ready, List.mem_filter, List.mem_range, Bool.and_eq_true, Bool.not_eq_true'] at hi
  obtain ⟨hlt, hl, hall⟩ := hi
  refine ⟨ops[i], by simp [hlt], hl, fun e he hb => ?_⟩
  rw [Array.getElem?_eq_getElem hlt] at hall
  simp only [Option.map_some, Option.getD_some, Array.all_eq_true_iff_forall_mem] at hall
  have := hall e (by simpa using he)
  rw [hb] at this
  simpa using this

theorem havoc_any (h : drawOk ops = true) {P : Program} {Q : Exit → Act → World → Prop} {W : World} {a₀ aN : Act} {v : Nat → Value} {c : Nat → Act}
    (hc : ∀ i, i ≤ ops.size → Agrees ops a₀ v (fun j => j < i) (c i)) (hN : c ops.size = aN)
    (hstep : ∀ i oi, ops.toList[i]? = some oi → ∀ w, Below W.heap.size W w → StepTo P ops oi (c i) w (v i)) (hQ : ∀ w, Below W.heap.size W w → Q .normal aN w) :
    ∀ (fuel : Nat) (listed : Array Bool) (a : Act) (w : World), listed.size = ops.size → Shut ops (fun i => listed.getD i false = true) → listed.toList.count false ≤ fuel →
      Agrees ops a₀ v (fun i => listed.getD i false = true) a → Below W.heap.size W w → wpAny P .any ops Q fuel listed a w := by
  have hlen : ops.toList.length = ops.size := Array.length_toList
  have hfin : ∀ (listed : Array Bool) (a : Act) (w : World), listed.size = ops.size → Region.ready .any ops listed = [] → Agrees ops a₀ v (fun i => listed.getD i false = true) a → Below W.heap.size W w → Q .normal a w := by
    intro listed a w hsz hr ha hw
    have hall : ∀ n i, i < n → i < ops.size → listed.getD i false = true := by
      intro n
      induction n with
      | zero => intro i hi; omega
      | succ n ih =>
        intro i hi hio
        by_cases hl : listed.getD i false = true
        · exact hl
        · exfalso
          have hmem : i ∈ Region.ready .any ops listed := by
            simp only [Region.ready, List.mem_filter, List.mem_range, Bool.and_eq_true, Bool.not_eq_true']
            refine ⟨hio, ?_, ?_⟩
            · have hb : i < listed.size := by omega
              simp [Array.getD, hb] at hl ⊢
              exact hl
            · rw [Array.getElem?_eq_getElem hio]
              simp only [Option.map_some, Option.getD_some, Array.all_eq_true_iff_forall_mem]
              intro e he
              by_cases hb : Region.binds .any e = true
              · have hlt := (drawOk_spec h).2.1 i ops[i] (by simp [hio]) e (by simpa using he) hb
                simp [ih e.on (by omega) (by omega)]
              · simp [hb]
          rw [hr] at hmem
          cases hmem
    have hEq : a = aN := by
      rw [← hN]
      have hcN := hc ops.size (Nat.le_refl _)
      have h1 : a.tmps = (c ops.size).tmps := Array.ext_getElem? fun d => ha.same h hcN d fun i oi hi _ => by
        have : i < ops.size := by have := (List.getElem?_eq_some_iff.1 hi).1; omega
        exact ⟨fun _ => this, fun _ => hall (i + 1) i (by omega) this⟩
      have h2 : a.defers = (c ops.size).defers := ha.defers.trans hcN.defers.symm
      cases a; cases hcc : c ops.size; rw [hcc] at h1 h2; simp_all
    rw [hEq]
    exact hQ w hw
  intro fuel
  induction fuel with
  | zero =>
    intro listed a w hsz hshut hfuel ha hw
    have hr : Region.ready .any ops listed = [] := by
      apply List.eq_nil_iff_forall_not_mem.2
      intro i hi
      obtain ⟨oi, hoi, hl, _⟩ := ready_mem hi
      have hb : i < listed.size := by have := (List.getElem?_eq_some_iff.1 hoi).1; omega
      have hm : false ∈ listed.toList := by
        have hli : listed[i] = false := by simpa [Array.getD, hb] using hl
        rw [← hli]
        simp
      have := List.count_pos_iff.2 hm
      omega
    exact ⟨hr, hfin listed a w hsz hr ha hw⟩
  | succ fuel ih =>
    intro listed a w hsz hshut hfuel ha hw
    refine ⟨fun hr => hfin listed a w hsz hr ha hw, fun i hi => ?_⟩
    obtain ⟨oi, hoi, hl, hafter⟩ := ready_mem hi
    have hio : i < ops.size := by have := (List.getElem?_eq_some_iff.1 hoi).1; omega
    have hunl : ¬ listed.getD i false = true := by
      have hb : i < listed.size := by omega
      simp [Array.getD, hb] at hl ⊢
      exact hl
    have hil : i < listed.size := by omega
    have hset := fun k => getD_set listed i k hil
    have hshut' : Shut ops (fun j => (listed.setIfInBounds i true).getD j false = true) := by
      intro j oj hj hTj e he hb
      rcases (hset j).1 hTj with hTj | rfl
      · exact (hset _).2 (.inl (hshut j oj hj hTj e he hb))
      · rw [hoi] at hj; injection hj with hj; subst hj
        exact (hset _).2 (.inl (hafter e he hb))
    have hcount : (listed.setIfInBounds i true).toList.count false ≤ fuel := by
      have hli : listed.toList[i]'(by simpa using hil) = false := by
        have : listed[i] = false := by simpa [Array.getD, hil] using hl
        simpa using this
      have hm : 0 < listed.toList.count false := List.count_pos_iff.2 (by rw [← hli]; simp)
      rw [Array.toList_setIfInBounds, List.count_set (by simpa using hil), hli]
      simp only [beq_self_eq_true, if_true, show (true == false) = false from rfl, Bool.false_eq_true, if_false]
      omega
    have hlooks : ∀ d ∈ oi.looksAt ops, ∀ j oj, ops.toList[j]? = some oj → oj.dst = some d → (listed.getD j false = true ↔ j < i) := by
      intro d hd j oj hj hjd
      by_cases hji : j = i
      · subst hji
        exact ⟨fun h => absurd h hunl, fun h => absurd h (Nat.lt_irrefl _)⟩
      · have := ((drawOk_spec h).2.2 i j oi oj d hoi hj hji hjd).2 hd
        by_cases hlt : j < i
        · rw [if_pos hlt] at this
          exact ⟨fun _ => hlt, fun _ => mask_in h hshut (i + 1) i oi (by omega) hoi hafter j this⟩
        · rw [if_neg hlt] at this
          exact ⟨fun hTj => absurd (mask_in h hshut (j + 1) j oj (by omega) hj (fun e he hb => hshut j oj hj hTj e he hb) i this) hunl, fun h => absurd h hlt⟩
    obtain ⟨he, hwn⟩ := step_alike h ha (hc i (by omega)) hoi hlooks
    have hs := hstep i oi hoi w hw
    have hput : Agrees ops a₀ v (fun j => (listed.setIfInBounds i true).getD j false = true) (a.put oi.dst (v i)) := ha.put h hoi hset
    unfold wpOp
    rw [show ops[i]? = some oi by simpa using hoi]
    simp only
    unfold StepTo at hs
    rw [← hwn] at hs
    split
    · rename_i hwt
      rw [if_pos hwt, ← he] at hs
      refine .inl (gives_wp hs fun w' hB => ?_)
      exact ih _ _ w' (by simpa using hsz) hshut' hcount hput (hw.next hB (Nat.le_refl _))
    · rename_i hwt
      rw [if_neg hwt] at hs
      rw [← hs]
      exact ih _ _ w (by simpa using hsz) hshut' hcount hput hw
theorem havoc_split {P : Program} {Q : Exit → Act → World → Prop} {W : World} : ∀ (l : List Oper) (a : Act), Havoc P ops Q W l a → ∃ (v : Nat → Value) (c : Nat → Act), c 0 = a ∧
    (∀ i o, l[i]? = some o → c (i + 1) = (c i).put o.dst (v i) ∧ ∀ w, Below W.heap.size W w → StepTo P ops o (c i) w (v i)) ∧ ∀ w, Below W.heap.size W w → Q .normal (c l.length) w := by
  intro l
  induction l with
  | nil => intro a h; exact ⟨fun _ => undef, fun _ => a, rfl, fun i o h => by simp at h, h⟩
  | cons o l ih =>
    rintro a ⟨v0, hs, hrest⟩
    obtain ⟨v, c, hc0, hc, hQ⟩ := ih _ hrest
    refine ⟨fun i => match i with | 0 => v0 | i + 1 => v i, fun i => match i with | 0 => a | i + 1 => c i, rfl, fun i o' hi => ?_, hQ⟩
    cases i with
    | zero =>
      simp at hi
      subst hi
      exact ⟨hc0, hs⟩
    | succ i => exact hc i o' (by simpa using hi)
theorem wp_havoc {P : Program} {Q : Exit → Act → World → Prop} {id : Nat} {a : Act} {w : World} (hm : P.follows .mixedOrders = true) (h : drawOk ops = true) (hh : Havoc P ops Q w ops.toList a) : (Code.region id ops true).wp P Q a w := by
  refine wp_region_any hm ?_
  obtain ⟨v, c, hc0, hc, hQ⟩ := havoc_split _ _ hh
  have hag : ∀ i, i ≤ ops.size → Agrees ops a v (fun j => j < i) (c i) := by
    intro i
    induction i with
    | zero => intro _; rw [hc0]; exact ⟨rfl, rfl, fun _ _ _ _ _ h => absurd h (Nat.not_lt_zero _), fun _ _ => rfl⟩
    | succ i ih =>
      intro hi
      have hoi : ops.toList[i]? = some (ops.toList[i]'(by simp; omega)) := List.getElem?_eq_getElem _
      rw [(hc i _ hoi).1]
      exact (ih (by omega)).put h hoi fun j => by omega
  refine havoc_any h hag rfl (fun i oi hi => (hc i oi hi).2) (by simpa using hQ) ops.size _ a _ (by simp) ?_ (by simp) ?_ ((Below.refl _ _).drew)
  · intro i oi hi hT
    simp [Array.getD] at hT
  · refine ⟨rfl, rfl, fun i oi d hi hd hT => ?_, fun _ _ => rfl⟩
    simp [Array.getD] at hT
theorem wp_havoc_lit {P : Program} {Q : Exit → Act → World → Prop} {id : Nat} {a : Act} {w : World} {l : List Oper} (hm : P.follows .mixedOrders = true) (h : drawOk l.toArray = true) (hh : Havoc P l.toArray Q w l a) : (Code.region id l.toArray true).wp P Q a w :=
  wp_havoc hm h (by simpa using hh)
variable {P : Program} {Q : Exit → Act → World → Prop} {W : World} {o : Oper} {rest : List Oper} {a : Act} {v : Value}
theorem hv_nil (h : ∀ w, Below W.heap.size W w → Q .normal a w) : Havoc P ops Q W [] a := h
theorem hv_skip (hw : Region.wanted o (yielded ops a.tmps) = false) (h : Havoc P ops Q W rest (a.put o.dst undef)) : Havoc P ops Q W (o :: rest) a :=
  ⟨undef, fun w _ => by unfold StepTo; rw [hw]; rfl, h⟩
theorem hv_val (hw : Region.wanted o (yielded ops a.tmps) = true) (hr : ∀ w, Below W.heap.size W w → (execOp a.eval o).run P w = .ok (.value v) w) (h : Havoc P ops Q W rest (a.put o.dst v)) : Havoc P ops Q W (o :: rest) a :=
  ⟨v, fun w hb => by unfold StepTo; rw [hw, if_pos rfl, hr w hb]; exact ⟨rfl, Below.refl _ _⟩, h⟩
theorem hv_call {f : FuncId} {args : Array Value} (hw : Region.wanted o (yielded ops a.tmps) = true) (hr : ∀ w, Below W.heap.size W w → (execOp a.eval o).run P w = .ok (.enter f args) w)
    (hc : ∀ w, Below W.heap.size W w → Calls P f args w fun e w' => e = .returned v ∧ Below w.heap.size w w') (h : Havoc P ops Q W rest (a.put o.dst v)) : Havoc P ops Q W (o :: rest) a :=
  ⟨v, fun w hb => by unfold StepTo; rw [hw, if_pos rfl, hr w hb]; exact hc w hb, h⟩
end
end Go.Proofs.YtkailkfiakagfaaGreat
