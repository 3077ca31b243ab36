/- A statement whose order Go leaves open, whose last operations come last in every order: the first ones one by one, in the order of the text, their values told by what is known of them; then the last ones. Condition: the operations' order fixes who reads what ('drawOk', 'tailOk', closed facts). -/
import Derived.Test.YtkailkfiakagfaaGreatDraw
set_option linter.unusedVariables false
set_option linter.unusedSimpArgs false
namespace Go.Proofs.YtkailkfiakagfaaGreat
open Go.RowKit

/-- What is known of an operation's value: by the values of those that it depends on, and memory. -/
abbrev Spec := (Nat → Value) → Value → World → Prop
def GivesF (P : Program) (r : Result Next) (K : Value → World → Prop) : Prop :=
  match r with
  | .ok (.value u) w' => K u w'
  | .ok .skip w' => K undef w'
  | .ok (.enter f args) w' => Calls P f args w' fun e w'' => ∃ u, e = .returned u ∧ K u w''
  | _ => False
def StepG (P : Program) (ops : Array Oper) (o : Oper) (a : Act) (w : World) (K : Value → World → Prop) : Prop :=
  if Region.wanted o (yielded ops a.tmps) = true then GivesF P ((execOp a.eval o).run P w) K else K undef w
/-- The like as a structure: no tactic looks behind it by itself (a run that is looked into costs minutes where a function has many slots). -/
structure StepF (P : Program) (ops : Array Oper) (o : Oper) (a : Act) (w : World) (K : Value → World → Prop) : Prop where
  out : StepG P ops o a w K
theorem givesF_wp {P : Program} {o : Oper} {a : Act} {w : World} {K0 : Value → World → Prop} {K : Act → World → Prop} {Q : Exit → Act → World → Prop}
    (h : GivesF P ((execOp a.eval o).run P w) K0) (hK : ∀ u w', K0 u w' → K (a.put o.dst u) w') : o.wp P a w K Q := by
  unfold Oper.wp
  generalize (execOp a.eval o).run P w = r at h
  match r, h with
  | .ok (.value u) w', h => exact hK u w' h
  | .ok .skip w', h => exact hK undef w' h
  | .ok (.enter f args) w', h =>
    refine Calls.mono (P := P) h ?_
    rintro e w'' ⟨u, rfl, hu⟩
    exact hK u w'' hu
/-- The frame behind the first i operations. -/
def frameF : List Oper → Nat → (Nat → Value) → Act → Act
  | [], _, _, a => a
  | o :: l, i, v, a => frameF l (i + 1) v (a.put o.dst (v i))
theorem frameF_snoc (v : Nat → Value) : ∀ (l : List Oper) (i : Nat) (a : Act) (o : Oper), frameF (l ++ [o]) i v a = (frameF l i v a).put o.dst (v (i + l.length)) := by
  intro l
  induction l with
  | nil => intro i a o; rfl
  | cons x l ih => intro i a o; simp only [List.cons_append, frameF, ih, List.length_cons]; rw [show i + 1 + l.length = i + (l.length + 1) by omega]
/-- All that an operation depends on is known. -/
def Known (ops : Array Oper) (sp : Nat → Spec) (i : Nat) (v : Nat → Value) (w : World) : Prop := ∀ j, ((masks ops.toList).getD i 0).testBit j = true → sp j v (v j) w
structure FreeOp (P : Program) (ops : Array Oper) (a₀ : Act) (R : Nat → World → Prop) (S : World → World → Prop) (sp : Nat → Spec) (i : Nat) (o : Oper) : Prop where
  congr : ∀ v v' u w, (∀ j, ((masks ops.toList).getD i 0).testBit j = true → v j = v' j) → sp i v u w → sp i v' u w
  stable : ∀ v u w w', sp i v u w → S w w' → sp i v u w'
  step : ∀ v n w, n < ops.size → R n w → Known ops sp i v w → StepF P ops o (frameF (ops.toList.take i) 0 v a₀) w fun u w' => sp i v u w' ∧ S w w' ∧ R (n + 1) w'
def tailOk (ops : Array Oper) (m : Nat) : Bool := (List.range ops.size).all fun i => decide (i < m) || (List.range i).all fun j => ((masks ops.toList).getD i 0).testBit j
theorem tailOk_spec {ops : Array Oper} {m : Nat} (h : tailOk ops m = true) {i j : Nat} (hi : i < ops.size) (hm : m ≤ i) (hj : j < i) : ((masks ops.toList).getD i 0).testBit j = true := by
  simp only [tailOk, List.all_eq_true, List.mem_range, Bool.or_eq_true, decide_eq_true_eq] at h
  rcases h i hi with h | h
  · omega
  · exact h j hj
section
variable {ops : Array Oper}
theorem frameF_agrees (h : drawOk ops = true) (a₀ : Act) (v : Nat → Value) : ∀ i, i ≤ ops.size → Agrees ops a₀ v (fun j => j < i) (frameF (ops.toList.take i) 0 v a₀) := by
  intro i
  induction i with
  | zero => intro _; rw [List.take_zero]; exact ⟨rfl, rfl, fun _ _ _ _ _ h => absurd h (Nat.not_lt_zero _), fun _ _ => rfl⟩
  | succ i ih =>
    intro hi
    have hoi : ops.toList[i]? = some (ops.toList[i]'(by simp; omega)) := List.getElem?_eq_getElem _
    rw [take_at hoi, frameF_snoc, List.length_take, Nat.zero_add, Nat.min_eq_left (by simp; omega)]
    exact (ih (by omega)).put h hoi fun j => by omega
/-- The last operations, one by one. -/
theorem tail_any (h : drawOk ops = true) {m : Nat} (ht : tailOk ops m = true) {P : Program} {Q : Exit → Act → World → Prop} :
    ∀ (fuel i : Nat) (listed : Array Bool) (a : Act) (w : World), listed.size = ops.size → m ≤ i → i ≤ ops.size → (∀ j, listed.getD j false = true ↔ j < i) → ops.size - i ≤ fuel → wpList P ops Q (ops.toList.drop i) a w → wpAny P .any ops Q fuel listed a w := by
  have hready : ∀ (listed : Array Bool) (i : Nat), m ≤ i → (∀ j, listed.getD j false = true ↔ j < i) → ∀ k ∈ Region.ready .any ops listed, k = i := by
    intro listed i hmi hl k hk
    obtain ⟨ok, hok, hkl, hka⟩ := ready_mem hk
    have hks : k < ops.size := by have := (List.getElem?_eq_some_iff.1 hok).1; simpa using this
    have hki : ¬ k < i := fun hlt => by
      have h1 := (hl k).2 hlt
      have hb : k < listed.size := by
        false_or_by_contra
        rename_i hno
        simp [Array.getD, hno] at h1
      simp [Array.getD, hb] at hkl h1
      rw [hkl] at h1; cases h1
    false_or_by_contra
    rename_i hne
    have hbit := tailOk_spec ht hks (by omega) (show i < k by omega)
    have hsh : Shut ops (fun j => j < i) := by
      intro x ox hx hxi e he hb
      have := (drawOk_spec h).2.1 x ox hx e he hb
      omega
    have := mask_in h hsh (k + 1) k ok (by omega) hok (fun e he hb => (hl _).1 (hka e he hb)) i hbit
    omega
  intro fuel
  induction fuel with
  | zero =>
    intro i listed a w hsz hmi hil hl hf hw
    have hi : i = ops.size := by omega
    have hr : Region.ready .any ops listed = [] := by
      apply List.eq_nil_iff_forall_not_mem.2
      intro k hk
      have := hready listed i hmi hl k hk
      obtain ⟨ok, hok, _, _⟩ := ready_mem hk
      have hks : k < ops.size := by have := (List.getElem?_eq_some_iff.1 hok).1; simpa using this
      omega
    rw [hi, List.drop_of_length_le (by simp)] at hw
    exact ⟨hr, hw⟩
  | succ fuel ih =>
    intro i listed a w hsz hmi hil hl hf hw
    by_cases hi : i = ops.size
    · refine ⟨fun _ => ?_, fun k hk => ?_⟩
      · rw [hi, List.drop_of_length_le (by simp)] at hw
        exact hw
      · have := hready listed i hmi hl k hk
        obtain ⟨ok, hok, _, _⟩ := ready_mem hk
        have hks : k < ops.size := by have := (List.getElem?_eq_some_iff.1 hok).1; simpa using this
        omega
    · have hlt : i < ops.size := by omega
      have hoi : ops.toList[i]? = some ops[i] := by simp [hlt]
      rw [drop_at hoi] at hw
      refine ⟨fun hr => ?_, fun k hk => ?_⟩
      · exfalso
        have hmem : i ∈ Region.ready .any ops listed := by
          simp only [Region.ready, List.mem_filter, List.mem_range, Bool.and_eq_true, Bool.not_eq_true']
          refine ⟨hlt, ?_, ?_⟩
          · have hn : ¬ listed.getD i false = true := fun hh => absurd ((hl i).1 hh) (Nat.lt_irrefl _)
            have hb : i < listed.size := by omega
            simp [Array.getD, hb] at hn ⊢
            exact hn
          · rw [Array.getElem?_eq_getElem hlt]
            simp only [Option.map_some, Option.getD_some, Array.all_eq_true_iff_forall_mem]
            intro e he
            by_cases hb : Region.binds .any e = true
            · have := (drawOk_spec h).2.1 i ops[i] hoi e (by simpa using he) hb
              simp [(hl e.on).2 this]
            · simp [hb]
        rw [hr] at hmem
        cases hmem
      · obtain rfl := hready listed i hmi hl k hk
        unfold wpOp
        rw [show ops[k]? = some ops[k] by simp [hlt]]
        simp only [wpList] at hw ⊢
        have hset := fun j => getD_set listed k j (by omega)
        have hnext : ∀ a w, wpList P ops Q (ops.toList.drop (k + 1)) a w → wpAny P .any ops Q fuel (listed.setIfInBounds k true) a w := fun a w hh =>
          ih (k + 1) _ a w (by simpa using hsz) (by omega) (by omega) (fun j => by rw [hset, hl]; omega) (by omega) hh
        split
        · rename_i hwt
          rw [if_pos hwt] at hw
          rcases hw with hw | hw
          · exact .inl (Oper.wp_mono (fun a w hh => hnext a w hh) hw)
          · exact .inr hw
        · rename_i hwt
          rw [if_neg hwt] at hw
          exact hnext _ _ hw
theorem Agrees.swap {a₀ a : Act} {v v' : Nat → Value} {T : Nat → Prop} (ha : Agrees ops a₀ v T a) (hv : ∀ i, T i → v i = v' i) : Agrees ops a₀ v' T a :=
  ⟨ha.defers, ha.size, fun i oi d h1 h2 h3 h4 => by rw [← hv i h3]; exact ha.hit i oi d h1 h2 h3 h4, ha.miss⟩
theorem count_split : ∀ (l : List Bool) (m : Nat), m ≤ l.length → (∀ j, j < l.length → (l[j]? = some true ↔ j < m)) → l.count false = l.length - m := by
  intro l
  induction l with
  | nil => intro m _ _; simp
  | cons x l ih =>
    intro m hm h
    have h0 := h 0 (by simp)
    simp only [List.getElem?_cons_zero, Option.some.injEq] at h0
    cases m with
    | zero =>
      have hx : x = false := by
        cases x
        · rfl
        · exact absurd (h0.1 rfl) (by omega)
      subst hx
      have := ih 0 (Nat.zero_le _) fun j hj => by
        have := h (j + 1) (by simpa using hj)
        simpa using this
      simp [this]
    | succ m =>
      have hx : x = true := h0.2 (by omega)
      subst hx
      have := ih m (by simpa using hm) fun j hj => by
        have := h (j + 1) (by simpa using hj)
        simpa using this
      simp [this]
theorem free_any (h : drawOk ops = true) {m : Nat} (ht : tailOk ops m = true) (hm : m ≤ ops.size) {P : Program} {Q : Exit → Act → World → Prop} {a₀ : Act} {R : Nat → World → Prop} {S : World → World → Prop} {sp : Nat → Spec}
    (hop : ∀ i o, ops.toList[i]? = some o → i < m → FreeOp P ops a₀ R S sp i o)
    (hend : ∀ v n w, n ≤ ops.size → R n w → (∀ j, j < m → sp j v (v j) w) → wpList P ops Q (ops.toList.drop m) (frameF (ops.toList.take m) 0 v a₀) w) :
    ∀ (fuel : Nat) (listed : Array Bool) (a : Act) (w : World) (v : Nat → Value) (n : Nat), listed.size = ops.size → (∀ j, listed.getD j false = true → j < m) → Shut ops (fun i => listed.getD i false = true) → listed.toList.count false ≤ fuel →
      Agrees ops a₀ v (fun i => listed.getD i false = true) a → (∀ j, listed.getD j false = true → sp j v (v j) w) → R n w → n + listed.toList.count false = ops.size → wpAny P .any ops Q fuel listed a w := by
  have hall : ∀ (fuel : Nat) (listed : Array Bool) (a : Act) (w : World) (v : Nat → Value) (n : Nat), listed.size = ops.size → (∀ j, listed.getD j false = true ↔ j < m) → listed.toList.count false ≤ fuel →
      Agrees ops a₀ v (fun i => listed.getD i false = true) a → (∀ j, listed.getD j false = true → sp j v (v j) w) → R n w → n ≤ ops.size → wpAny P .any ops Q fuel listed a w := by
    intro fuel listed a w v n hsz hl hf ha hsp hR hnn
    have hc : listed.toList.count false = listed.toList.length - m := count_split _ m (by simp; omega) fun j hj => by
      rw [← hl j]
      have hb : j < listed.size := by simpa using hj
      simp [Array.getD, hb]
    have hEq : a = frameF (ops.toList.take m) 0 v a₀ := by
      have hcN := frameF_agrees h a₀ v m hm
      have h1 : a.tmps = (frameF (ops.toList.take m) 0 v a₀).tmps := Array.ext_getElem? fun d => ha.same h hcN d fun i oi _ _ => hl i
      have h2 : a.defers = (frameF (ops.toList.take m) 0 v a₀).defers := ha.defers.trans hcN.defers.symm
      cases a; cases hcc : frameF (ops.toList.take m) 0 v a₀; rw [hcc] at h1 h2; simp_all
    refine tail_any h ht fuel m listed a w hsz (Nat.le_refl _) hm hl (by rw [hc] at hf; simp at hf; omega) ?_
    rw [hEq]
    exact hend v n w hnn hR fun j hj => hsp j ((hl j).2 hj)
  intro fuel
  induction fuel with
  | zero =>
    intro listed a w v n hsz hlm hshut hfuel ha hsp hR hcnt
    refine hall 0 listed a w v n hsz (fun j => ⟨hlm j, fun hj => ?_⟩) hfuel ha hsp hR (by omega)
    have hb : j < listed.size := by omega
    have h0 : listed.toList.count false = 0 := by omega
    have hne : listed[j] ≠ false := fun e => by
      have : 0 < listed.toList.count false := List.count_pos_iff.2 (by rw [← e]; simp)
      omega
    simp [Array.getD, hb]
    simpa using hne
  | succ fuel ih =>
    intro listed a w v n hsz hlm hshut hfuel ha hsp hR hcnt
    by_cases hdone : ∀ j, j < m → listed.getD j false = true
    · exact hall _ listed a w v n hsz (fun j => ⟨hlm j, hdone j⟩) hfuel ha hsp hR (by omega)
    · obtain ⟨j0, hj0, hjl⟩ : ∃ j, j < m ∧ ¬ listed.getD j false = true := by
        false_or_by_contra
        rename_i hno
        exact hdone fun j hj => Decidable.byContradiction fun hn => hno ⟨j, hj, hn⟩
      have hmask : ∀ i oi, ops.toList[i]? = some oi → (∀ e ∈ oi.after.toList, Region.binds .any e = true → listed.getD e.on false = true) → ∀ j, ((masks ops.toList).getD i 0).testBit j = true → listed.getD j false = true :=
        fun i oi hoi hafter j hb => mask_in h hshut (i + 1) i oi (by omega) hoi hafter j hb
      refine ⟨fun hr => ?_, fun i hi => ?_⟩
      · exfalso
        -- the least one that is not listed is ready
        have : ∀ k j, j < k → j < m → listed.getD j false = true := by
          intro k
          induction k with
          | zero => intro j hj; omega
          | succ k ihk =>
            intro j hjk hjm
            by_cases hl : listed.getD j false = true
            · exact hl
            · exfalso
              have hjs : j < ops.size := by omega
              have hmem : j ∈ Region.ready .any ops listed := by
                simp only [Region.ready, List.mem_filter, List.mem_range, Bool.and_eq_true, Bool.not_eq_true']
                refine ⟨hjs, ?_, ?_⟩
                · have hb : j < listed.size := by omega
                  simp [Array.getD, hb] at hl ⊢
                  exact hl
                · rw [Array.getElem?_eq_getElem hjs]
                  simp only [Option.map_some, Option.getD_some, Array.all_eq_true_iff_forall_mem]
                  intro e he
                  by_cases hb : Region.binds .any e = true
                  · have hlt := (drawOk_spec h).2.1 j ops[j] (by simp [hjs]) e (by simpa using he) hb
                    simp [ihk e.on (by omega) (by omega)]
                  · simp [hb]
              rw [hr] at hmem
              cases hmem
        exact hjl (this (j0 + 1) j0 (by omega) hj0)
      · obtain ⟨oi, hoi, hl, hafter⟩ := ready_mem hi
        have hio : i < ops.size := by have := (List.getElem?_eq_some_iff.1 hoi).1; omega
        have hil : i < listed.size := by omega
        have hunl : ¬ listed.getD i false = true := by
          simp [Array.getD, hil] at hl ⊢
          exact hl
        have him : i < m := by
          false_or_by_contra
          rename_i hno
          exact hjl (hmask i oi hoi hafter j0 (tailOk_spec ht hio (by omega) (by omega)))
        have hset := fun k => getD_set listed i k hil
        have hshut' : Shut ops (fun j => (listed.setIfInBounds i true).getD j false = true) := by
          intro j oj hj hTj e he hb
          rcases (hset j).1 hTj with hTj | rfl
          · exact (hset _).2 (.inl (hshut j oj hj hTj e he hb))
          · rw [hoi] at hj; injection hj with hj; subst hj
            exact (hset _).2 (.inl (hafter e he hb))
        obtain ⟨hcount, hcnt', hn⟩ : (listed.setIfInBounds i true).toList.count false ≤ fuel ∧ n + 1 + (listed.setIfInBounds i true).toList.count false = ops.size ∧ n < ops.size := by
          have hli : listed.toList[i]'(by simpa using hil) = false := by
            have : listed[i] = false := by simpa [Array.getD, hil] using hl
            simpa using this
          have hm : 0 < listed.toList.count false := List.count_pos_iff.2 (by rw [← hli]; simp)
          rw [Array.toList_setIfInBounds, List.count_set (by simpa using hil), hli]
          simp only [beq_self_eq_true, if_true, show (true == false) = false from rfl, Bool.false_eq_true, if_false]
          omega
        have hlooks : ∀ d ∈ oi.looksAt ops, ∀ j oj, ops.toList[j]? = some oj → oj.dst = some d → (listed.getD j false = true ↔ j < i) := by
          intro d hd j oj hj hjd
          by_cases hji : j = i
          · subst hji
            exact ⟨fun h => absurd h hunl, fun h => absurd h (Nat.lt_irrefl _)⟩
          · have := ((drawOk_spec h).2.2 i j oi oj d hoi hj hji hjd).2 hd
            by_cases hlt : j < i
            · rw [if_pos hlt] at this
              exact ⟨fun _ => hlt, fun _ => hmask i oi hoi hafter j this⟩
            · rw [if_neg hlt] at this
              exact ⟨fun hTj => absurd (mask_in h hshut (j + 1) j oj (by omega) hj (fun e he hb => hshut j oj hj hTj e he hb) i this) hunl, fun h => absurd h hlt⟩
        obtain ⟨he, hwn⟩ := step_alike h ha (frameF_agrees h a₀ v i (by omega)) hoi hlooks
        have hF := hop i oi hoi him
        have hs := (hF.step v n w hn hR fun j hb => hsp j (hmask i oi hoi hafter j hb)).out
        have hnext : ∀ u w', (sp i v u w' ∧ S w w' ∧ R (n + 1) w') → wpAny P .any ops Q fuel (listed.setIfInBounds i true) (a.put oi.dst u) w' := by
          rintro u w' ⟨h1, h2, h3⟩
          have hv : ∀ j, listed.getD j false = true → v j = (fun k => if k = i then u else v k) j := fun j hj => by
            have : j ≠ i := fun e => hunl (e ▸ hj)
            simp [this]
          have hput := (ha.swap hv).put h hoi hset
          rw [if_pos (rfl : i = i)] at hput
          refine ih _ _ w' (fun k => if k = i then u else v k) (n + 1) (by simpa using hsz) (fun j hj => ?_) hshut' hcount hput (fun j hj => ?_) h3 hcnt'
          · rcases (hset j).1 hj with hj | rfl
            · exact hlm j hj
            · exact him
          · rcases (hset j).1 hj with hj | rfl
            · have hjs : j < ops.size := Nat.lt_of_lt_of_le (hlm j hj) hm
              have hoj : ops.toList[j]? = some ops[j] := by simp [hjs]
              have hFj := hop j _ hoj (hlm j hj)
              have hji : j ≠ i := fun e => hunl (e ▸ hj)
              show sp j _ (if j = i then u else v j) w'
              rw [if_neg hji]
              exact hFj.congr v _ _ _ (fun k hk => hv k (hmask j _ hoj (fun e he hb => hshut j _ hoj hj e he hb) k hk)) (hFj.stable _ _ _ _ (hsp j hj) h2)
            · show sp j _ (if j = j then u else v j) w'
              rw [if_pos (rfl : j = j)]
              exact hF.congr v _ _ _ (fun k hk => hv k (hmask j oi hoi hafter k hk)) h1
        unfold wpOp
        rw [show ops[i]? = some oi by simpa using hoi]
        simp only
        unfold StepG at hs
        rw [← hwn] at hs
        split
        · rename_i hwt
          rw [if_pos hwt, ← he] at hs
          exact .inl (givesF_wp hs hnext)
        · rename_i hwt
          rw [if_neg hwt] at hs
          exact hnext _ _ hs
/-- The law. -/
theorem wp_free {P : Program} {Q : Exit → Act → World → Prop} {id : Nat} {a : Act} {w : World} (hmx : P.follows .mixedOrders = true) (h : drawOk ops = true) (m : Nat) (ht : tailOk ops m = true) (hm : m ≤ ops.size) (R : Nat → World → Prop) (S : World → World → Prop) (sp : Nat → Spec)
    (hR : R 0 w.drew) (hop : ∀ i o, ops.toList[i]? = some o → i < m → FreeOp P ops a R S sp i o)
    (hend : ∀ v n w, n ≤ ops.size → R n w → (∀ j, j < m → sp j v (v j) w) → wpList P ops Q (ops.toList.drop m) (frameF (ops.toList.take m) 0 v a) w) : (Code.region id ops true).wp P Q a w := by
  refine wp_region_any hmx ?_
  refine free_any h ht hm hop hend ops.size _ a _ (fun _ => undef) 0 (by simp) ?_ ?_ (by simp) ?_ ?_ hR (by simp)
  · intro j hj; simp [Array.getD] at hj
  · intro i oi hi hT; simp [Array.getD] at hT
  · refine ⟨rfl, rfl, fun i oi d hi hd hT => ?_, fun _ _ => rfl⟩
    simp [Array.getD] at hT
  · intro j hj; simp [Array.getD] at hj
def HopL (P : Program) (ops : Array Oper) (a₀ : Act) (R : Nat → World → Prop) (S : World → World → Prop) (sp : Nat → Spec) : Nat → List Oper → Prop
  | _, [] => True
  | i, o :: l => FreeOp P ops a₀ R S sp i o ∧ HopL P ops a₀ R S sp (i + 1) l
theorem hop_from {P : Program} {a₀ : Act} {R : Nat → World → Prop} {S : World → World → Prop} {sp : Nat → Spec} : ∀ (l : List Oper) (k : Nat), HopL P ops a₀ R S sp k l → ∀ i o, l[i]? = some o → FreeOp P ops a₀ R S sp (k + i) o := by
  intro l
  induction l with
  | nil => intro k _ i o h; simp at h
  | cons x l ih =>
    rintro k ⟨h1, h2⟩ i o h
    cases i with
    | zero => simp at h; subst h; exact h1
    | succ i => rw [show k + (i + 1) = k + 1 + i by omega]; exact ih _ h2 i o (by simpa using h)
theorem hop_of {P : Program} {a₀ : Act} {R : Nat → World → Prop} {S : World → World → Prop} {sp : Nat → Spec} {m : Nat} (h : HopL P ops a₀ R S sp 0 (ops.toList.take m)) : ∀ i o, ops.toList[i]? = some o → i < m → FreeOp P ops a₀ R S sp i o := fun i o hi hm => by
  have := hop_from _ 0 h i o (by rw [List.getElem?_take_of_lt hm]; exact hi)
  rwa [Nat.zero_add] at this
theorem wp_free_lit {P : Program} {Q : Exit → Act → World → Prop} {id : Nat} {a : Act} {w : World} {l : List Oper} (hmx : P.follows .mixedOrders = true) (m : Nat) (h : drawOk l.toArray = true) (ht : tailOk l.toArray m = true) (hm : m ≤ l.length) (R : Nat → World → Prop) (S : World → World → Prop) (sps : List Spec)
    (hR : R 0 w.drew) (hop : HopL P l.toArray a R S (fun i => sps.getD i fun _ _ _ => True) 0 (l.take m))
    (hend : ∀ v n w, n ≤ l.length → R n w → (∀ j, j < m → (sps.getD j fun _ _ _ => True) v (v j) w) → wpList P l.toArray Q (l.drop m) (frameF (l.take m) 0 v a) w) : (Code.region id l.toArray true).wp P Q a w :=
  wp_free hmx h m ht (by simpa using hm) R S _ hR (hop_of (by simpa using hop)) (by simpa using hend)
/-- Where an operation's run gives a value and leaves memory alone. -/
theorem stepF_val {P : Program} {o : Oper} {a : Act} {w : World} {K : Value → World → Prop} {u : Value} (hw : Region.wanted o (yielded ops a.tmps) = true) (hr : (execOp a.eval o).run P w = .ok (.value u) w) (hK : K u w) : StepF P ops o a w K := by
  refine ⟨?_⟩; unfold StepG; rw [hw, if_pos rfl, hr]; exact hK
theorem stepF_new {P : Program} {o : Oper} {a : Act} {w w' : World} {K : Value → World → Prop} {u : Value} (hw : Region.wanted o (yielded ops a.tmps) = true) (hr : (execOp a.eval o).run P w = .ok (.value u) w') (hK : K u w') : StepF P ops o a w K := by
  refine ⟨?_⟩; unfold StepG; rw [hw, if_pos rfl, hr]; exact hK
theorem stepF_call {P : Program} {o : Oper} {a : Act} {w : World} {K : Value → World → Prop} {f : FuncId} {args : Array Value} {post : Ending → World → Prop} (hw : Region.wanted o (yielded ops a.tmps) = true) (hr : (execOp a.eval o).run P w = .ok (.enter f args) w) (hc : Calls P f args w post)
    (hK : ∀ e w', post e w' → ∃ u, e = .returned u ∧ K u w') : StepF P ops o a w K := by
  refine ⟨?_⟩; unfold StepG; rw [hw, if_pos rfl, hr]; exact Calls.mono (P := P) hc hK
end
end Go.Proofs.YtkailkfiakagfaaGreat
