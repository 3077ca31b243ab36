/- What the proof of the claim's theorem uses, part 2. The conditions stand in each statement. -/
import Derived.WalkKit
import Derived.WalkSpells
import Derived.WalkLawsBesides
import Derived.WalkSmall
import Derived.Lib.Hide
import Derived.Laws.OwnMore
import Derived.Laws.CopyOwn
import Derived.Deep.Draws
import Derived.Laws.AppendOwnNone
import Derived.Test.YtkmcacgeecfjgaaGreatDoorProg
import Derived.Outline
import Derived.BigQuiet
import Derived.Deep.QuietTactic
import Derived.Lib.OthersKept
import Derived.Laws.EntriesVeiled
import Derived.Shelf.Strings.Builder1
import Derived.Shelf.LaysM
import Derived.Shelf.Strconv.Itoa3
import Derived.Orders
import Derived.RegionTactic
import Derived.BigRegion
import Derived.Deep.DeepCutAuto
import Derived.Maps.OwnRows
import Derived.Maps.GroupsBeside
import Derived.Deep.RegionHeld3
import Derived.Lib.SliceRun
import Derived.RangeFuncNested
import Derived.RangeFuncBound
import Derived.RangeFuncCalls
import Derived.RangeFuncLeaves
import Derived.Shelf.Abstract
import Derived.Shelf.RegionOpen
import Derived.OwnWalkIn
import Derived.TacticsInMore
import Derived.LoopNIn
import Derived.LoopIn
import Derived.Sort.QuietIn
import Derived.Deep.Quiet
import Derived.Maps.AppendAt
import Derived.Test.YtkmcacgeecfjgaaGreatDoorCards
import Derived.Test.YtkmcacgeecfjgaaGreatDoorTie
import Derived.ProofKit
import Derived.Deep.DeepHandedRow
import Derived.Lib.LaidTab
import Derived.Stop.LaidErr
import Derived.ChangeSame
import Derived.RowKit3
import Derived.ReadAgain
import Derived.OpenShut
import Derived.ChangeSlices
import Derived.Shelf.Bits.Mul64
import Derived.ArgAppend
import Derived.WalkMore
import Derived.Laws.BytesArg
import Derived.Laws.IdiomStrings
import Derived.Shelf.Spec.SlicesInsert
import Derived.Shelf.Spec.SlicesInsertGrow
import Derived.Deep.RegionLaw
import Derived.Maps.Own
import Derived.Maps.OwnOps
import Derived.Maps.OwnSet
import Derived.ChangeKeysEq
import Derived.Test.YtkmcacgeecfjgaaGreatDoorPr1
set_option linter.unusedVariables false
set_option linter.unusedSimpArgs false
section
namespace Go.Proofs.YtkmcacgeecfjgaaGreatDoor
open Go.RowKit
/-- What is known of an operation's value: by the values of those that it depends on, and memory. -/
abbrev Spec := (Nat → Value) → Value → World → Prop
def GivesF (P : Program) (r : Result Next) (K : Value → World → Prop) : Prop :=
  match r with
  | .ok (.value u) w' => K u w'
  | .ok .skip w' => K undef w'
  | .ok (.enter f args) w' => Calls P f args w' fun e w'' => ∃ u, e = .returned u ∧ K u w''
  | _ => False
def StepG (P : Program) (ops : Array Oper) (o : Oper) (a : Act) (w : World) (K : Value → World → Prop) : Prop :=
  if Region.wanted o (yielded ops a.tmps) = true then GivesF P ((execOp a.eval o).run P w) K else K undef w
/-- The like as a structure: no tactic looks behind it by itself (a run that is looked into costs minutes where a function has many slots). -/
structure StepF (P : Program) (ops : Array Oper) (o : Oper) (a : Act) (w : World) (K : Value → World → Prop) : Prop where
  out : StepG P ops o a w K
theorem givesF_wp {P : Program} {o : Oper} {a : Act} {w : World} {K0 : Value → World → Prop} {K : Act → World → Prop} {Q : Exit → Act → World → Prop}
    (h : GivesF P ((execOp a.eval o).run P w) K0) (hK : ∀ u w', K0 u w' → K (a.put o.dst u) w') : o.wp P a w K Q := by
  unfold Oper.wp
  generalize (execOp a.eval o).run P w = r at h
  match r, h with
  | .ok (.value u) w', h => exact hK u w' h
  | .ok .skip w', h => exact hK undef w' h
  | .ok (.enter f args) w', h =>
    refine Calls.mono (P := P) h ?_
    rintro e w'' ⟨u, rfl, hu⟩
    exact hK u w'' hu
/-- The frame behind the first i operations. -/
def frameF : List Oper → Nat → (Nat → Value) → Act → Act
  | [], _, _, a => a
  | o :: l, i, v, a => frameF l (i + 1) v (a.put o.dst (v i))
theorem frameF_snoc (v : Nat → Value) : ∀ (l : List Oper) (i : Nat) (a : Act) (o : Oper), frameF (l ++ [o]) i v a = (frameF l i v a).put o.dst (v (i + l.length)) := by
  intro l
  induction l with
  | nil => intro i a o; rfl
  | cons x l ih => intro i a o; simp only [List.cons_append, frameF, ih, List.length_cons]; rw [show i + 1 + l.length = i + (l.length + 1) by omega]
/-- All that an operation depends on is known. -/
def Known (ops : Array Oper) (sp : Nat → Spec) (i : Nat) (v : Nat → Value) (w : World) : Prop := ∀ j, ((masks ops.toList).getD i 0).testBit j = true → sp j v (v j) w
structure FreeOp (P : Program) (ops : Array Oper) (a₀ : Act) (R : Nat → World → Prop) (S : World → World → Prop) (sp : Nat → Spec) (i : Nat) (o : Oper) : Prop where
  congr : ∀ v v' u w, (∀ j, ((masks ops.toList).getD i 0).testBit j = true → v j = v' j) → sp i v u w → sp i v' u w
  stable : ∀ v u w w', sp i v u w → S w w' → sp i v u w'
  step : ∀ v n w, n < ops.size → R n w → Known ops sp i v w → StepF P ops o (frameF (ops.toList.take i) 0 v a₀) w fun u w' => sp i v u w' ∧ S w w' ∧ R (n + 1) w'
def tailOk (ops : Array Oper) (m : Nat) : Bool := (List.range ops.size).all fun i => decide (i < m) || (List.range i).all fun j => ((masks ops.toList).getD i 0).testBit j
theorem tailOk_spec {ops : Array Oper} {m : Nat} (h : tailOk ops m = true) {i j : Nat} (hi : i < ops.size) (hm : m ≤ i) (hj : j < i) : ((masks ops.toList).getD i 0).testBit j = true := by
  simp only [tailOk, List.all_eq_true, List.mem_range, Bool.or_eq_true, decide_eq_true_eq] at h
  rcases h i hi with h | h
  · omega
  · exact h j hj
section
variable {ops : Array Oper}
theorem frameF_agrees (h : drawOk ops = true) (a₀ : Act) (v : Nat → Value) : ∀ i, i ≤ ops.size → Agrees ops a₀ v (fun j => j < i) (frameF (ops.toList.take i) 0 v a₀) := by
  intro i
  induction i with
  | zero => intro _; rw [List.take_zero]; exact ⟨rfl, rfl, fun _ _ _ _ _ h => absurd h (Nat.not_lt_zero _), fun _ _ => rfl⟩
  | succ i ih =>
    intro hi
    have hoi : ops.toList[i]? = some (ops.toList[i]'(by simp; omega)) := List.getElem?_eq_getElem _
    rw [take_at hoi, frameF_snoc, List.length_take, Nat.zero_add, Nat.min_eq_left (by simp; omega)]
    exact (ih (by omega)).put h hoi fun j => by omega
/-- The last operations, one by one. -/
theorem tail_any (h : drawOk ops = true) {m : Nat} (ht : tailOk ops m = true) {P : Program} {Q : Exit → Act → World → Prop} :
    ∀ (fuel i : Nat) (listed : Array Bool) (a : Act) (w : World), listed.size = ops.size → m ≤ i → i ≤ ops.size → (∀ j, listed.getD j false = true ↔ j < i) → ops.size - i ≤ fuel → wpList P ops Q (ops.toList.drop i) a w → wpAny P .any ops Q fuel listed a w := by
  have hready : ∀ (listed : Array Bool) (i : Nat), m ≤ i → (∀ j, listed.getD j false = true ↔ j < i) → ∀ k ∈ Region.ready .any ops listed, k = i := by
    intro listed i hmi hl k hk
    obtain ⟨ok, hok, hkl, hka⟩ := ready_mem hk
    have hks : k < ops.size := by have := (List.getElem?_eq_some_iff.1 hok).1; simpa using this
    have hki : ¬ k < i := fun hlt => by
      have h1 := (hl k).2 hlt
      have hb : k < listed.size := by
        false_or_by_contra
        rename_i hno
        simp [Array.getD, hno] at h1
      simp [Array.getD, hb] at hkl h1
      rw [hkl] at h1; cases h1
    false_or_by_contra
    rename_i hne
    have hbit := tailOk_spec ht hks (by omega) (show i < k by omega)
    have hsh : Shut ops (fun j => j < i) := by
      intro x ox hx hxi e he hb
      have := (drawOk_spec h).2.1 x ox hx e he hb
      omega
    have := mask_in h hsh (k + 1) k ok (by omega) hok (fun e he hb => (hl _).1 (hka e he hb)) i hbit
    omega
  intro fuel
  induction fuel with
  | zero =>
    intro i listed a w hsz hmi hil hl hf hw
    have hi : i = ops.size := by omega
    have hr : Region.ready .any ops listed = [] := by
      apply List.eq_nil_iff_forall_not_mem.2
      intro k hk
      have := hready listed i hmi hl k hk
      obtain ⟨ok, hok, _, _⟩ := ready_mem hk
      have hks : k < ops.size := by have := (List.getElem?_eq_some_iff.1 hok).1; simpa using this
      omega
    rw [hi, List.drop_of_length_le (by simp)] at hw
    exact ⟨hr, hw⟩
  | succ fuel ih =>
    intro i listed a w hsz hmi hil hl hf hw
    by_cases hi : i = ops.size
    · refine ⟨fun _ => ?_, fun k hk => ?_⟩
      · rw [hi, List.drop_of_length_le (by simp)] at hw
        exact hw
      · have := hready listed i hmi hl k hk
        obtain ⟨ok, hok, _, _⟩ := ready_mem hk
        have hks : k < ops.size := by have := (List.getElem?_eq_some_iff.1 hok).1; simpa using this
        omega
    · have hlt : i < ops.size := by omega
      have hoi : ops.toList[i]? = some ops[i] := by simp [hlt]
      rw [drop_at hoi] at hw
      refine ⟨fun hr => ?_, fun k hk => ?_⟩
      · exfalso
        have hmem : i ∈ Region.ready .any ops listed := by
          simp only [Region.ready, List.mem_filter, List.mem_range, Bool.and_eq_true, Bool.not_eq_true']
          refine ⟨hlt, ?_, ?_⟩
          · have hn : ¬ listed.getD i false = true := fun hh => absurd ((hl i).1 hh) (Nat.lt_irrefl _)
            have hb : i < listed.size := by omega
            simp [Array.getD, hb] at hn ⊢
            exact hn
          · rw [Array.getElem?_eq_getElem hlt]
            simp only [Option.map_some, Option.getD_some, Array.all_eq_true_iff_forall_mem]
            intro e he
            by_cases hb : Region.binds .any e = true
            · have := (drawOk_spec h).2.1 i ops[i] hoi e (by simpa using he) hb
              simp [(hl e.on).2 this]
            · simp [hb]
        rw [hr] at hmem
        cases hmem
      · obtain rfl := hready listed i hmi hl k hk
        unfold wpOp
        rw [show ops[k]? = some ops[k] by simp [hlt]]
        simp only [wpList] at hw ⊢
        have hset := fun j => getD_set listed k j (by omega)
        have hnext : ∀ a w, wpList P ops Q (ops.toList.drop (k + 1)) a w → wpAny P .any ops Q fuel (listed.setIfInBounds k true) a w := fun a w hh =>
          ih (k + 1) _ a w (by simpa using hsz) (by omega) (by omega) (fun j => by rw [hset, hl]; omega) (by omega) hh
        split
        · rename_i hwt
          rw [if_pos hwt] at hw
          rcases hw with hw | hw
          · exact .inl (Oper.wp_mono (fun a w hh => hnext a w hh) hw)
          · exact .inr hw
        · rename_i hwt
          rw [if_neg hwt] at hw
          exact hnext _ _ hw
theorem Agrees.swap {a₀ a : Act} {v v' : Nat → Value} {T : Nat → Prop} (ha : Agrees ops a₀ v T a) (hv : ∀ i, T i → v i = v' i) : Agrees ops a₀ v' T a :=
  ⟨ha.defers, ha.size, fun i oi d h1 h2 h3 h4 => by rw [← hv i h3]; exact ha.hit i oi d h1 h2 h3 h4, ha.miss⟩
theorem count_split : ∀ (l : List Bool) (m : Nat), m ≤ l.length → (∀ j, j < l.length → (l[j]? = some true ↔ j < m)) → l.count false = l.length - m := by
  intro l
  induction l with
  | nil => intro m _ _; simp
  | cons x l ih =>
    intro m hm h
    have h0 := h 0 (by simp)
    simp only [List.getElem?_cons_zero, Option.some.injEq] at h0
    cases m with
    | zero =>
      have hx : x = false := by
        cases x
        · rfl
        · exact absurd (h0.1 rfl) (by omega)
      subst hx
      have := ih 0 (Nat.zero_le _) fun j hj => by
        have := h (j + 1) (by simpa using hj)
        simpa using this
      simp [this]
    | succ m =>
      have hx : x = true := h0.2 (by omega)
      subst hx
      have := ih m (by simpa using hm) fun j hj => by
        have := h (j + 1) (by simpa using hj)
        simpa using this
      simp [this]
theorem free_any (h : drawOk ops = true) {m : Nat} (ht : tailOk ops m = true) (hm : m ≤ ops.size) {P : Program} {Q : Exit → Act → World → Prop} {a₀ : Act} {R : Nat → World → Prop} {S : World → World → Prop} {sp : Nat → Spec}
    (hop : ∀ i o, ops.toList[i]? = some o → i < m → FreeOp P ops a₀ R S sp i o)
    (hend : ∀ v n w, n ≤ ops.size → R n w → (∀ j, j < m → sp j v (v j) w) → wpList P ops Q (ops.toList.drop m) (frameF (ops.toList.take m) 0 v a₀) w) :
    ∀ (fuel : Nat) (listed : Array Bool) (a : Act) (w : World) (v : Nat → Value) (n : Nat), listed.size = ops.size → (∀ j, listed.getD j false = true → j < m) → Shut ops (fun i => listed.getD i false = true) → listed.toList.count false ≤ fuel →
      Agrees ops a₀ v (fun i => listed.getD i false = true) a → (∀ j, listed.getD j false = true → sp j v (v j) w) → R n w → n + listed.toList.count false = ops.size → wpAny P .any ops Q fuel listed a w := by
  have hall : ∀ (fuel : Nat) (listed : Array Bool) (a : Act) (w : World) (v : Nat → Value) (n : Nat), listed.size = ops.size → (∀ j, listed.getD j false = true ↔ j < m) → listed.toList.count false ≤ fuel →
      Agrees ops a₀ v (fun i => listed.getD i false = true) a → (∀ j, listed.getD j false = true → sp j v (v j) w) → R n w → n ≤ ops.size → wpAny P .any ops Q fuel listed a w := by
    intro fuel listed a w v n hsz hl hf ha hsp hR hnn
    have hc : listed.toList.count false = listed.toList.length - m := count_split _ m (by simp; omega) fun j hj => by
      rw [← hl j]
      have hb : j < listed.size := by simpa using hj
      simp [Array.getD, hb]
    have hEq : a = frameF (ops.toList.take m) 0 v a₀ := by
      have hcN := frameF_agrees h a₀ v m hm
      have h1 : a.tmps = (frameF (ops.toList.take m) 0 v a₀).tmps := Array.ext_getElem? fun d => ha.same h hcN d fun i oi _ _ => hl i
      have h2 : a.defers = (frameF (ops.toList.take m) 0 v a₀).defers := ha.defers.trans hcN.defers.symm
      cases a; cases hcc : frameF (ops.toList.take m) 0 v a₀; rw [hcc] at h1 h2; simp_all
    refine tail_any h ht fuel m listed a w hsz (Nat.le_refl _) hm hl (by rw [hc] at hf; simp at hf; omega) ?_
    rw [hEq]
    exact hend v n w hnn hR fun j hj => hsp j ((hl j).2 hj)
  intro fuel
  induction fuel with
  | zero =>
    intro listed a w v n hsz hlm hshut hfuel ha hsp hR hcnt
    refine hall 0 listed a w v n hsz (fun j => ⟨hlm j, fun hj => ?_⟩) hfuel ha hsp hR (by omega)
    have hb : j < listed.size := by omega
    have h0 : listed.toList.count false = 0 := by omega
    have hne : listed[j] ≠ false := fun e => by
      have : 0 < listed.toList.count false := List.count_pos_iff.2 (by rw [← e]; simp)
      omega
    simp [Array.getD, hb]
    simpa using hne
  | succ fuel ih =>
    intro listed a w v n hsz hlm hshut hfuel ha hsp hR hcnt
    by_cases hdone : ∀ j, j < m → listed.getD j false = true
    · exact hall _ listed a w v n hsz (fun j => ⟨hlm j, hdone j⟩) hfuel ha hsp hR (by omega)
    · obtain ⟨j0, hj0, hjl⟩ : ∃ j, j < m ∧ ¬ listed.getD j false = true := by
        false_or_by_contra
        rename_i hno
        exact hdone fun j hj => Decidable.byContradiction fun hn => hno ⟨j, hj, hn⟩
      have hmask : ∀ i oi, ops.toList[i]? = some oi → (∀ e ∈ oi.after.toList, Region.binds .any e = true → listed.getD e.on false = true) → ∀ j, ((masks ops.toList).getD i 0).testBit j = true → listed.getD j false = true :=
        fun i oi hoi hafter j hb => mask_in h hshut (i + 1) i oi (by omega) hoi hafter j hb
      refine ⟨fun hr => ?_, fun i hi => ?_⟩
      · exfalso
        -- the least one that is not listed is ready
        have : ∀ k j, j < k → j < m → listed.getD j false = true := by
          intro k
          induction k with
          | zero => intro j hj; omega
          | succ k ihk =>
            intro j hjk hjm
            by_cases hl : listed.getD j false = true
            · exact hl
            · exfalso
              have hjs : j < ops.size := by omega
              have hmem : j ∈ Region.ready .any ops listed := by
                simp only [Region.ready, List.mem_filter, List.mem_range, Bool.and_eq_true, Bool.not_eq_true']
                refine ⟨hjs, ?_, ?_⟩
                · have hb : j < listed.size := by omega
                  simp [Array.getD, hb] at hl ⊢
                  exact hl
                · rw [Array.getElem?_eq_getElem hjs]
                  simp only [Option.map_some, Option.getD_some, Array.all_eq_true_iff_forall_mem]
                  intro e he
                  by_cases hb : Region.binds .any e = true
                  · have hlt := (drawOk_spec h).2.1 j ops[j] (by simp [hjs]) e (by simpa using he) hb
                    simp [ihk e.on (by omega) (by omega)]
                  · simp [hb]
              rw [hr] at hmem
              cases hmem
        exact hjl (this (j0 + 1) j0 (by omega) hj0)
      · obtain ⟨oi, hoi, hl, hafter⟩ := ready_mem hi
        have hio : i < ops.size := by have := (List.getElem?_eq_some_iff.1 hoi).1; omega
        have hil : i < listed.size := by omega
        have hunl : ¬ listed.getD i false = true := by
          simp [Array.getD, hil] at hl ⊢
          exact hl
        have him : i < m := by
          false_or_by_contra
          rename_i hno
          exact hjl (hmask i oi hoi hafter j0 (tailOk_spec ht hio (by omega) (by omega)))
        have hset := fun k => getD_set listed i k hil
        have hshut' : Shut ops (fun j => (listed.setIfInBounds i true).getD j false = true) := by
          intro j oj hj hTj e he hb
          rcases (hset j).1 hTj with hTj | rfl
          · exact (hset _).2 (.inl (hshut j oj hj hTj e he hb))
          · rw [hoi] at hj; injection hj with hj; subst hj
            exact (hset _).2 (.inl (hafter e he hb))
        obtain ⟨hcount, hcnt', hn⟩ : (listed.setIfInBounds i true).toList.count false ≤ fuel ∧ n + 1 + (listed.setIfInBounds i true).toList.count false = ops.size ∧ n < ops.size := by
          have hli : listed.toList[i]'(by simpa using hil) = false := by
            have : listed[i] = false := by simpa [Array.getD, hil] using hl
            simpa using this
          have hm : 0 < listed.toList.count false := List.count_pos_iff.2 (by rw [← hli]; simp)
          rw [Array.toList_setIfInBounds, List.count_set (by simpa using hil), hli]
          simp only [beq_self_eq_true, if_true, show (true == false) = false from rfl, Bool.false_eq_true, if_false]
          omega
        have hlooks : ∀ d ∈ oi.looksAt ops, ∀ j oj, ops.toList[j]? = some oj → oj.dst = some d → (listed.getD j false = true ↔ j < i) := by
          intro d hd j oj hj hjd
          by_cases hji : j = i
          · subst hji
            exact ⟨fun h => absurd h hunl, fun h => absurd h (Nat.lt_irrefl _)⟩
          · have := ((drawOk_spec h).2.2 i j oi oj d hoi hj hji hjd).2 hd
            by_cases hlt : j < i
            · rw [if_pos hlt] at this
              exact ⟨fun _ => hlt, fun _ => hmask i oi hoi hafter j this⟩
            · rw [if_neg hlt] at this
              exact ⟨fun hTj => absurd (mask_in h hshut (j + 1) j oj (by omega) hj (fun e he hb => hshut j oj hj hTj e he hb) i this) hunl, fun h => absurd h hlt⟩
        obtain ⟨he, hwn⟩ := step_alike h ha (frameF_agrees h a₀ v i (by omega)) hoi hlooks
        have hF := hop i oi hoi him
        have hs := (hF.step v n w hn hR fun j hb => hsp j (hmask i oi hoi hafter j hb)).out
        have hnext : ∀ u w', (sp i v u w' ∧ S w w' ∧ R (n + 1) w') → wpAny P .any ops Q fuel (listed.setIfInBounds i true) (a.put oi.dst u) w' := by
          rintro u w' ⟨h1, h2, h3⟩
          have hv : ∀ j, listed.getD j false = true → v j = (fun k => if k = i then u else v k) j := fun j hj => by
            have : j ≠ i := fun e => hunl (e ▸ hj)
            simp [this]
          have hput := (ha.swap hv).put h hoi hset
          rw [if_pos (rfl : i = i)] at hput
          refine ih _ _ w' (fun k => if k = i then u else v k) (n + 1) (by simpa using hsz) (fun j hj => ?_) hshut' hcount hput (fun j hj => ?_) h3 hcnt'
          · rcases (hset j).1 hj with hj | rfl
            · exact hlm j hj
            · exact him
          · rcases (hset j).1 hj with hj | rfl
            · have hjs : j < ops.size := Nat.lt_of_lt_of_le (hlm j hj) hm
              have hoj : ops.toList[j]? = some ops[j] := by simp [hjs]
              have hFj := hop j _ hoj (hlm j hj)
              have hji : j ≠ i := fun e => hunl (e ▸ hj)
              show sp j _ (if j = i then u else v j) w'
              rw [if_neg hji]
              exact hFj.congr v _ _ _ (fun k hk => hv k (hmask j _ hoj (fun e he hb => hshut j _ hoj hj e he hb) k hk)) (hFj.stable _ _ _ _ (hsp j hj) h2)
            · show sp j _ (if j = j then u else v j) w'
              rw [if_pos (rfl : j = j)]
              exact hF.congr v _ _ _ (fun k hk => hv k (hmask j oi hoi hafter k hk)) h1
        unfold wpOp
        rw [show ops[i]? = some oi by simpa using hoi]
        simp only
        unfold StepG at hs
        rw [← hwn] at hs
        split
        · rename_i hwt
          rw [if_pos hwt, ← he] at hs
          exact .inl (givesF_wp hs hnext)
        · rename_i hwt
          rw [if_neg hwt] at hs
          exact hnext _ _ hs
/-- The law. -/
theorem wp_free {P : Program} {Q : Exit → Act → World → Prop} {id : Nat} {a : Act} {w : World} (hmx : P.follows .mixedOrders = true) (h : drawOk ops = true) (m : Nat) (ht : tailOk ops m = true) (hm : m ≤ ops.size) (R : Nat → World → Prop) (S : World → World → Prop) (sp : Nat → Spec)
    (hR : R 0 w.drew) (hop : ∀ i o, ops.toList[i]? = some o → i < m → FreeOp P ops a R S sp i o)
    (hend : ∀ v n w, n ≤ ops.size → R n w → (∀ j, j < m → sp j v (v j) w) → wpList P ops Q (ops.toList.drop m) (frameF (ops.toList.take m) 0 v a) w) : (Code.region id ops true).wp P Q a w := by
  refine wp_region_any hmx ?_
  refine free_any h ht hm hop hend ops.size _ a _ (fun _ => undef) 0 (by simp) ?_ ?_ (by simp) ?_ ?_ hR (by simp)
  · intro j hj; simp [Array.getD] at hj
  · intro i oi hi hT; simp [Array.getD] at hT
  · refine ⟨rfl, rfl, fun i oi d hi hd hT => ?_, fun _ _ => rfl⟩
    simp [Array.getD] at hT
  · intro j hj; simp [Array.getD] at hj
def HopL (P : Program) (ops : Array Oper) (a₀ : Act) (R : Nat → World → Prop) (S : World → World → Prop) (sp : Nat → Spec) : Nat → List Oper → Prop
  | _, [] => True
  | i, o :: l => FreeOp P ops a₀ R S sp i o ∧ HopL P ops a₀ R S sp (i + 1) l
theorem hop_from {P : Program} {a₀ : Act} {R : Nat → World → Prop} {S : World → World → Prop} {sp : Nat → Spec} : ∀ (l : List Oper) (k : Nat), HopL P ops a₀ R S sp k l → ∀ i o, l[i]? = some o → FreeOp P ops a₀ R S sp (k + i) o := by
  intro l
  induction l with
  | nil => intro k _ i o h; simp at h
  | cons x l ih =>
    rintro k ⟨h1, h2⟩ i o h
    cases i with
    | zero => simp at h; subst h; exact h1
    | succ i => rw [show k + (i + 1) = k + 1 + i by omega]; exact ih _ h2 i o (by simpa using h)
theorem hop_of {P : Program} {a₀ : Act} {R : Nat → World → Prop} {S : World → World → Prop} {sp : Nat → Spec} {m : Nat} (h : HopL P ops a₀ R S sp 0 (ops.toList.take m)) : ∀ i o, ops.toList[i]? = some o → i < m → FreeOp P ops a₀ R S sp i o := fun i o hi hm => by
  have := hop_from _ 0 h i o (by rw [List.getElem?_take_of_lt hm]; exact hi)
  rwa [Nat.zero_add] at this
theorem wp_free_lit {P : Program} {Q : Exit → Act → World → Prop} {id : Nat} {a : Act} {w : World} {l : List Oper} (hmx : P.follows .mixedOrders = true) (m : Nat) (h : drawOk l.toArray = true) (ht : tailOk l.toArray m = true) (hm : m ≤ l.length) (R : Nat → World → Prop) (S : World → World → Prop) (sps : List Spec)
    (hR : R 0 w.drew) (hop : HopL P l.toArray a R S (fun i => sps.getD i fun _ _ _ => True) 0 (l.take m))
    (hend : ∀ v n w, n ≤ l.length → R n w → (∀ j, j < m → (sps.getD j fun _ _ _ => True) v (v j) w) → wpList P l.toArray Q (l.drop m) (frameF (l.take m) 0 v a) w) : (Code.region id l.toArray true).wp P Q a w :=
  wp_free hmx h m ht (by simpa using hm) R S _ hR (hop_of (by simpa using hop)) (by simpa using hend)
/-- Where an operation's run gives a value and leaves memory alone. -/
theorem stepF_val {P : Program} {o : Oper} {a : Act} {w : World} {K : Value → World → Prop} {u : Value} (hw : Region.wanted o (yielded ops a.tmps) = true) (hr : (execOp a.eval o).run P w = .ok (.value u) w) (hK : K u w) : StepF P ops o a w K := by
  refine ⟨?_⟩; unfold StepG; rw [hw, if_pos rfl, hr]; exact hK
theorem stepF_new {P : Program} {o : Oper} {a : Act} {w w' : World} {K : Value → World → Prop} {u : Value} (hw : Region.wanted o (yielded ops a.tmps) = true) (hr : (execOp a.eval o).run P w = .ok (.value u) w') (hK : K u w') : StepF P ops o a w K := by
  refine ⟨?_⟩; unfold StepG; rw [hw, if_pos rfl, hr]; exact hK
theorem stepF_call {P : Program} {o : Oper} {a : Act} {w : World} {K : Value → World → Prop} {f : FuncId} {args : Array Value} {post : Ending → World → Prop} (hw : Region.wanted o (yielded ops a.tmps) = true) (hr : (execOp a.eval o).run P w = .ok (.enter f args) w) (hc : Calls P f args w post)
    (hK : ∀ e w', post e w' → ∃ u, e = .returned u ∧ K u w') : StepF P ops o a w K := by
  refine ⟨?_⟩; unfold StepG; rw [hw, if_pos rfl, hr]; exact Calls.mono (P := P) hc hK
end
end Go.Proofs.YtkmcacgeecfjgaaGreatDoor
end
section
namespace Go.Proofs.YtkmcacgeecfjgaaGreatDoor
namespace File
set_option linter.unusedSectionVars false
section
variable {α : Type} [DecidableEq α]
def lcsGo (x : α) (g : List α → Nat) : List α → Nat
  | [] => 0
  | y :: ys => if x = y then max (max (g (y :: ys)) (lcsGo x g ys)) (g ys + 1) else max (g (y :: ys)) (lcsGo x g ys)
/-- How many common pairs two lists have at most. -/
def lcs : List α → List α → Nat
  | [] => fun _ => 0
  | x :: xs => lcsGo x (lcs xs)
theorem lcs_cons (x y : α) (xs ys : List α) : lcs (x :: xs) (y :: ys) = if x = y then max (max (lcs xs (y :: ys)) (lcs (x :: xs) ys)) (lcs xs ys + 1) else max (lcs xs (y :: ys)) (lcs (x :: xs) ys) := rfl
theorem lcs_nil (a : List α) : lcs a [] = 0 := by cases a <;> rfl
theorem lcs_left (x : α) (a b : List α) : lcs a b ≤ lcs (x :: a) b := by
  cases b with
  | nil => rw [lcs_nil]; exact Nat.zero_le _
  | cons y ys => rw [lcs_cons]; split <;> omega
theorem lcs_right (y : α) (a b : List α) : lcs a b ≤ lcs a (y :: b) := by
  cases a with
  | nil => exact Nat.zero_le _
  | cons x xs => rw [lcs_cons]; split <;> omega
theorem lcs_most : ∀ (a b : List α), lcs a b ≤ a.length := by
  intro a
  induction a with
  | nil => intro b; exact Nat.zero_le _
  | cons x xs ih =>
    intro b
    induction b with
    | nil => rw [lcs_nil]; exact Nat.zero_le _
    | cons y ys ihb =>
      have h1 := ih (y :: ys)
      have h2 := ih ys
      rw [lcs_cons]
      simp only [List.length_cons] at *
      split <;> omega
/-- As many from two positions on. -/
def from_ (a b : List α) (i j : Nat) : Nat := lcs (a.drop i) (b.drop j)
theorem from_step {a b : List α} {i j : Nat} (hi : i < a.length) (hj : j < b.length) :
    from_ a b i j = if a[i] = b[j] then max (max (from_ a b (i + 1) j) (from_ a b i (j + 1))) (from_ a b (i + 1) (j + 1) + 1) else max (from_ a b (i + 1) j) (from_ a b i (j + 1)) := by
  unfold from_
  rw [List.drop_eq_getElem_cons hi, List.drop_eq_getElem_cons hj, lcs_cons]
theorem from_endA {a b : List α} {i j : Nat} (h : a.length ≤ i) : from_ a b i j = 0 := by
  unfold from_; rw [List.drop_eq_nil_of_le h]; rfl
theorem from_endB {a b : List α} {i j : Nat} (h : b.length ≤ j) : from_ a b i j = 0 := by
  unfold from_; rw [List.drop_eq_nil_of_le h, lcs_nil]
theorem from_le (a b : List α) (i j : Nat) : from_ a b i j ≤ a.length := by
  have := lcs_most (a.drop i) (b.drop j)
  rw [List.length_drop] at this
  unfold from_
  omega
theorem from_left (a b : List α) (i j : Nat) : from_ a b (i + 1) j ≤ from_ a b i j := by
  by_cases hi : i < a.length
  · unfold from_; rw [List.drop_eq_getElem_cons hi]; exact lcs_left _ _ _
  · rw [from_endA (by omega)]; exact Nat.zero_le _
theorem from_right (a b : List α) (i j : Nat) : from_ a b i (j + 1) ≤ from_ a b i j := by
  by_cases hj : j < b.length
  · unfold from_; rw [List.drop_eq_getElem_cons hj]; exact lcs_right _ _ _
  · rw [from_endB (by omega)]; exact Nat.zero_le _
theorem from_mono (a b : List α) {i j i' j' : Nat} (hi : i ≤ i') (hj : j ≤ j') : from_ a b i' j' ≤ from_ a b i j := by
  obtain ⟨d, rfl⟩ := Nat.exists_eq_add_of_le hi
  obtain ⟨e, rfl⟩ := Nat.exists_eq_add_of_le hj
  have h1 : from_ a b (i + d) (j + e) ≤ from_ a b i (j + e) := by
    clear hi hj
    induction d with
    | zero => exact Nat.le_refl _
    | succ d ih => exact Nat.le_trans (from_left a b (i + d) (j + e)) ih
  have h2 : from_ a b i (j + e) ≤ from_ a b i j := by
    clear h1 hi hj
    induction e with
    | zero => exact Nat.le_refl _
    | succ e ih => exact Nat.le_trans (from_right a b i (j + e)) ih
  exact Nat.le_trans h1 h2
/-- A list of common pairs, from two positions on. -/
def Pairs (a b : List α) : Nat → Nat → List (Nat × Nat) → Prop
  | _, _, [] => True
  | i, j, p :: r => i ≤ p.1 ∧ j ≤ p.2 ∧ (∃ h1 : p.1 < a.length, ∃ h2 : p.2 < b.length, a[p.1] = b[p.2]) ∧ Pairs a b (p.1 + 1) (p.2 + 1) r
theorem Pairs.weaken {a b : List α} : ∀ {l : List (Nat × Nat)} {i j i' j' : Nat}, Pairs a b i' j' l → i ≤ i' → j ≤ j' → Pairs a b i j l
  | [], _, _, _, _, _, _, _ => trivial
  | _ :: _, _, _, _, _, ⟨h1, h2, h3, h4⟩, hi, hj => ⟨Nat.le_trans hi h1, Nat.le_trans hj h2, h3, h4⟩
theorem from_pair {a b : List α} {x y : Nat} (h1 : x < a.length) (h2 : y < b.length) (h : a[x] = b[y]) : from_ a b (x + 1) (y + 1) + 1 ≤ from_ a b x y := by
  rw [from_step h1 h2, if_pos h]
  omega
theorem pairs_le {a b : List α} : ∀ (l : List (Nat × Nat)) (i j : Nat), Pairs a b i j l → l.length ≤ from_ a b i j := by
  intro l
  induction l with
  | nil => intro i j _; exact Nat.zero_le _
  | cons p r ih =>
    intro i j ⟨h1, h2, ⟨h3, h4, h5⟩, h6⟩
    have := ih _ _ h6
    have h7 := from_pair h3 h4 h5
    have h8 := from_mono a b h1 h2
    simp only [List.length_cons]
    omega
/-- Whether a pair can be the next one of as many as there can be. -/
def fits (a b : List α) (left i j : Nat) : Bool := match a[i]?, b[j]? with
  | some x, some y => decide (x = y) && decide (from_ a b (i + 1) (j + 1) + 1 = left)
  | _, _ => false
theorem fits_iff {a b : List α} {left i j : Nat} : fits a b left i j = true ↔ ∃ h1 : i < a.length, ∃ h2 : j < b.length, a[i] = b[j] ∧ from_ a b (i + 1) (j + 1) + 1 = left := by
  unfold fits
  by_cases h1 : i < a.length
  · by_cases h2 : j < b.length
    · simp [List.getElem?_eq_getElem h1, List.getElem?_eq_getElem h2, h1, h2]
    · simp [List.getElem?_eq_getElem h1, List.getElem?_eq_none (Nat.le_of_not_lt h2), h2]
  · simp [List.getElem?_eq_none (Nat.le_of_not_lt h1), h1]
def rowFirst (a b : List α) (left i : Nat) : Nat → Nat → Option Nat
  | 0, _ => none
  | n + 1, j => if fits a b left i j then some j else rowFirst a b left i n (j + 1)
def firstGo (a b : List α) (left j : Nat) : Nat → Nat → Option (Nat × Nat)
  | 0, _ => none
  | n + 1, i => match rowFirst a b left i (b.length - j) j with
    | some y => some (i, y)
    | none => firstGo a b left j n (i + 1)
/-- The first pair, from two positions on, behind which there are as many as there can be. -/
def first (a b : List α) (i j : Nat) : Option (Nat × Nat) := firstGo a b (from_ a b i j) j (a.length - i) i
def commonGo (a b : List α) : Nat → Nat → Nat → List (Nat × Nat)
  | 0, _, _ => []
  | n + 1, i, j => match first a b i j with
    | some p => p :: commonGo a b n (p.1 + 1) (p.2 + 1)
    | none => []
/-- The longest common pairs. -/
def common (a b : List α) : List (Nat × Nat) := commonGo a b (a.length + 1) 0 0
theorem rowFirst_some {a b : List α} {left i : Nat} : ∀ {n j y : Nat}, rowFirst a b left i n j = some y → j ≤ y ∧ y < j + n ∧ fits a b left i y = true ∧ ∀ k, j ≤ k → k < y → fits a b left i k = false := by
  intro n
  induction n with
  | zero => intro j y h; cases h
  | succ n ih =>
    intro j y h
    unfold rowFirst at h
    split at h
    · rename_i hf
      injection h with h
      subst h
      exact ⟨Nat.le_refl _, by omega, hf, fun k h1 h2 => absurd h2 (by omega)⟩
    · rename_i hf
      obtain ⟨h1, h2, h3, h4⟩ := ih h
      refine ⟨by omega, by omega, h3, fun k hk1 hk2 => ?_⟩
      by_cases hk : k = j
      · subst hk; simpa using hf
      · exact h4 k (by omega) hk2
theorem rowFirst_none {a b : List α} {left i : Nat} : ∀ {n j : Nat}, rowFirst a b left i n j = none → ∀ k, j ≤ k → k < j + n → fits a b left i k = false := by
  intro n
  induction n with
  | zero => intro j _ k h1 h2; omega
  | succ n ih =>
    intro j h k h1 h2
    unfold rowFirst at h
    split at h
    · cases h
    · rename_i hf
      by_cases hk : k = j
      · subst hk; simpa using hf
      · exact ih h k (by omega) (by omega)
theorem firstGo_some {a b : List α} {left j : Nat} : ∀ {n i : Nat} {p : Nat × Nat}, firstGo a b left j n i = some p → i ≤ p.1 ∧ p.1 < i + n ∧ j ≤ p.2 ∧ fits a b left p.1 p.2 = true ∧ (∀ k, i ≤ k → k < p.1 → ∀ m, j ≤ m → fits a b left k m = false) ∧ ∀ m, j ≤ m → m < p.2 → fits a b left p.1 m = false := by
  intro n
  induction n with
  | zero => intro i p h; cases h
  | succ n ih =>
    intro i p h
    unfold firstGo at h
    cases hr : rowFirst a b left i (b.length - j) j with
    | some y =>
      rw [hr] at h
      injection h with h
      subst h
      obtain ⟨h1, h2, h3, h4⟩ := rowFirst_some hr
      exact ⟨Nat.le_refl _, by dsimp only; omega, h1, h3, fun k hk1 hk2 => absurd hk2 (by dsimp only; omega), h4⟩
    | none =>
      rw [hr] at h
      obtain ⟨h1, h2, h3, h4, h5, h6⟩ := ih h
      refine ⟨by omega, by omega, h3, h4, fun k hk1 hk2 m hm => ?_, h6⟩
      by_cases hk : k = i
      · subst hk
        by_cases hb : m < b.length
        · exact rowFirst_none hr m hm (by omega)
        · cases hf : fits a b left k m
          · rfl
          · obtain ⟨_, h, _⟩ := fits_iff.1 hf
            omega
      · exact h5 k (by omega) hk2 m hm
theorem firstGo_none {a b : List α} {left j : Nat} : ∀ {n i : Nat}, firstGo a b left j n i = none → ∀ k, i ≤ k → k < i + n → ∀ m, j ≤ m → fits a b left k m = false := by
  intro n
  induction n with
  | zero => intro i _ k h1 h2; omega
  | succ n ih =>
    intro i h k h1 h2 m hm
    unfold firstGo at h
    cases hr : rowFirst a b left i (b.length - j) j with
    | some y => rw [hr] at h; cases h
    | none =>
      rw [hr] at h
      by_cases hk : k = i
      · subst hk
        by_cases hb : m < b.length
        · exact rowFirst_none hr m hm (by omega)
        · cases hf : fits a b left k m
          · rfl
          · obtain ⟨_, h, _⟩ := fits_iff.1 hf
            omega
      · exact ih h k (by omega) (by omega) m hm
/-- There is a next pair as long as any are left. -/
theorem fits_exists {a b : List α} {left : Nat} (hl : 0 < left) : ∀ (n i j : Nat), (a.length - i) + (b.length - j) ≤ n → from_ a b i j = left → ∃ x y, i ≤ x ∧ j ≤ y ∧ fits a b left x y = true := by
  intro n
  induction n with
  | zero =>
    intro i j hn h
    rw [from_endA (by omega)] at h
    omega
  | succ n ih =>
    intro i j hn h
    by_cases hi : i < a.length
    · by_cases hj : j < b.length
      · have h1 := from_step hi hj
        by_cases hd : from_ a b (i + 1) j = left
        · obtain ⟨x, y, hx, hy, hf⟩ := ih (i + 1) j (by omega) hd
          exact ⟨x, y, by omega, hy, hf⟩
        · by_cases hr : from_ a b i (j + 1) = left
          · obtain ⟨x, y, hx, hy, hf⟩ := ih i (j + 1) (by omega) hr
            exact ⟨x, y, hx, by omega, hf⟩
          · have hl1 := from_left a b i j
            have hr1 := from_right a b i j
            by_cases he : a[i] = b[j]
            · rw [if_pos he] at h1
              exact ⟨i, j, Nat.le_refl _, Nat.le_refl _, fits_iff.2 ⟨hi, hj, he, by omega⟩⟩
            · rw [if_neg he] at h1
              omega
      · rw [from_endB (by omega)] at h
        omega
    · rw [from_endA (by omega)] at h
      omega
theorem first_some {a b : List α} {i j : Nat} (h : 0 < from_ a b i j) : ∃ p, first a b i j = some p := by
  obtain ⟨x, y, hx, hy, hf⟩ := fits_exists h _ i j (Nat.le_refl _) rfl
  cases hn : first a b i j with
  | some p => exact ⟨p, rfl⟩
  | none =>
    obtain ⟨h1, _⟩ := fits_iff.1 hf
    rw [firstGo_none hn x hx (by omega) y hy] at hf
    cases hf
theorem first_none {a b : List α} {i j : Nat} (h : from_ a b i j = 0) : first a b i j = none := by
  cases hn : first a b i j with
  | none => rfl
  | some p =>
    obtain ⟨_, _, _, h4, _⟩ := firstGo_some hn
    obtain ⟨_, _, _, h5⟩ := fits_iff.1 h4
    omega
theorem commonGo_pairs {a b : List α} : ∀ (n i j : Nat), a.length - i < n → Pairs a b i j (commonGo a b n i j) ∧ (commonGo a b n i j).length = from_ a b i j := by
  intro n
  induction n with
  | zero => intro i j h; omega
  | succ n ih =>
    intro i j h
    unfold commonGo
    by_cases h0 : 0 < from_ a b i j
    · obtain ⟨p, hp⟩ := first_some h0
      rw [hp]
      obtain ⟨h1, h2, h3, h4, _⟩ := firstGo_some hp
      obtain ⟨h5, h6, h7, h8⟩ := fits_iff.1 h4
      obtain ⟨h9, h10⟩ := ih (p.1 + 1) (p.2 + 1) (by omega)
      exact ⟨⟨h1, h3, ⟨h5, h6, h7⟩, h9⟩, by simp only [List.length_cons]; omega⟩
    · rw [first_none (by omega)]
      exact ⟨trivial, by simp; omega⟩
theorem common_pairs (a b : List α) : Pairs a b 0 0 (common a b) := (commonGo_pairs _ _ _ (by omega)).1
theorem common_length (a b : List α) : (common a b).length = lcs a b := by
  rw [show lcs a b = from_ a b 0 0 from rfl]
  exact (commonGo_pairs _ _ _ (by omega)).2
theorem pairs_most {a b : List α} {l : List (Nat × Nat)} (h : Pairs a b 0 0 l) : l.length ≤ (common a b).length := by
  rw [common_length]
  exact pairs_le l 0 0 h
end
end File
end Go.Proofs.YtkmcacgeecfjgaaGreatDoor
end
section
namespace Go.Proofs.YtkmcacgeecfjgaaGreatDoor
namespace File
def great (l : List Int) : Int := l.foldl max 0
end File
namespace Fl
open Go.RowKit
set_option maxRecDepth 100000
theorem greatest_spec (A : Option Addr) (xs : List Int) (c : Nat) (w : World) (hm : xs.length ≤ big) (hs : Sl intE w A xs) :
    Calls Tryz.prog 56 #[.slice A xs.length c] w fun e w' => e = .returned (iv (File.great xs)) ∧ w = w' := by
  unfold big at hm
  go_enter Tryz.func56, Tryz.ntmps56
  go_wp2
  go_loop [3, 8] (fun v i => ∃ (k : Nat) (m : Int), k ≤ xs.length ∧ i = iv k ∧ v = iv m ∧ Hid ((xs.drop k).foldl max m = File.great xs)) (fun _ i => xs.length - (intOf i).toNat)
  case atStart => exact ⟨0, 0, by omega, rfl, rfl, rfl⟩
  case round =>
    obtain ⟨k, m, hk, rfl, rfl, hr⟩ := hrel
    by_cases hlt : k < xs.length
    · obtain ⟨b, off, x, rfl, hb, hx, hc⟩ := hs.atI hlt
      have hr' := hr.out
      rw [drop_at hx, List.foldl_cons] at hr'
      have HR := Lib.hid hr'
      clear hr hr' hx
      go_wp2
      all_goals
        go_round
        case rel => exact ⟨k + 1, max m x, by omega, by go_num, by first | rfl | (congr 1; omega), HR⟩
        case measure => simp [intOf]; omega
    · have hr' := hr.out
      rw [drop_end hlt] at hr'
      go_wp2
      go_ret
      exact ⟨ret_eq (by rw [← hr']; rfl), rfl⟩
/-- Block g is the table of the numbers f. -/
def Grid (w : World) (g : Nat) (f : Nat → Nat → Nat) : Prop := ∃ cs : Array Value, Blk w g 219 cs ∧ cs.size = 625 ∧ ∀ i j, i < 25 → j < 25 → cs[i * 25 + j]? = some (iv (f i j))
theorem Grid.below {w w' : World} {g : Nat} {f : Nat → Nat → Nat} (h : Grid w g f) (hb : Below w.heap.size w w') : Grid w' g f := by
  obtain ⟨cs, h1, h2, h3⟩ := h
  exact ⟨cs, h1.under hb, h2, h3⟩
theorem Grid.cell {w : World} {g : Nat} {f : Nat → Nat → Nat} (h : Grid w g f) {i j : Nat} (hi : i < 25) (hj : j < 25) : w.cell? ⟨g, i * 25 + j, none⟩ = some (iv (f i j)) := by
  obtain ⟨cs, h1, h2, h3⟩ := h
  rw [h1.cell]; exact h3 i j hi hj
theorem Grid.lt {w : World} {g : Nat} {f : Nat → Nat → Nat} (h : Grid w g f) : g < w.heap.size := by
  obtain ⟨cs, h1, _⟩ := h; exact h1.lt
theorem Grid.frozen {w : World} {g : Nat} {f : Nat → Nat → Nat} (h : Grid w g f) : ∀ o, w.frozen? ⟨g, o, none⟩ = false := by
  obtain ⟨cs, h1, _⟩ := h; exact h1.frozen
theorem Grid.set_ {w : World} {g : Nat} {f : Nat → Nat → Nat} (h : Grid w g f) {i j : Nat} (hi : i < 25) (hj : j < 25) (n : Nat) : Grid (w.setCell ⟨g, i * 25 + j, none⟩ (iv n)) g (fun p q => if p = i ∧ q = j then n else f p q) := by
  obtain ⟨cs, h1, h2, h3⟩ := h
  refine ⟨_, h1.set_ (i * 25 + j) (iv n), by simpa using h2, fun p q hp hq => ?_⟩
  by_cases he : p = i ∧ q = j
  · obtain ⟨rfl, rfl⟩ := he
    rw [Array.getElem?_setIfInBounds_self_of_lt (by omega)]
    simp
  · show _ = some (iv ((if p = i ∧ q = j then n else f p q : Nat) : Int))
    rw [if_neg he, Array.getElem?_setIfInBounds_ne (by omega)]
    exact h3 p q hp hq
theorem zeroCells : ∀ i j : Nat, i < 25 → j < 25 → Tryz.zeroCells219[i * 25 + j]? = some (iv 0) := by
  intro i j hi hj
  have h : Tryz.zeroCells219 = Array.replicate 625 (iv 0) := by kernel_rfl
  rw [h, Array.getElem?_replicate, if_pos (by omega)]
theorem Sl.fresh {α : Type} (E : Enc α) (w : World) (t : TypeId) (arr : Array Value) (xs : List α) (h : arr.toList = xs.flatMap E.cells) (hm : xs.length ≤ maxLen) : Sl E (w.alloc (.cells arr t)) (some ⟨w.heap.size, 0, none⟩) xs := by
  have hb : Blk (w.alloc (.cells arr t)) w.heap.size t (xs.flatMap E.cells).toArray := by
    rw [← h]; exact Blk.new w t arr
  exact (Own.ofBlk (E := E) (B := 0) hb (Nat.zero_le _) hm).sl
theorem str_eq (x y : ByteArray) : (x.toList == y.toList) = decide (x = y) := by
  rw [ByteArray.toList_eq, ByteArray.toList_eq]
  by_cases h : x = y
  · subst h; simp
  · rw [decide_eq_false h, beq_eq_false_iff_ne]
    intro he
    apply h
    apply ByteArray.ext
    exact Array.toList_inj.1 he
theorem great2 (X Y : Nat) : iv (File.great [(X : Int), Y]) = iv (max X Y : Nat) := by
  show iv (max (max 0 (X : Int)) Y) = _
  congr 1
  omega
def partTab (a b : List ByteArray) (i j : Nat) (p q : Nat) : Nat := if i < p ∨ (p = i ∧ j ≤ q) then File.from_ a b p q else 0
theorem Grid.congr {w : World} {g : Nat} {f f' : Nat → Nat → Nat} (h : Grid w g f) (he : ∀ i j, i < 25 → j < 25 → f i j = f' i j) : Grid w g f' := by
  obtain ⟨cs, h1, h2, h3⟩ := h
  exact ⟨cs, h1, h2, fun i j hi hj => by rw [← he i j hi hj]; exact h3 i j hi hj⟩
set_option maxHeartbeats 4000000 in
theorem lens_spec (A : Option Addr) (a : List ByteArray) (c : Nat) (A' : Option Addr) (b : List ByteArray) (c' : Nat) (w : World) (hal : a.length ≤ 24) (hbl : b.length ≤ 24) (hsa : Sl strE w A a) (hsb : Sl strE w A' b) :
    Calls Tryz.prog 105 #[.slice A a.length c, .slice A' b.length c'] w fun e w' => ∃ g, e = .returned (.pointer (some ⟨g, 0, none⟩)) ∧ Grid w' g (File.from_ a b) ∧ Below w.heap.size w w' := by
  go_enter Tryz.func105, Tryz.ntmps105
  go_upto_region 2 with fail
  have hB0 : Blk (w.alloc (.cells Tryz.zeroCells219 219)) w.heap.size 219 Tryz.zeroCells219 := Blk.new _ _ _
  have hG0 : Grid (w.alloc (.cells Tryz.zeroCells219 219)) w.heap.size (fun _ _ => 0) := ⟨_, hB0, by kernel_rfl, fun i j hi hj => zeroCells i j hi hj⟩
  have hb0 : Below w.heap.size w (w.alloc (.cells Tryz.zeroCells219 219)) := (Below.refl _ _).alloc (Nat.le_refl _) _
  generalize w.alloc (.cells Tryz.zeroCells219 219) = w1 at *
  clear hB0
  go_wp2_with fail
  go_loopw [6, 7] (fun v _ wr => ∃ (i : Nat), i ≤ a.length ∧ v = iv ((i : Int) - 1) ∧ Grid wr w.heap.size (partTab a b i 0) ∧ Below w.heap.size w wr) (fun v _ _ => (intOf v + 1).toNat)
  case atStart =>
    refine ⟨a.length, Nat.le_refl _, rfl, hG0.congr fun p q hp hq => ?_, hb0⟩
    unfold partTab
    split
    · rename_i h
      rw [File.from_endA (by omega)]
    · rfl
  case round =>
    obtain ⟨i, hi, rfl, hG, hbw⟩ := hrel
    by_cases hlt : 0 < i
    · obtain ⟨p, rfl⟩ : ∃ p, i = p + 1 := ⟨i - 1, by omega⟩
      have hpi : (0 : Int) ≤ (p : Int) := by omega
      have e1 : ((p + 1 : Nat) : Int) - 1 = (p : Int) := by omega
      rw [e1]
      clear e1
      go_wp2_with fail
      go_loopw [7] (fun v wx => ∃ (j : Nat), j ≤ b.length ∧ v = iv ((j : Int) - 1) ∧ Grid wx w.heap.size (partTab a b p j) ∧ Below w.heap.size w wx) (fun v _ => (intOf v + 1).toNat)
      case atStart =>
        refine ⟨b.length, Nat.le_refl _, rfl, hG.congr fun r s hr hs => ?_, hbw⟩
        unfold partTab
        by_cases h1 : p + 1 ≤ r
        · rw [if_pos (by omega), if_pos (by omega)]
        · rw [if_neg (by omega)]
          split
          · rw [File.from_endB (by omega)]
          · rfl
      case round =>
        clear hG hbw
        obtain ⟨j, hj, rfl, hGx, hbx⟩ := hrel
        by_cases hlt2 : 0 < j
        · obtain ⟨q, rfl⟩ : ∃ q, j = q + 1 := ⟨j - 1, by omega⟩
          have hqi : (0 : Int) ≤ (q : Int) := by omega
          have e1 : ((q + 1 : Nat) : Int) - 1 = (q : Int) := by omega
          rw [e1]
          clear e1
          have hp25 : p + 1 < 25 := by omega
          have hq25 : q + 1 < 25 := by omega
          have hX : partTab a b p (q + 1) (p + 1) q = File.from_ a b (p + 1) q := by unfold partTab; rw [if_pos (by omega)]
          have hY : partTab a b p (q + 1) p (q + 1) = File.from_ a b p (q + 1) := by unfold partTab; rw [if_pos (by omega)]
          have hZ : partTab a b p (q + 1) (p + 1) (q + 1) = File.from_ a b (p + 1) (q + 1) := by unfold partTab; rw [if_pos (by omega)]
          obtain ⟨X, hXe⟩ : ∃ X, X = File.from_ a b (p + 1) q := ⟨_, rfl⟩
          obtain ⟨Y, hYe⟩ : ∃ Y, Y = File.from_ a b p (q + 1) := ⟨_, rfl⟩
          obtain ⟨Z, hZe⟩ : ∃ Z, Z = File.from_ a b (p + 1) (q + 1) := ⟨_, rfl⟩
          rw [← hXe] at hX
          rw [← hYe] at hY
          rw [← hZe] at hZ
          have HX := Lib.hid hXe
          have HY := Lib.hid hYe
          have HZ := Lib.hid hZe
          have e1 : IntKind.i64.wrap ((p : Int) + 1) = ((p + 1 : Nat) : Int) := IntWalk.i64_in _ (by omega)
          have e2 : IntKind.i64.wrap ((q : Int) + 1) = ((q + 1 : Nat) : Int) := IntWalk.i64_in _ (by omega)
          have hpl : (p : Int) < 25 := by omega
          have hql : (q : Int) < 25 := by omega
          have hpl1 : (p : Int) + 1 < 25 := by omega
          have hql1 : (q : Int) + 1 < 25 := by omega
          have hpl0 : (0 : Int) ≤ (p : Int) + 1 := by omega
          have hql0 : (0 : Int) ≤ (q : Int) + 1 := by omega
          have hpt : ((p : Int) + 1).toNat = p + 1 := by omega
          have hqt : ((q : Int) + 1).toNat = q + 1 := by omega
          clear hXe hYe hZe
          go_upto_region 8 with fail
          have HFF : Hid (∀ x : World, Below wr.heap.size wr x → x.cell? ⟨w.heap.size, (p + 1) * 25 + q, none⟩ = some (iv X) ∧ x.cell? ⟨w.heap.size, p * 25 + (q + 1), none⟩ = some (iv Y) ∧ w.heap.size < x.heap.size) := Lib.hid fun x h =>
            ⟨by rw [(hGx.below h).cell (by omega) (by omega), hX], by rw [(hGx.below h).cell (by omega) (by omega), hY], (hGx.below h).lt⟩
          have HGX := Lib.hid hGx
          have HBX := Lib.hid hbx
          clear hGx hbx hX hY
          refine wp_free_lit (by kernel_rfl) 18 (by kernel_rfl) (by kernel_rfl) (by decide) (fun _ x => Below wr.heap.size wr x) (fun x x' => Below x.heap.size x x')
            [fun _ u _ => u = iv p,
             fun _ u _ => u = iv q,
             fun _ u _ => u = iv p,
             fun _ u _ => u = iv ((p + 1 : Nat) : Int),
             fun _ u _ => u = iv q,
             fun _ u _ => u = .pointer (some ⟨w.heap.size, (p + 1) * 25, none⟩),
             fun _ u _ => u = .pointer (some ⟨w.heap.size, (p + 1) * 25 + q, none⟩),
             fun _ u _ => u = iv X,
             fun _ u _ => u = iv p,
             fun _ u _ => u = iv q,
             fun _ u _ => u = iv ((q + 1 : Nat) : Int),
             fun _ u _ => u = .pointer (some ⟨w.heap.size, p * 25, none⟩),
             fun _ u _ => u = .pointer (some ⟨w.heap.size, p * 25 + (q + 1), none⟩),
             fun _ u _ => u = iv Y,
             fun _ u x => ∃ g, u = .slice (some ⟨g, 0, none⟩) 2 2 ∧ Sl intE x (some ⟨g, 0, none⟩) [(X : Int), Y],
             fun _ u _ => u = iv (max X Y : Nat),
             fun _ u _ => u = .pointer (some ⟨w.heap.size, p * 25, none⟩),
             fun _ u _ => u = .pointer (some ⟨w.heap.size, p * 25 + q, none⟩)]
            (Below.refl _ wr).drew ?_ ?_
          · simp only [List.take_succ_cons, List.take_zero, HopL]
            refine ⟨?_, ?_, ?_, ?_, ?_, ?_, ?_, ?_, ?_, ?_, ?_, ?_, ?_, ?_, ?_, ?_, ?_, ?_, trivial⟩
            · refine ⟨fun _ _ _ _ _ h => h, fun _ _ _ _ h _ => h, fun v n x hn hR hk => ?_⟩
              obtain ⟨f0, f1, f2⟩ := HFF.out x hR
              skip
              simp only [List.take_succ_cons, List.take_zero, frameF, Act.put, List.setIfInBounds_toArray, List.set_cons_zero, List.set_cons_succ]
              exact stepF_val (by rfl) (by go_simp) ⟨rfl, Below.refl _ _, hR⟩
            · refine ⟨fun _ _ _ _ _ h => h, fun _ _ _ _ h _ => h, fun v n x hn hR hk => ?_⟩
              obtain ⟨f0, f1, f2⟩ := HFF.out x hR
              skip
              simp only [List.take_succ_cons, List.take_zero, frameF, Act.put, List.setIfInBounds_toArray, List.set_cons_zero, List.set_cons_succ]
              exact stepF_val (by rfl) (by go_simp) ⟨rfl, Below.refl _ _, hR⟩
            · refine ⟨fun _ _ _ _ _ h => h, fun _ _ _ _ h _ => h, fun v n x hn hR hk => ?_⟩
              obtain ⟨f0, f1, f2⟩ := HFF.out x hR
              skip
              simp only [List.take_succ_cons, List.take_zero, frameF, Act.put, List.setIfInBounds_toArray, List.set_cons_zero, List.set_cons_succ]
              exact stepF_val (by rfl) (by go_simp) ⟨rfl, Below.refl _ _, hR⟩
            · refine ⟨fun _ _ _ _ _ h => h, fun _ _ _ _ h _ => h, fun v n x hn hR hk => ?_⟩
              obtain ⟨f0, f1, f2⟩ := HFF.out x hR
              have h0 : v 2 = iv p := hk 2 (by kernel_rfl)
              simp only [List.take_succ_cons, List.take_zero, frameF, Act.put, List.setIfInBounds_toArray, List.set_cons_zero, List.set_cons_succ]
              exact stepF_val (by rfl) (by go_simp) ⟨rfl, Below.refl _ _, hR⟩
            · refine ⟨fun _ _ _ _ _ h => h, fun _ _ _ _ h _ => h, fun v n x hn hR hk => ?_⟩
              obtain ⟨f0, f1, f2⟩ := HFF.out x hR
              skip
              simp only [List.take_succ_cons, List.take_zero, frameF, Act.put, List.setIfInBounds_toArray, List.set_cons_zero, List.set_cons_succ]
              exact stepF_val (by rfl) (by go_simp) ⟨rfl, Below.refl _ _, hR⟩
            · refine ⟨fun _ _ _ _ _ h => h, fun _ _ _ _ h _ => h, fun v n x hn hR hk => ?_⟩
              obtain ⟨f0, f1, f2⟩ := HFF.out x hR
              have h0 : v 3 = iv ((p + 1 : Nat) : Int) := hk 3 (by kernel_rfl)
              simp only [List.take_succ_cons, List.take_zero, frameF, Act.put, List.setIfInBounds_toArray, List.set_cons_zero, List.set_cons_succ]
              exact stepF_val (by rfl) (by go_simp) ⟨rfl, Below.refl _ _, hR⟩
            · refine ⟨fun _ _ _ _ _ h => h, fun _ _ _ _ h _ => h, fun v n x hn hR hk => ?_⟩
              obtain ⟨f0, f1, f2⟩ := HFF.out x hR
              (have h0 : v 5 = .pointer (some ⟨w.heap.size, (p + 1) * 25, none⟩) := hk 5 (by kernel_rfl); have h1 : v 4 = iv q := hk 4 (by kernel_rfl))
              simp only [List.take_succ_cons, List.take_zero, frameF, Act.put, List.setIfInBounds_toArray, List.set_cons_zero, List.set_cons_succ]
              exact stepF_val (by rfl) (by go_simp) ⟨rfl, Below.refl _ _, hR⟩
            · refine ⟨fun _ _ _ _ _ h => h, fun _ _ _ _ h _ => h, fun v n x hn hR hk => ?_⟩
              obtain ⟨f0, f1, f2⟩ := HFF.out x hR
              have h0 : v 6 = .pointer (some ⟨w.heap.size, (p + 1) * 25 + q, none⟩) := hk 6 (by kernel_rfl)
              simp only [List.take_succ_cons, List.take_zero, frameF, Act.put, List.setIfInBounds_toArray, List.set_cons_zero, List.set_cons_succ]
              exact stepF_val (by rfl) (by go_simp) ⟨rfl, Below.refl _ _, hR⟩
            · refine ⟨fun _ _ _ _ _ h => h, fun _ _ _ _ h _ => h, fun v n x hn hR hk => ?_⟩
              obtain ⟨f0, f1, f2⟩ := HFF.out x hR
              skip
              simp only [List.take_succ_cons, List.take_zero, frameF, Act.put, List.setIfInBounds_toArray, List.set_cons_zero, List.set_cons_succ]
              exact stepF_val (by rfl) (by go_simp) ⟨rfl, Below.refl _ _, hR⟩
            · refine ⟨fun _ _ _ _ _ h => h, fun _ _ _ _ h _ => h, fun v n x hn hR hk => ?_⟩
              obtain ⟨f0, f1, f2⟩ := HFF.out x hR
              skip
              simp only [List.take_succ_cons, List.take_zero, frameF, Act.put, List.setIfInBounds_toArray, List.set_cons_zero, List.set_cons_succ]
              exact stepF_val (by rfl) (by go_simp) ⟨rfl, Below.refl _ _, hR⟩
            · refine ⟨fun _ _ _ _ _ h => h, fun _ _ _ _ h _ => h, fun v n x hn hR hk => ?_⟩
              obtain ⟨f0, f1, f2⟩ := HFF.out x hR
              have h0 : v 9 = iv q := hk 9 (by kernel_rfl)
              simp only [List.take_succ_cons, List.take_zero, frameF, Act.put, List.setIfInBounds_toArray, List.set_cons_zero, List.set_cons_succ]
              exact stepF_val (by rfl) (by go_simp) ⟨rfl, Below.refl _ _, hR⟩
            · refine ⟨fun _ _ _ _ _ h => h, fun _ _ _ _ h _ => h, fun v n x hn hR hk => ?_⟩
              obtain ⟨f0, f1, f2⟩ := HFF.out x hR
              have h0 : v 8 = iv p := hk 8 (by kernel_rfl)
              simp only [List.take_succ_cons, List.take_zero, frameF, Act.put, List.setIfInBounds_toArray, List.set_cons_zero, List.set_cons_succ]
              exact stepF_val (by rfl) (by go_simp) ⟨rfl, Below.refl _ _, hR⟩
            · refine ⟨fun _ _ _ _ _ h => h, fun _ _ _ _ h _ => h, fun v n x hn hR hk => ?_⟩
              obtain ⟨f0, f1, f2⟩ := HFF.out x hR
              (have h0 : v 11 = .pointer (some ⟨w.heap.size, p * 25, none⟩) := hk 11 (by kernel_rfl); have h1 : v 10 = iv ((q + 1 : Nat) : Int) := hk 10 (by kernel_rfl))
              simp only [List.take_succ_cons, List.take_zero, frameF, Act.put, List.setIfInBounds_toArray, List.set_cons_zero, List.set_cons_succ]
              exact stepF_val (by rfl) (by go_simp) ⟨rfl, Below.refl _ _, hR⟩
            · refine ⟨fun _ _ _ _ _ h => h, fun _ _ _ _ h _ => h, fun v n x hn hR hk => ?_⟩
              obtain ⟨f0, f1, f2⟩ := HFF.out x hR
              have h0 : v 12 = .pointer (some ⟨w.heap.size, p * 25 + (q + 1), none⟩) := hk 12 (by kernel_rfl)
              simp only [List.take_succ_cons, List.take_zero, frameF, Act.put, List.setIfInBounds_toArray, List.set_cons_zero, List.set_cons_succ]
              exact stepF_val (by rfl) (by go_simp) ⟨rfl, Below.refl _ _, hR⟩
            · refine ⟨fun _ _ _ _ _ h => h, fun _ _ _ _ h hS => ?_, fun v n x hn hR hk => ?_⟩
              · obtain ⟨g, h1, h2⟩ := h
                exact ⟨g, h1, h2.below hS⟩
              · have h0 : v 7 = iv X := hk 7 (by kernel_rfl)
                have h1 : v 13 = iv Y := hk 13 (by kernel_rfl)
                simp only [List.take_succ_cons, List.take_zero, frameF, Act.put, List.setIfInBounds_toArray, List.set_cons_zero, List.set_cons_succ]
                exact stepF_new (u := .slice (some ⟨x.heap.size, 0, none⟩) 2 2) (w' := x.alloc (.cells #[iv X, iv Y] 3)) (by rfl) (by go_simp) ⟨⟨x.heap.size, rfl, Sl.fresh intE x 3 #[iv X, iv Y] [(X : Int), Y] rfl (by simp [maxLen])⟩, (Below.refl _ _).alloc (Nat.le_refl _) _, hR.alloc hR.size _⟩
            · refine ⟨fun _ _ _ _ _ h => h, fun _ _ _ _ h _ => h, fun v n x hn hR hk => ?_⟩
              have h14 : ∃ g, v 14 = .slice (some ⟨g, 0, none⟩) 2 2 ∧ Sl intE x (some ⟨g, 0, none⟩) [(X : Int), Y] := hk 14 (by kernel_rfl)
              obtain ⟨g, h1, h2⟩ := h14
              simp only [List.take_succ_cons, List.take_zero, frameF, Act.put, List.setIfInBounds_toArray, List.set_cons_zero, List.set_cons_succ]
              refine stepF_call (by rfl) (by go_simp) (greatest_spec (some ⟨g, 0, none⟩) [(X : Int), Y] 2 x (by simp [big]) h2) ?_
              rintro e x' ⟨rfl, rfl⟩
              exact ⟨_, rfl, great2 X Y, Below.refl _ _, hR⟩
            · refine ⟨fun _ _ _ _ _ h => h, fun _ _ _ _ h _ => h, fun v n x hn hR hk => ?_⟩
              obtain ⟨f0, f1, f2⟩ := HFF.out x hR
              have h0 : v 0 = iv p := hk 0 (by kernel_rfl)
              simp only [List.take_succ_cons, List.take_zero, frameF, Act.put, List.setIfInBounds_toArray, List.set_cons_zero, List.set_cons_succ]
              exact stepF_val (by rfl) (by go_simp) ⟨rfl, Below.refl _ _, hR⟩
            · refine ⟨fun _ _ _ _ _ h => h, fun _ _ _ _ h _ => h, fun v n x hn hR hk => ?_⟩
              obtain ⟨f0, f1, f2⟩ := HFF.out x hR
              (have h0 : v 16 = .pointer (some ⟨w.heap.size, p * 25, none⟩) := hk 16 (by kernel_rfl); have h1 : v 1 = iv q := hk 1 (by kernel_rfl))
              simp only [List.take_succ_cons, List.take_zero, frameF, Act.put, List.setIfInBounds_toArray, List.set_cons_zero, List.set_cons_succ]
              exact stepF_val (by rfl) (by go_simp) ⟨rfl, Below.refl _ _, hR⟩
          · intro v n x hn hR hall
            have h15 : v 15 = iv (max X Y : Nat) := hall 15 (by decide)
            have h17 : v 17 = .pointer (some ⟨w.heap.size, p * 25 + q, none⟩) := hall 17 (by decide)
            have hst := (HGX.out.below hR).set_ (i := p) (j := q) (by omega) (by omega) (max X Y)
            have hgl := (HGX.out.below hR).lt
            have m0 := (HGX.out.below hR).cell (i := p) (j := q) (by omega) (by omega)
            have m1 := (HGX.out.below hR).frozen
            have HST := Lib.hid hst
            have HBS := Lib.hid ((HBX.out.next hR (Nat.le_refl _)).setCell (p := ⟨w.heap.size, p * 25 + q, none⟩) (Nat.le_refl _) (iv (max X Y : Nat)))
            clear hall hR hst HFF
            simp only [List.drop_succ_cons, List.drop_zero, List.take_succ_cons, List.take_zero, frameF, Act.put, List.setIfInBounds_toArray, List.set_cons_zero, List.set_cons_succ, h15, h17]
            go_upto_region 9 with fail
            generalize x.setCell ⟨w.heap.size, p * 25 + q, none⟩ (iv (max X Y : Nat)) = wS at *
            have hpa : p < a.length := by omega
            have hqb : q < b.length := by omega
            obtain ⟨ba, offa, sa, rfl, hba, hxa, hca⟩ := Sl.atS (hsa.below HBS.out) hpa
            obtain ⟨bb, offb, sb, rfl, hbb, hxb, hcb⟩ := Sl.atS (hsb.below HBS.out) hqb
            have hpai : (p : Int) < (a.length : Int) := by omega
            have hqbi : (q : Int) < (b.length : Int) := by omega
            have HXA := Lib.hid hxa
            have HXB := Lib.hid hxb
            clear hxa hxb m0 m1
            have hsq := str_eq sa sb
            have HSA : Hid (a[p]'hpa = sa) := Lib.hid (by have := HXA.out; rw [List.getElem?_eq_getElem hpa] at this; injection this)
            have HSB : Hid (b[q]'hqb = sb) := Lib.hid (by have := HXB.out; rw [List.getElem?_eq_getElem hqb] at this; injection this)
            by_cases hsab : sa = sb
            · have heq : (sa.toList == sb.toList) = true := by rw [hsq]; simpa using hsab
              have HEQ := Lib.hid hsab
              clear hsq hsab
              have hZl : Z ≤ 24 := by have := File.from_le a b (p + 1) (q + 1); rw [← HZ.out] at this; omega
              obtain ⟨M, hM⟩ : ∃ M, M = max X Y := ⟨_, rfl⟩
              rw [← hM] at HST
              have hHM : Hid (M = max X Y) := Lib.hid hM
              have e3 : IntKind.i64.wrap ((Z : Int) + 1) = ((Z + 1 : Nat) : Int) := IntWalk.i64_in _ (by omega)
              go_quiet (fail)
              go_upto_region 10 with fail
              have HSTn : Hid (Grid (wS.drewN nq) w.heap.size fun p_1 q_1 => if p_1 = p ∧ q_1 = q then M else partTab a b p (q + 1) p_1 q_1) := Lib.hid HST.out
              have HBSn : Hid (Below w.heap.size w (wS.drewN nq)) := Lib.hid ⟨HBS.out.os, HBS.out.tape, HBS.out.output, HBS.out.size, HBS.out.block⟩
              generalize wS.drewN nq = wT at *
              clear hM
              have HFF : Hid (∀ x : World, Below wT.heap.size wT x → x.cell? ⟨w.heap.size, p * 25 + q, none⟩ = some (iv M) ∧ x.cell? ⟨w.heap.size, (p + 1) * 25 + (q + 1), none⟩ = some (iv Z) ∧ w.heap.size < x.heap.size) := Lib.hid fun x h =>
                ⟨by rw [(HSTn.out.below h).cell (by omega) (by omega), if_pos ⟨rfl, rfl⟩], by rw [(HSTn.out.below h).cell (by omega) (by omega), if_neg (by omega), hZ], (HSTn.out.below h).lt⟩
              refine wp_free_lit (by kernel_rfl) 19 (by kernel_rfl) (by kernel_rfl) (by decide) (fun _ x => Below wT.heap.size wT x) (fun x x' => Below x.heap.size x x')
                [fun _ u _ => u = iv p,
                 fun _ u _ => u = iv q,
                 fun _ u _ => u = iv p,
                 fun _ u _ => u = iv q,
                 fun _ u _ => u = .pointer (some ⟨w.heap.size, p * 25, none⟩),
                 fun _ u _ => u = .pointer (some ⟨w.heap.size, p * 25 + q, none⟩),
                 fun _ u _ => u = iv M,
                 fun _ u _ => u = iv p,
                 fun _ u _ => u = iv ((p + 1 : Nat) : Int),
                 fun _ u _ => u = iv q,
                 fun _ u _ => u = iv ((q + 1 : Nat) : Int),
                 fun _ u _ => u = .pointer (some ⟨w.heap.size, (p + 1) * 25, none⟩),
                 fun _ u _ => u = .pointer (some ⟨w.heap.size, (p + 1) * 25 + (q + 1), none⟩),
                 fun _ u _ => u = iv Z,
                 fun _ u _ => u = iv ((Z + 1 : Nat) : Int),
                 fun _ u x => ∃ g, u = .slice (some ⟨g, 0, none⟩) 2 2 ∧ Sl intE x (some ⟨g, 0, none⟩) [(M : Int), ((Z + 1 : Nat) : Int)],
                 fun _ u _ => u = iv (max M (Z + 1) : Nat),
                 fun _ u _ => u = .pointer (some ⟨w.heap.size, p * 25, none⟩),
                 fun _ u _ => u = .pointer (some ⟨w.heap.size, p * 25 + q, none⟩)]
                (Below.refl _ wT).drew ?_ ?_
              · simp only [List.take_succ_cons, List.take_zero, HopL]
                refine ⟨?_, ?_, ?_, ?_, ?_, ?_, ?_, ?_, ?_, ?_, ?_, ?_, ?_, ?_, ?_, ?_, ?_, ?_, ?_, trivial⟩
                · refine ⟨fun _ _ _ _ _ h => h, fun _ _ _ _ h _ => h, fun v n x hn hR hk => ?_⟩
                  obtain ⟨f0, f1, f2⟩ := HFF.out x hR
                  skip
                  simp only [List.take_succ_cons, List.take_zero, frameF, Act.put, List.setIfInBounds_toArray, List.set_cons_zero, List.set_cons_succ]
                  exact stepF_val (by rfl) (by go_simp) ⟨rfl, Below.refl _ _, hR⟩
                · refine ⟨fun _ _ _ _ _ h => h, fun _ _ _ _ h _ => h, fun v n x hn hR hk => ?_⟩
                  obtain ⟨f0, f1, f2⟩ := HFF.out x hR
                  skip
                  simp only [List.take_succ_cons, List.take_zero, frameF, Act.put, List.setIfInBounds_toArray, List.set_cons_zero, List.set_cons_succ]
                  exact stepF_val (by rfl) (by go_simp) ⟨rfl, Below.refl _ _, hR⟩
                · refine ⟨fun _ _ _ _ _ h => h, fun _ _ _ _ h _ => h, fun v n x hn hR hk => ?_⟩
                  obtain ⟨f0, f1, f2⟩ := HFF.out x hR
                  skip
                  simp only [List.take_succ_cons, List.take_zero, frameF, Act.put, List.setIfInBounds_toArray, List.set_cons_zero, List.set_cons_succ]
                  exact stepF_val (by rfl) (by go_simp) ⟨rfl, Below.refl _ _, hR⟩
                · refine ⟨fun _ _ _ _ _ h => h, fun _ _ _ _ h _ => h, fun v n x hn hR hk => ?_⟩
                  obtain ⟨f0, f1, f2⟩ := HFF.out x hR
                  skip
                  simp only [List.take_succ_cons, List.take_zero, frameF, Act.put, List.setIfInBounds_toArray, List.set_cons_zero, List.set_cons_succ]
                  exact stepF_val (by rfl) (by go_simp) ⟨rfl, Below.refl _ _, hR⟩
                · refine ⟨fun _ _ _ _ _ h => h, fun _ _ _ _ h _ => h, fun v n x hn hR hk => ?_⟩
                  obtain ⟨f0, f1, f2⟩ := HFF.out x hR
                  have h0 : v 2 = iv p := hk 2 (by kernel_rfl)
                  simp only [List.take_succ_cons, List.take_zero, frameF, Act.put, List.setIfInBounds_toArray, List.set_cons_zero, List.set_cons_succ]
                  exact stepF_val (by rfl) (by go_simp) ⟨rfl, Below.refl _ _, hR⟩
                · refine ⟨fun _ _ _ _ _ h => h, fun _ _ _ _ h _ => h, fun v n x hn hR hk => ?_⟩
                  obtain ⟨f0, f1, f2⟩ := HFF.out x hR
                  (have h0 : v 4 = .pointer (some ⟨w.heap.size, p * 25, none⟩) := hk 4 (by kernel_rfl); have h1 : v 3 = iv q := hk 3 (by kernel_rfl))
                  simp only [List.take_succ_cons, List.take_zero, frameF, Act.put, List.setIfInBounds_toArray, List.set_cons_zero, List.set_cons_succ]
                  exact stepF_val (by rfl) (by go_simp) ⟨rfl, Below.refl _ _, hR⟩
                · refine ⟨fun _ _ _ _ _ h => h, fun _ _ _ _ h _ => h, fun v n x hn hR hk => ?_⟩
                  obtain ⟨f0, f1, f2⟩ := HFF.out x hR
                  have h0 : v 5 = .pointer (some ⟨w.heap.size, p * 25 + q, none⟩) := hk 5 (by kernel_rfl)
                  simp only [List.take_succ_cons, List.take_zero, frameF, Act.put, List.setIfInBounds_toArray, List.set_cons_zero, List.set_cons_succ]
                  exact stepF_val (by rfl) (by go_simp) ⟨rfl, Below.refl _ _, hR⟩
                · refine ⟨fun _ _ _ _ _ h => h, fun _ _ _ _ h _ => h, fun v n x hn hR hk => ?_⟩
                  obtain ⟨f0, f1, f2⟩ := HFF.out x hR
                  skip
                  simp only [List.take_succ_cons, List.take_zero, frameF, Act.put, List.setIfInBounds_toArray, List.set_cons_zero, List.set_cons_succ]
                  exact stepF_val (by rfl) (by go_simp) ⟨rfl, Below.refl _ _, hR⟩
                · refine ⟨fun _ _ _ _ _ h => h, fun _ _ _ _ h _ => h, fun v n x hn hR hk => ?_⟩
                  obtain ⟨f0, f1, f2⟩ := HFF.out x hR
                  have h0 : v 7 = iv p := hk 7 (by kernel_rfl)
                  simp only [List.take_succ_cons, List.take_zero, frameF, Act.put, List.setIfInBounds_toArray, List.set_cons_zero, List.set_cons_succ]
                  exact stepF_val (by rfl) (by go_simp) ⟨rfl, Below.refl _ _, hR⟩
                · refine ⟨fun _ _ _ _ _ h => h, fun _ _ _ _ h _ => h, fun v n x hn hR hk => ?_⟩
                  obtain ⟨f0, f1, f2⟩ := HFF.out x hR
                  skip
                  simp only [List.take_succ_cons, List.take_zero, frameF, Act.put, List.setIfInBounds_toArray, List.set_cons_zero, List.set_cons_succ]
                  exact stepF_val (by rfl) (by go_simp) ⟨rfl, Below.refl _ _, hR⟩
                · refine ⟨fun _ _ _ _ _ h => h, fun _ _ _ _ h _ => h, fun v n x hn hR hk => ?_⟩
                  obtain ⟨f0, f1, f2⟩ := HFF.out x hR
                  have h0 : v 9 = iv q := hk 9 (by kernel_rfl)
                  simp only [List.take_succ_cons, List.take_zero, frameF, Act.put, List.setIfInBounds_toArray, List.set_cons_zero, List.set_cons_succ]
                  exact stepF_val (by rfl) (by go_simp) ⟨rfl, Below.refl _ _, hR⟩
                · refine ⟨fun _ _ _ _ _ h => h, fun _ _ _ _ h _ => h, fun v n x hn hR hk => ?_⟩
                  obtain ⟨f0, f1, f2⟩ := HFF.out x hR
                  have h0 : v 8 = iv ((p + 1 : Nat) : Int) := hk 8 (by kernel_rfl)
                  simp only [List.take_succ_cons, List.take_zero, frameF, Act.put, List.setIfInBounds_toArray, List.set_cons_zero, List.set_cons_succ]
                  exact stepF_val (by rfl) (by go_simp) ⟨rfl, Below.refl _ _, hR⟩
                · refine ⟨fun _ _ _ _ _ h => h, fun _ _ _ _ h _ => h, fun v n x hn hR hk => ?_⟩
                  obtain ⟨f0, f1, f2⟩ := HFF.out x hR
                  (have h0 : v 11 = .pointer (some ⟨w.heap.size, (p + 1) * 25, none⟩) := hk 11 (by kernel_rfl); have h1 : v 10 = iv ((q + 1 : Nat) : Int) := hk 10 (by kernel_rfl))
                  simp only [List.take_succ_cons, List.take_zero, frameF, Act.put, List.setIfInBounds_toArray, List.set_cons_zero, List.set_cons_succ]
                  exact stepF_val (by rfl) (by go_simp) ⟨rfl, Below.refl _ _, hR⟩
                · refine ⟨fun _ _ _ _ _ h => h, fun _ _ _ _ h _ => h, fun v n x hn hR hk => ?_⟩
                  obtain ⟨f0, f1, f2⟩ := HFF.out x hR
                  have h0 : v 12 = .pointer (some ⟨w.heap.size, (p + 1) * 25 + (q + 1), none⟩) := hk 12 (by kernel_rfl)
                  simp only [List.take_succ_cons, List.take_zero, frameF, Act.put, List.setIfInBounds_toArray, List.set_cons_zero, List.set_cons_succ]
                  exact stepF_val (by rfl) (by go_simp) ⟨rfl, Below.refl _ _, hR⟩
                · refine ⟨fun _ _ _ _ _ h => h, fun _ _ _ _ h _ => h, fun v n x hn hR hk => ?_⟩
                  obtain ⟨f0, f1, f2⟩ := HFF.out x hR
                  have h0 : v 13 = iv Z := hk 13 (by kernel_rfl)
                  simp only [List.take_succ_cons, List.take_zero, frameF, Act.put, List.setIfInBounds_toArray, List.set_cons_zero, List.set_cons_succ]
                  exact stepF_val (by rfl) (by go_simp) ⟨rfl, Below.refl _ _, hR⟩
                · refine ⟨fun _ _ _ _ _ h => h, fun _ _ _ _ h hS => ?_, fun v n x hn hR hk => ?_⟩
                  · obtain ⟨g, h1, h2⟩ := h
                    exact ⟨g, h1, h2.below hS⟩
                  · have h0 : v 6 = iv M := hk 6 (by kernel_rfl)
                    have h1 : v 14 = iv ((Z + 1 : Nat) : Int) := hk 14 (by kernel_rfl)
                    simp only [List.take_succ_cons, List.take_zero, frameF, Act.put, List.setIfInBounds_toArray, List.set_cons_zero, List.set_cons_succ]
                    exact stepF_new (u := .slice (some ⟨x.heap.size, 0, none⟩) 2 2) (w' := x.alloc (.cells #[iv M, iv ((Z + 1 : Nat) : Int)] 3)) (by rfl) (by go_simp) ⟨⟨x.heap.size, rfl, Sl.fresh intE x 3 #[iv M, iv ((Z + 1 : Nat) : Int)] [(M : Int), ((Z + 1 : Nat) : Int)] rfl (by simp [maxLen])⟩, (Below.refl _ _).alloc (Nat.le_refl _) _, hR.alloc hR.size _⟩
                · refine ⟨fun _ _ _ _ _ h => h, fun _ _ _ _ h _ => h, fun v n x hn hR hk => ?_⟩
                  have h14 : ∃ g, v 15 = .slice (some ⟨g, 0, none⟩) 2 2 ∧ Sl intE x (some ⟨g, 0, none⟩) [(M : Int), ((Z + 1 : Nat) : Int)] := hk 15 (by kernel_rfl)
                  obtain ⟨g, h1, h2⟩ := h14
                  simp only [List.take_succ_cons, List.take_zero, frameF, Act.put, List.setIfInBounds_toArray, List.set_cons_zero, List.set_cons_succ]
                  refine stepF_call (by rfl) (by go_simp) (greatest_spec (some ⟨g, 0, none⟩) [(M : Int), ((Z + 1 : Nat) : Int)] 2 x (by simp [big]) h2) ?_
                  rintro e x' ⟨rfl, rfl⟩
                  exact ⟨_, rfl, great2 M (Z + 1), Below.refl _ _, hR⟩
                · refine ⟨fun _ _ _ _ _ h => h, fun _ _ _ _ h _ => h, fun v n x hn hR hk => ?_⟩
                  obtain ⟨f0, f1, f2⟩ := HFF.out x hR
                  have h0 : v 0 = iv p := hk 0 (by kernel_rfl)
                  simp only [List.take_succ_cons, List.take_zero, frameF, Act.put, List.setIfInBounds_toArray, List.set_cons_zero, List.set_cons_succ]
                  exact stepF_val (by rfl) (by go_simp) ⟨rfl, Below.refl _ _, hR⟩
                · refine ⟨fun _ _ _ _ _ h => h, fun _ _ _ _ h _ => h, fun v n x hn hR hk => ?_⟩
                  obtain ⟨f0, f1, f2⟩ := HFF.out x hR
                  (have h0 : v 17 = .pointer (some ⟨w.heap.size, p * 25, none⟩) := hk 17 (by kernel_rfl); have h1 : v 1 = iv q := hk 1 (by kernel_rfl))
                  simp only [List.take_succ_cons, List.take_zero, frameF, Act.put, List.setIfInBounds_toArray, List.set_cons_zero, List.set_cons_succ]
                  exact stepF_val (by rfl) (by go_simp) ⟨rfl, Below.refl _ _, hR⟩
              · intro v' n x hn hR hall
                have h15 : v' 16 = iv (max M (Z + 1) : Nat) := hall 16 (by decide)
                have h17 : v' 18 = .pointer (some ⟨w.heap.size, p * 25 + q, none⟩) := hall 18 (by decide)
                have hst := (HSTn.out.below hR).set_ (i := p) (j := q) (by omega) (by omega) (max M (Z + 1))
                have hgl := (HSTn.out.below hR).lt
                have m0 := (HSTn.out.below hR).cell (i := p) (j := q) (by omega) (by omega)
                have m1 := (HSTn.out.below hR).frozen
                have HGf : Hid (Grid (x.setCell ⟨w.heap.size, p * 25 + q, none⟩ (iv (max M (Z + 1) : Nat))) w.heap.size (partTab a b p q)) := Lib.hid (hst.congr fun r t hr ht => by
                  unfold partTab
                  have hs := File.from_step hpa hqb
                  rw [HSA.out, HSB.out, if_pos HEQ.out, ← HX.out, ← HY.out, ← HZ.out, ← hHM.out] at hs
                  by_cases h1 : r = p ∧ t = q
                  · rw [if_pos h1, if_pos (by omega), h1.1, h1.2, hs]
                  · rw [if_neg h1, if_neg h1]
                    by_cases h2 : p < r ∨ (r = p ∧ q + 1 ≤ t)
                    · rw [if_pos h2, if_pos (by omega)]
                    · rw [if_neg h2, if_neg (by omega)])
                have HBf := Lib.hid ((HBSn.out.next hR (Nat.le_refl _)).setCell (p := ⟨w.heap.size, p * 25 + q, none⟩) (Nat.le_refl _) (iv (max M (Z + 1) : Nat)))
                clear hall hR hst HFF
                simp only [List.drop_succ_cons, List.drop_zero, List.take_succ_cons, List.take_zero, frameF, Act.put, List.setIfInBounds_toArray, List.set_cons_zero, List.set_cons_succ, h15, h17]
                go_wp2_with fail
                go_roundw
                case rel => exact ⟨q, by omega, rfl, HGf.out, HBf.out⟩
                case measure => simp [intOf]
            · have heq : (sa.toList == sb.toList) = false := by rw [hsq]; simpa using hsab
              have HEQ := Lib.hid hsab
              clear hsq hsab
              have HGf : Hid (Grid wS w.heap.size (partTab a b p q)) := Lib.hid (HST.out.congr fun r t hr ht => by
                unfold partTab
                have hs := File.from_step hpa hqb
                rw [HSA.out, HSB.out, if_neg HEQ.out, ← HX.out, ← HY.out] at hs
                by_cases h1 : r = p ∧ t = q
                · rw [if_pos h1, if_pos (by omega), h1.1, h1.2, hs]
                · rw [if_neg h1]
                  by_cases h2 : p < r ∨ (r = p ∧ q + 1 ≤ t)
                  · rw [if_pos h2, if_pos (by omega)]
                  · rw [if_neg h2, if_neg (by omega)])
              go_quiet (fail)
              have hGn : Grid (wS.drewN nq) w.heap.size (partTab a b p q) := HGf.out
              have hBn : Below w.heap.size w (wS.drewN nq) := ⟨HBS.out.os, HBS.out.tape, HBS.out.output, HBS.out.size, HBS.out.block⟩
              go_wp2_with fail
              go_roundw
              case rel => exact ⟨q, by omega, rfl, hGn, hBn⟩
              case measure => simp [intOf]
        · obtain rfl : j = 0 := by omega
          go_wp2_with fail
          go_roundw
          case rel => exact ⟨p, by omega, rfl, hGx, hbx⟩
          case measure => simp [intOf]
    · obtain rfl : i = 0 := by omega
      go_wp2_with fail
      go_ret
      exact ⟨_, rfl, hG.congr fun p q _ _ => by unfold partTab; rw [if_pos (by omega)], hbw⟩
end Fl
end Go.Proofs.YtkmcacgeecfjgaaGreatDoor
end
section
namespace Go.Proofs.YtkmcacgeecfjgaaGreatDoor
namespace Fl
open Go.RowKit Go.Maps Go.WideMaps Go.ChangeShapes
set_option maxRecDepth 100000
theorem both_spec (A : Option Addr) (a : List ByteArray) (c : Nat) (A' : Option Addr) (b : List ByteArray) (c' : Nat) (w : World) (ha : a.length ≤ big) (hb : b.length ≤ big) (hsa : Sl strE w A a) (hsb : Sl strE w A' b) :
    Calls Tryz.prog 41 #[.slice A a.length c, .slice A' b.length c'] w fun e w' => e = .returned (iv (if File.check a = 0 then File.check b else File.check a)) ∧ Below w.heap.size w w' := by
  have HA := Lib.hid (check_spec A a c w ha hsa)
  by_cases h : File.check a = 0
  · rw [if_pos h]
    rw [h] at HA
    clear h
    go_enter Tryz.func41, Tryz.ntmps41
    go_wp2_with fail
    refine HA.out.mono ?_
    rintro e w1 ⟨rfl, hb1⟩
    have HB := Lib.hid (check_spec A' b c' w1 hb (hsb.below hb1))
    go_wp2_with fail
    refine HB.out.mono ?_
    rintro e w2 ⟨rfl, hb2⟩
    go_wp2_with fail
    go_ret
    exact ⟨rfl, hb1.next hb2 (Nat.le_refl _)⟩
  · rw [if_neg h]
    have hne : (File.check a != 0) = true := by simpa using h
    clear h
    go_enter Tryz.func41, Tryz.ntmps41
    go_wp2_with fail
    refine HA.out.mono ?_
    rintro e w1 ⟨rfl, hb1⟩
    go_wp2_with fail
    go_ret
    exact ⟨rfl, hb1⟩
theorem laws : Keyed Tryz.prog 9 := string_keyed Tryz.underlying9
theorem key_str {s : ByteArray} (h : s.size ≤ maxLen) : keyOf Tryz.prog 9 (.string s) = some (.string s.data.toList) := keyOf_string_mk Tryz.underlying9 h
theorem zeroInts (w : World) : (zeroValue 33).run Tryz.prog w = .ok (.slice none 0 0) w := by kernel_rfl
/-- How a group reads. -/
def Reads (l : List Int) (d : DataW Unit) : Prop := (d = .nil ∧ l = []) ∨ d = .slice (lits .i64 l) []
/-- The places of a line. -/
def posOf (s : ByteArray) : List ByteArray → Nat → List Int
  | [], _ => []
  | x :: l, i => if x = s then (i : Int) :: posOf s l (i + 1) else posOf s l (i + 1)
/-- Block m says where the lines of l are; the places lie from B on. -/
def Where (w : World) (m B : Nat) (l : List ByteArray) : Prop := ∃ (n : Nat) (D : DataW Unit), n ≤ l.length ∧ w.ownsGroups (H := Unit) Tryz.prog 9 B 3 .i64 m n D ∧ ∀ s : ByteArray, s.size ≤ maxLen → Reads (posOf s l 0) (D.atKey (.string s.data.toList) .nil)
theorem Where.below {w w' : World} {m B : Nat} {l : List ByteArray} (h : Where w m B l) (hb : Below w.heap.size w w') : Where w' m B l := by
  obtain ⟨n, D, h1, h2, h3⟩ := h
  have hg : w.grownBy w' none := ⟨hb.os, hb.tape, hb.output, hb.size, fun k hk _ => hb.block k hk⟩
  exact ⟨n, D, h1, h2.kept hg (by simp) (h2.rowsAbove (by simp)), h3⟩
theorem where_nil (w : World) (o : Obj) : Where ((w.alloc (.map #[] 0)).alloc o) w.heap.size (w.heap.size + 2) [] := by
  refine ⟨0, .map [], Nat.le_refl _, ?_, fun s _ => .inl ⟨rfl, rfl⟩⟩
  refine ⟨#[], 0, ?_, ⟨by simp, Go.MapKept.stamped_empty 0, by simp⟩, Nat.le_refl _, rfl, by omega, by simp, by simp⟩
  rw [Below.heap_alloc _ _ _ (by simp), (MapKept.heap_alloc w _).1]
theorem posOf_snoc (s x : ByteArray) : ∀ (l : List ByteArray) (i : Nat), posOf s (l ++ [x]) i = posOf s l i ++ (if x = s then [((i + l.length : Nat) : Int)] else []) := by
  intro l
  induction l with
  | nil => intro i; simp [posOf]
  | cons y l ih =>
    intro i
    simp only [List.cons_append, posOf, ih, List.length_cons]
    rw [show i + 1 + l.length = i + (l.length + 1) by omega]
    split <;> simp
theorem Reads.unique {l l' : List Int} {d : DataW Unit} (h : Reads l d) (h' : Reads l' d) : l = l' := by
  rcases h with ⟨rfl, rfl⟩ | rfl
  · rcases h' with ⟨_, rfl⟩ | h'
    · rfl
    · cases h'
  · rcases h' with ⟨h', _⟩ | h'
    · cases h'
    · injection h' with h'
      unfold lits at h'
      revert h'
      induction l generalizing l' with
      | nil => intro h; cases l' with
        | nil => rfl
        | cons _ _ => simp at h
      | cons y l ih => intro h; cases l' with
        | nil => simp at h
        | cons y' l' =>
          simp only [List.map_cons, List.cons.injEq] at h
          obtain ⟨h1, h2⟩ := h
          rw [ih h2]
          congr 1
          injection h1 with h1
          injection h1
theorem reads_of {w : World} {base : Nat} {v : Value} {zs : List Int} (h : w.ownsInts base 3 .i64 v zs) : Reads zs (rowDatum (H := Unit) .i64 v zs) := by
  rcases h.datum (H := Unit) with ⟨h1, h2⟩ | h1
  · exact .inl ⟨h1, h2⟩
  · exact .inr h1
section
variable {ops : Array Oper} {o : Oper} {a : Act} {K : Act → World → Prop} {Q : Exit → Act → World → Prop} {E' : Prop} {w : World}
/-- What where[s] gives, if v is read. -/
structure Look (w : World) (ob : Obj) (m B n : Nat) (D : DataW Unit) (s : ByteArray) (v : Value) (zs : List Int) : Prop where
  at_ : D.atKey (.string s.data.toList) .nil = rowDatum .i64 v zs
  own : (w.alloc ob).ownsInts B 3 .i64 v zs
  len : zs.length ≤ n
  back : (w.alloc ob).groupBack Tryz.prog 167 9 B 3 .i64 m n D (.string s) (.string s.data.toList) v
/-- where[s] in a world and behind one new block. -/
theorem look_both {m B n : Nat} {D : DataW Unit} (ob : Obj) (hown : w.ownsGroups (H := Unit) Tryz.prog 9 B 3 .i64 m n D) (hn : n < maxLen) {s : ByteArray} (hs : s.size ≤ maxLen) :
    ∃ v zs v2 zs2, (Instr.lookup 167 (.map (some m)) (.string s) false).run Tryz.prog w = .ok v w ∧ (Instr.lookup 167 (.map (some m)) (.string s) false).run Tryz.prog (w.alloc ob) = .ok v2 (w.alloc ob) ∧ Look w ob m B n D s v zs ∧ Look w ob m B n D s v2 zs2 := by
  have hown' : (w.alloc ob).ownsGroups (H := Unit) Tryz.prog 9 B 3 .i64 m n D := hown.kept (World.grownBy_alloc w ob none) (by simp) (hown.rowsAbove (by simp))
  obtain ⟨v, zs, hrun, hat, hoi, hzl, hback⟩ := hown.at laws Tryz.underlying167 (zeroInts _) hn (key_str hs)
  obtain ⟨v2, zs2, hrun2, hat2, hoi2, hzl2, hback2⟩ := hown'.at laws Tryz.underlying167 (zeroInts _) hn (key_str hs)
  refine ⟨v, zs, v2, zs2, hrun, hrun2, ⟨hat, hoi.alloc _, hzl, fun w1 v' zs' hg h1 h2 h3 => hback w1 v' zs' ((World.grownBy_alloc _ _ _).trans hg) h1 h2 (h3.imp id ?_)⟩, ⟨hat2, hoi2, hzl2, hback2⟩⟩
  rintro ⟨g, h4, h5⟩
  exact ⟨g, h4, by simp at h5; omega⟩
theorem info_int : (Tryz.prog.info? 3).map (fun i => (i.zero, i.size, i.bytes)) = some (some (.int .i64 0), 1, 8) := by kernel_rfl
/-- append(where[s], j) at such a step. -/
theorem stepAppW {W : World} (hgd : o.guard = none) (s x : Operand) (ho : o.op = .call { callee := .builtin .append, args := #[s, x], argTypes := #[33, 33] }) {B : Nat} {v : Value} {zs : List Int} (j : Nat) (hj : j < 1000)
    (hW : W = w.alloc (.cells #[iv j] 3)) (hown : W.ownsInts B 3 .i64 v zs) (hz : zs.length < 1000) (hs : a.eval s = v) {G : Nat} (hG : G = w.heap.size) (hx : a.eval x = .slice (some ⟨G, 0, none⟩) 1 1) (hB : B ≤ w.heap.size)
    (h : ∀ v' w', w'.ownsInts B 3 .i64 v' (zs ++ [(j : Int)]) → W.grownBy w' v.ownBlock → (v'.ownBlock = v.ownBlock ∨ ∃ g, v'.ownBlock = some g ∧ W.heap.size ≤ g) → K (a.put o.dst v') w') :
    if Region.wanted o (yielded ops a.tmps) = true then Oper.wp Tryz.prog o a W K Q else E' := by
  subst hW hG
  have hw : Region.wanted o (yielded ops a.tmps) = true := by simp [Region.wanted, hgd]
  rw [if_pos hw]
  obtain ⟨i0, hi, hz0, hz1, hz2⟩ := info_parts info_int
  obtain ⟨v', w', hr, h2, h3, h4, h5⟩ := run_append_own_at (P := Tryz.prog) (w.alloc (.cells #[iv j] 3)) B 33 o.type 3 i0 (.int .i64 0) 1 8 Tryz.underlying33 hi hz0 hz1 hz2 rfl (by decide) v zs.length (zs.map (Value.int .i64)) hown.1 ⟨w.heap.size, 0, none⟩ 1 1 [iv j] rfl (cell_one_new _ _ _) (ints_oneCell .i64 [(j : Int)]) (by unfold maxLen; omega) (by omega) (by simp; omega)
  unfold Oper.wp execOp
  simp only [ho, resolve, invoke, builtin, Sem.run_bind, Sem.run_pure, Result.andThen_ok, List.map_toArray, List.map_cons, List.map_nil, hs, hx, hr]
  exact h v' w' (hown.appended h2 (by have h1 : IntKind.i64.min = -9223372036854775808 := rfl; have h2 : IntKind.i64.max = 9223372036854775807 := rfl; simp only [Lit.wf, Bool.and_eq_true, decide_eq_true_eq, h1, h2]; omega)) h3 (h5.imp id fun h => ⟨_, h, Nat.le_refl _⟩)
end
/-- What a round of the loop leaves. -/
theorem where_snoc {w w1 w2 : World} {m B n : Nat} {D : DataW Unit} {l : List ByteArray} {s : ByteArray} {v v' : Value} {zs : List Int} {j : Nat} (hj : l.length = j) (hn : n ≤ l.length) (hD : IsMap D)
    (hr : ∀ s : ByteArray, s.size ≤ maxLen → Reads (posOf s l 0) (D.atKey (.string s.data.toList) .nil)) (hs : s.size ≤ maxLen)
    (hat : D.atKey (.string s.data.toList) .nil = rowDatum .i64 v zs) (hoi : w.ownsInts B 3 .i64 v zs) (hoi' : w1.ownsInts B 3 .i64 v' (zs ++ [(j : Int)]))
    (hg : w2.ownsGroups Tryz.prog 9 B 3 .i64 m (n + 1) (D.put (.string s.data.toList) (rowDatum .i64 v' (zs ++ [(j : Int)])))) : Where w2 m B (l ++ [s]) := by
  subst hj
  refine ⟨n + 1, _, by simp; omega, hg, fun s' hs' => ?_⟩
  rw [posOf_snoc]
  by_cases h : s = s'
  · subst h
    rw [atKey_put_same hD (by trivial)]
    have hz : posOf s l 0 = zs := (hr s hs).unique (by rw [hat]; exact reads_of hoi)
    rw [if_pos rfl, hz, Nat.zero_add]
    exact reads_of hoi'
  · rw [if_neg h, List.append_nil, atKey_put_other]
    · exact hr s' hs'
    · intro e
      injection e with e
      exact h (ByteArray.ext (by cases hh : s.data; cases hh' : s'.data; rw [hh, hh'] at e; simp at e; rw [e]))
end Fl
end Go.Proofs.YtkmcacgeecfjgaaGreatDoor
end
section
namespace Go.Proofs.YtkmcacgeecfjgaaGreatDoor
namespace Fl
open Go.RowKit Go.Maps Go.WideMaps Go.ChangeShapes
set_option maxRecDepth 100000
abbrev bp (b : Nat) : Value := .pointer (some ⟨b, 0, none⟩)
def pairE : Enc (Nat × Nat) := ⟨fun p => [iv (p.1 : Int), iv (p.2 : Int)], 2, fun _ => rfl, fun _ u h => by simp at h; rcases h with rfl | rfl <;> rfl, by decide⟩
theorem tyPairs : SlTy Tryz.prog 90 93 2 := slTy_of (z := .agg #[iv 0, iv 0]) (bytes := 16) Tryz.underlying90 (by kernel_rfl) rfl (by decide)
/-- The places of a line, as natural numbers. -/
def posN (s : ByteArray) : List ByteArray → Nat → List Nat
  | [], _ => []
  | x :: l, i => if x = s then i :: posN s l (i + 1) else posN s l (i + 1)
theorem posOf_eq (s : ByteArray) : ∀ (l : List ByteArray) (i : Nat), posOf s l i = (posN s l i).map fun (n : Nat) => (n : Int) := by
  intro l
  induction l with
  | nil => intro i; rfl
  | cons x l ih => intro i; unfold posOf posN; rw [ih]; split <;> rfl
theorem posN_lt {s : ByteArray} : ∀ (l : List ByteArray) (i : Nat), ∀ y ∈ posN s l i, y < i + l.length := by
  intro l
  induction l with
  | nil => intro i y h; cases h
  | cons x l ih =>
    intro i y h
    unfold posN at h
    rw [List.length_cons]
    split at h
    · rcases List.mem_cons.1 h with h | h
      · omega
      · have := ih _ _ h; omega
    · have := ih _ _ h; omega
theorem posN_length {s : ByteArray} : ∀ (l : List ByteArray) (i : Nat), (posN s l i).length ≤ l.length := by
  intro l
  induction l with
  | nil => intro i; exact Nat.le_refl _
  | cons x l ih =>
    intro i
    unfold posN
    have := ih (i + 1)
    split
    · simpa using this
    · rw [List.length_cons]; omega
/-- The test of the search. -/
def test (a b : List ByteArray) (F x j y : Nat) : Bool := decide (j ≤ y) && (decide (0 < F) && decide (File.from_ a b (x + 1) (y + 1) + 1 = F))
theorem fits_test {a b : List ByteArray} {F x j y : Nat} {s t : ByteArray} (hx : a[x]? = some s) (hy : b[y]? = some t) (hj : j ≤ y) : File.fits a b F x y = (decide (t = s) && test a b F x j y) := by
  obtain ⟨hx1, hx2⟩ := List.getElem?_eq_some_iff.1 hx
  obtain ⟨hy1, hy2⟩ := List.getElem?_eq_some_iff.1 hy
  rw [Bool.eq_iff_iff, File.fits_iff]
  unfold test
  simp only [Bool.and_eq_true, decide_eq_true_eq]
  constructor
  · rintro ⟨_, _, h1, h2⟩
    rw [hx2, hy2] at h1
    exact ⟨h1.symm, hj, by omega, h2⟩
  · rintro ⟨h1, _, _, h2⟩
    exact ⟨hx1, hy1, by rw [hx2, hy2, h1], h2⟩
theorem find_row {a b : List ByteArray} {F x j : Nat} {s : ByteArray} (hx : a[x]? = some s) : ∀ (n y : Nat), y + n = b.length → j ≤ y → (posN s (b.drop y) y).find? (test a b F x j) = File.rowFirst a b F x n y := by
  intro n
  induction n with
  | zero => intro y hy _; rw [List.drop_of_length_le (by omega)]; rfl
  | succ n ih =>
    intro y hy hj
    have hyl : y < b.length := by omega
    rw [List.drop_eq_getElem_cons hyl]
    unfold posN File.rowFirst
    rw [fits_test (j := j) hx (List.getElem?_eq_getElem hyl) hj, ← ih (y + 1) (by omega) (by omega)]
    by_cases h : b[y] = s
    · simp only [h, if_true, decide_true, Bool.true_and, List.find?_cons]
      split
      · rename_i h1; rw [if_pos (by simpa using h1)]
      · rename_i h1; rw [if_neg (by simpa using h1)]
    · simp [h]
theorem find_from {a b : List ByteArray} {F x j : Nat} {s : ByteArray} : ∀ (n y : Nat), y + n = j → j ≤ b.length → (posN s (b.drop y) y).find? (test a b F x j) = (posN s (b.drop j) j).find? (test a b F x j) := by
  intro n
  induction n with
  | zero => intro y hy _; rw [Nat.add_zero] at hy; rw [hy]
  | succ n ih =>
    intro y hy hj
    rw [List.drop_eq_getElem_cons (by omega), ← ih (y + 1) (by omega) hj]
    rw [posN]
    split
    · rw [List.find?_cons, show test a b F x j y = false by unfold test; rw [decide_eq_false (by omega), Bool.false_and]]
    · rfl
theorem find_pos {a b : List ByteArray} {F x j : Nat} {s : ByteArray} (hx : a[x]? = some s) (hj : j ≤ b.length) : (posN s b 0).find? (test a b F x j) = File.rowFirst a b F x (b.length - j) j := by
  rw [← find_row hx (b.length - j) j (by omega) (Nat.le_refl _), ← find_from j 0 (by omega) hj, List.drop_zero]
/-- where[s], read. -/
theorem Where.look {w : World} {m B : Nat} {l : List ByteArray} (h : Where w m B l) (hl : l.length < maxLen) (s : ByteArray) (hs : s.size ≤ maxLen) :
    ∃ A c, (Instr.lookup 167 (.map (some m)) (.string s) false).run Tryz.prog w = .ok (.slice A (posN s l 0).length c) w ∧ Sl intE w A ((posN s l 0).map fun (n : Nat) => (n : Int)) := by
  obtain ⟨n, D, h1, h2, h3⟩ := h
  obtain ⟨v, zs, hrun, hat, hoi, _, _⟩ := h2.at laws Tryz.underlying167 (zeroInts _) (by omega) (key_str hs)
  have hz : posOf s l 0 = zs := (h3 s hs).unique (by rw [hat]; exact reads_of hoi)
  have hfl : ∀ zs : List Int, zs.flatMap intE.cells = zs.map (Value.int .i64) := by
    intro zs
    induction zs with
    | nil => rfl
    | cons z zs ih => rw [List.flatMap_cons, List.map_cons, ← ih]; rfl
  have ho : Own intE 3 B w v zs := by
    unfold Own
    rw [hfl]
    exact hoi.1
  rw [← posOf_eq, hz, show (posN s l 0).length = zs.length by rw [← hz, posOf_eq, List.length_map]]
  obtain ⟨A, c, rfl, _, _⟩ := ho.form
  exact ⟨A, c, hrun, ho.sl⟩
/-- What the search stands on: a fixed world w0, the boxes before it. -/
structure Scene (w0 : World) (p2 p5 p6 g m B : Nat) (A : Option Addr) (c : Nat) (a b : List ByteArray) : Prop where
  la : a.length ≤ 24
  lb : b.length ≤ 24
  sm : ∀ s ∈ a, s.size ≤ 1000
  b5 : Blk w0 p5 165 #[bp g]
  b2 : Blk w0 p2 36 #[.slice A a.length c]
  b6 : Blk w0 p6 167 #[.map (some m)]
  grid : Grid w0 g (File.from_ a b)
  gl : g < w0.heap.size
  wh : Where w0 m B b
  sa : Sl strE w0 A a
set_option maxHeartbeats 4000000 in
theorem more_spec {w0 : World} {p2 p5 p6 g m B : Nat} {A : Option Addr} {c : Nat} {a b : List ByteArray} (HS : Hid (Scene w0 p2 p5 p6 g m B A c a b)) : ∀ (n i j : Nat) (acc : List (Nat × Nat)) (v : Value) (w : World), a.length - i < n → i ≤ a.length → j ≤ b.length → acc.length + a.length ≤ 100 + i →
    Below w0.heap.size w0 w → Blk w w0.heap.size 90 #[v] → Blk w (w0.heap.size + 1) 168 #[.func (.func 106) #[] #[bp p5, bp p2, bp p6, bp w0.heap.size, bp (w0.heap.size + 1)]] → Own pairE 93 (w0.heap.size + 2) w v acc →
    Calls Tryz.prog 106 #[.agg #[iv (i : Int), iv (j : Int)], bp p5, bp p2, bp p6, bp w0.heap.size, bp (w0.heap.size + 1)] w fun e w' => e = .returned (.tuple #[]) ∧ Below w0.heap.size w0 w' ∧ ∃ v', Blk w' w0.heap.size 90 #[v'] ∧ Own pairE 93 (w0.heap.size + 2) w' v' (acc ++ File.commonGo a b n i j) := by
  intro n
  induction n with
  | zero => intro i j acc v w h; omega
  | succ n ih =>
    intro i j acc v w hn hi hj hacc hb0 ho hf hown
    have IH := Lib.hid ih
    have hla := HS.out.la
    have hlb := HS.out.lb
    have hgl := HS.out.gl
    have h2l := HS.out.b2.lt
    have h5l := HS.out.b5.lt
    have h6l := HS.out.b6.lt
    have hw0 := hb0.size
    have hol := ho.lt
    have hfl := hf.lt
    have hB1 : Below w.heap.size w (w.alloc (.cells #[iv (i : Int), iv (j : Int)] 93)) := (Below.refl _ _).alloc (Nat.le_refl _) _
    have hat : Blk (w.alloc (.cells #[iv (i : Int), iv (j : Int)] 93)) w.heap.size 93 #[iv (i : Int), iv (j : Int)] := Blk.new _ _ _
    have hil : (i : Int) < 25 := by omega
    have hjl : (j : Int) < 25 := by omega
    clear ih
    go_enter Tryz.func106, Tryz.ntmps106
    go_wp2_with fail
    generalize w.alloc (.cells #[iv (i : Int), iv (j : Int)] 93) = w1 at *
    have hb1 : Below w0.heap.size w0 w1 := hb0.next hB1 (Nat.le_refl _)
    have c5 := (HS.out.b5.under hb1).cell 0
    have cg := (HS.out.grid.below hb1).cell (i := i) (j := j) (by omega) (by omega)
    have ca := hat.cell 0
    have cb := hat.cell 1
    obtain ⟨F, hF⟩ : ∃ F, F = File.from_ a b i j := ⟨_, rfl⟩
    rw [← hF] at cg
    have HF := Lib.hid hF
    clear hF
    go_quiet (fail)
    have hd1 : Below w1.heap.size w1 (w1.drewN nq) := ⟨rfl, rfl, rfl, Nat.le_refl _, fun _ _ => rfl⟩
    have hB2 : Below w.heap.size w (w1.drewN nq) := hB1.next hd1 (Nat.le_refl _)
    have hatA := hat.under hd1
    have zs1 : w1.heap.size = (w1.drewN nq).heap.size := rfl
    clear hd1 hat ca cb cg c5 hb1 hB1
    generalize w1.drewN nq = wA at *
    clear zs1
    have hatc := hatA.cell 0
    have hzA := hB2.size
    have hatl := hatA.lt
    go_wp2_with fail
    go_loopw [8] (fun u wr => ∃ x : Nat, i ≤ x ∧ x ≤ a.length ∧ u = iv (x : Int) ∧ Hid (File.firstGo a b F j (a.length - x) x = File.first a b i j) ∧ Below wA.heap.size wA wr) (fun u _ => a.length - (intOf u).toNat)
    case atStart => exact ⟨i, Nat.le_refl _, hi, rfl, by rw [HF.out]; rfl, Below.refl _ _⟩
    case round =>
      obtain ⟨x, hix, hxa, rfl, HG, hbr⟩ := hrel
      have hbw : Below w0.heap.size w0 wr := hb0.next (hB2.next hbr (Nat.le_refl _)) (Nat.le_refl _)
      have c2 := (HS.out.b2.under hbw).cell 0
      have c6 := (HS.out.b6.under hbw).cell 0
      by_cases hlt : x < a.length
      · obtain ⟨ba, off, s, rfl, hba, hx, hc0⟩ := Sl.atS (HS.out.sa.below hbw) hlt
        have hsm : s.size ≤ maxLen := by have := HS.out.sm s (List.mem_of_getElem? hx); unfold maxLen; omega
        have hbd : Below w0.heap.size w0 wr.drew := hbw.drew
        obtain ⟨Z, cz, hrun, hZ⟩ := Where.look (HS.out.wh.below hbd) (by unfold maxLen; omega) s hsm
        obtain ⟨ys, hys⟩ : ∃ ys, ys = posN s b 0 := ⟨_, rfl⟩
        rw [← hys] at hrun hZ
        have hyb : Hid (∀ y ∈ ys, y < b.length) := Lib.hid fun y hy => by have := posN_lt b 0 y (by rw [← hys]; exact hy); omega
        have hyl : ys.length ≤ 1000000 := by rw [hys]; have := posN_length (s := s) b 0; omega
        have HR : Hid (ys.find? (test a b F x j) = File.rowFirst a b F x (b.length - j) j) := Lib.hid (by rw [hys]; exact find_pos hx hj)
        have HZ := Lib.hid hZ
        have r2 : wr.drew.cell? ⟨p2, 0, none⟩ = some (.slice (some ⟨ba, off, none⟩) a.length c) := (HS.out.b2.under hbd).cell 0
        have r6 : wr.drew.cell? ⟨p6, 0, none⟩ = some (.map (some m)) := (HS.out.b6.under hbd).cell 0
        have r0 : wr.drew.cell? ⟨ba, off + x, none⟩ = some (.string s) := hc0
        clear hys hZ
        go_upto_region 5 with fail
        clear c2 c6 hc0
        go_region_held3 (fun w => w.cell? ⟨p2, 0, none⟩ = some (.slice (some ⟨ba, off, none⟩) a.length c) ∧ w.cell? ⟨p6, 0, none⟩ = some (.map (some m)) ∧ w.cell? ⟨ba, off + x, none⟩ = some (.string s)) (first | assumption | exact ⟨r2, r6, r0⟩) (fail)
        clear r2 r6 r0 hrun
        have hbr2 : Below wA.heap.size wA wr.drew := hbr.drew
        clear hbw hbr
        generalize wr.drew = wC at *
        go_wp2_with fail
        go_loopw [36] (fun u wr => ∃ q : Nat, q ≤ ys.length ∧ u = iv (q : Int) ∧ Hid ((ys.drop q).find? (test a b F x j) = File.rowFirst a b F x (b.length - j) j) ∧ Below wC.heap.size wC wr) (fun u _ => ys.length - (intOf u).toNat)
        case atStart => exact ⟨0, Nat.zero_le _, rfl, HR, Below.refl _ _⟩
        case round =>
          obtain ⟨q, hq, rfl, HQ, hbq⟩ := hrel
          by_cases hql : q < ys.length
          · obtain ⟨y, hy⟩ : ∃ y, ys[q]? = some y := ⟨_, List.getElem?_eq_getElem hql⟩
            have hyb2 := hyb.out y (List.mem_of_getElem? hy)
            obtain ⟨bz, oz, z, rfl, hbz, hz, hcz⟩ := Sl.atI (HZ.out.below hbq) (k := q) (by simpa using hql)
            rw [List.getElem?_map, hy] at hz
            simp only [Option.map_some, Option.some.injEq] at hz
            subst hz
            have hbR : Below wA.heap.size wA wr := hbr2.next hbq (Nat.le_refl _)
            have hbW : Below w.heap.size w wr := hB2.next hbR (Nat.le_refl _)
            have hb0W : Below w0.heap.size w0 wr := hb0.next hbW (Nat.le_refl _)
            have HBR := Lib.hid hbR
            have HBW := Lib.hid hbW
            have HB0W := Lib.hid hb0W
            have hzr := hbR.size
            have q0 := (hatA.under hbR).cell 0
            have q1 := (hatA.under hbR).cell 1
            have hwr : w.heap.size < wr.heap.size := by omega
            have HYN : Hid (ys.find? (test a b F x j) = ys.find? (test a b F x j)) := rfl
            have hd : ys.drop q = y :: ys.drop (q + 1) := by rw [drop_at hy]
            have HQ2 : Hid ((if test a b F x j y then some y else (ys.drop (q + 1)).find? (test a b F x j)) = File.rowFirst a b F x (b.length - j) j) := by
              have := HQ.out
              rw [hd, List.find?_cons] at this
              split <;> simp_all
            clear HYN hd HQ hbR hbW hb0W
            have hF24 : F ≤ 24 := by rw [HF.out]; exact Nat.le_trans (File.from_le a b i j) hla
            obtain ⟨G, hG⟩ : ∃ G, G = File.from_ a b (x + 1) (y + 1) := ⟨_, rfl⟩
            have cgr := (HS.out.grid.below HB0W.out).cell (i := x + 1) (j := y + 1) (by omega) (by omega)
            rw [← hG] at cgr
            have HT : Hid (test a b F x j y = (decide (j ≤ y) && (decide (0 < F) && decide (G + 1 = F)))) := Lib.hid (by unfold test; rw [← hG])
            have c5 := (HS.out.b5.under HB0W.out).cell 0
            have c9 := (Blk.under ho HBW.out).cell 0
            have hNb : Below wr.heap.size wr (wr.alloc (.cells #[Value.int .i64 (x : Int), Value.int .i64 (y : Int)] 93)) := (Below.refl _ _).alloc (Nat.le_refl _) _
            have hNx : Blk (wr.alloc (.cells #[Value.int .i64 (x : Int), Value.int .i64 (y : Int)] 93)) wr.heap.size 93 #[iv (x : Int), iv (y : Int)] := Blk.new _ _ _
            have d5 := hNb.cell (p := ⟨p5, 0, none⟩) (by show p5 < _; omega)
            have dg := hNb.cell (p := ⟨g, (x + 1) * 25 + (y + 1), none⟩) (by show g < _; omega)
            have dq := hNb.cell (p := ⟨w.heap.size, 1, none⟩) hwr
            rw [c5] at d5
            rw [cgr] at dg
            rw [q1] at dq
            have e1 : IntKind.i64.wrap ((x : Int) + 1) = ((x + 1 : Nat) : Int) := IntWalk.i64_in _ (by omega)
            have e2 : IntKind.i64.wrap ((y : Int) + 1) = ((y + 1 : Nat) : Int) := IntWalk.i64_in _ (by omega)
            have e3 : IntKind.i64.wrap ((F : Int) - 1) = (F : Int) - 1 := IntWalk.i64_in _ (by omega)
            have hpl1 : (x : Int) + 1 < 25 := by omega
            have hql1 : (y : Int) + 1 < 25 := by omega
            have hpl0 : (0 : Int) ≤ (x : Int) + 1 := by omega
            have hql0 : (0 : Int) ≤ (y : Int) + 1 := by omega
            have hpt : ((x : Int) + 1).toNat = x + 1 := by omega
            have hqt : ((y : Int) + 1).toNat = y + 1 := by omega
            go_upto_region 9 with fail
            generalize wr.alloc (.cells #[Value.int .i64 (x : Int), Value.int .i64 (y : Int)] 93) = wN at *
            have HBN : Hid (Below wC.heap.size wC wN) := Lib.hid (hbq.next hNb (Nat.le_refl _))
            have HNB := Lib.hid hNb
            clear hG cgr c5 q0 q1 hcz hNb hbq
            by_cases h1 : (j : Int) ≤ (y : Int)
            · by_cases h2 : (0 : Int) < (F : Int)
              · by_cases h3 : (G : Int) = (F : Int) - 1
                · have HFst : Hid (some (x, y) = File.first a b i j) := by
                    have h0 := HQ2.out
                    rw [HT.out, decide_eq_true (by omega : j ≤ y), decide_eq_true (by omega : 0 < F), decide_eq_true (by omega : G + 1 = F), if_pos (by rfl)] at h0
                    have := HG.out
                    rw [show a.length - x = (a.length - (x + 1)) + 1 by omega] at this
                    unfold File.firstGo at this
                    rw [← h0] at this
                    exact this
                  have hWN : Below w.heap.size w wN := HBW.out.next HNB.out (Nat.le_refl _)
                  have HWN := Lib.hid hWN
                  have HON := Lib.hid (hown.below hWN)
                  have B9 := Blk.under ho hWN
                  have d9 := B9.cell 0
                  have BF := Blk.under hf hWN
                  have hNs := hNx.cell
                  have hN0 := hNs 0
                  have hN1 := hNs 1
                  have hzN := hWN.size
                  have hal : acc.length + 1 ≤ big := by unfold big; omega
                  have HLN : Hid ((acc ++ [(x, y)]).length = acc.length + 1) := Lib.hid (by rw [List.length_append]; rfl)
                  have HIn : Hid (a.length - (x + 1) < n) := Lib.hid (by omega)
                  have HIa : Hid ((acc ++ [(x, y)]).length + a.length ≤ 100 + (x + 1)) := Lib.hid (by rw [List.length_append]; simp; omega)
                  clear HQ2 HT HR HG hWN
                  go_wp2_with (first
                    | (at_builtin; refine wpApp1 pairE tyPairs rfl _ _ rfl HON.out (x, y) rfl rfl rfl (by omega) hal ?_; intro v1 w2 hown1 hb1 hk1; obtain ⟨A6, k6, rfl, hc6, hm6⟩ := hown1.form; rw [HLN.out] at hown1; have hne : ∀ k, k < w0.heap.size + 2 → v.ownBlock ≠ some k := (fun k hk e => by have := (HON.out.lt k e).1; omega); have C9 : Blk w2 w0.heap.size 90 #[v] := (hk1 _ B9.lt (hne _ (by omega))).trans B9; have CF : Blk w2 (w0.heap.size + 1) 168 #[.func (.func 106) #[] #[bp p5, bp p2, bp p6, bp w0.heap.size, bp (w0.heap.size + 1)]] := (hk1 _ BF.lt (hne _ (by omega))).trans BF; have m9 := C9.cell 0; have f9 := C9.frozen 0; have mF := (CF.far (p := ⟨w0.heap.size, 0, none⟩) (by show w0.heap.size + 1 ≠ w0.heap.size; omega) (.slice A6 (acc.length + 1) k6)).cell 0; have HC9 := Lib.hid C9; have HCF := Lib.hid CF; have HK1 := Lib.hid hk1; have HB1 := Lib.hid hb1; have HO1 := Lib.hid hown1; clear C9 CF hk1 hb1 hown1))
                  have hB3 : Below w0.heap.size w0 (w2.setCell ⟨w0.heap.size, 0, none⟩ (.slice A6 (acc.length + 1) k6)) :=
                    ((hb0.next HWN.out (Nat.le_refl _)).trans (HB1.out.mono (by omega))).setCell (p := ⟨w0.heap.size, 0, none⟩) (Nat.le_refl _) _
                  have hO3 : Blk (w2.setCell ⟨w0.heap.size, 0, none⟩ (.slice A6 (acc.length + 1) k6)) w0.heap.size 90 #[.slice A6 (acc.length + 1) k6] := HC9.out.set_ 0 _
                  have hF3 := HCF.out.far (p := ⟨w0.heap.size, 0, none⟩) (by show w0.heap.size + 1 ≠ w0.heap.size; omega) (.slice A6 (acc.length + 1) k6)
                  have hW3 := Own.setCell HO1.out (p := ⟨w0.heap.size, 0, none⟩) (by show w0.heap.size < _; omega) (.slice A6 (acc.length + 1) k6)
                  refine (IH.out (x + 1) (y + 1) (acc ++ [(x, y)]) _ _ HIn.out (by omega) (by omega) HIa.out hB3 hO3 hF3 hW3).mono ?_
                  rintro e w4 ⟨rfl, hb4, v4, hv4, hw4⟩
                  have hcm : File.commonGo a b (n + 1) i j = (x, y) :: File.commonGo a b n (x + 1) (y + 1) := by
                    rw [File.commonGo, ← HFst.out]
                  rw [List.append_assoc] at hw4
                  have HW4 : Hid (Own pairE 93 (w0.heap.size + 2) w4 v4 (acc ++ File.commonGo a b (n + 1) i j)) := by rw [hcm]; exact hw4
                  clear hw4 hcm
                  go_wp2_with fail
                  first | (go_end0) | ((try simp only [Exit.inBlock, Exit.then]); refine bodyPost_ret (results_none rfl _ _ _) rfl ?_)
                  exact ⟨rfl, hb4, v4, hv4, HW4.out⟩
                · have HF3 : Hid ((ys.drop (q + 1)).find? (test a b F x j) = File.rowFirst a b F x (b.length - j) j) := by
                    have := HQ2.out
                    rw [HT.out, decide_eq_false (by omega : ¬ (G + 1 = F))] at this
                    refine Lib.hid ?_
                    simpa using this
                  clear HQ2 HT HR
                  go_wp2_with fail
                  go_roundw
                  case rel => exact ⟨q + 1, by omega, by go_num, HF3, HBN.out⟩
                  case measure => simp [intOf]; omega
              · have HF3 : Hid ((ys.drop (q + 1)).find? (test a b F x j) = File.rowFirst a b F x (b.length - j) j) := by
                  have := HQ2.out
                  rw [HT.out, decide_eq_false (by omega : ¬ (0 < F))] at this
                  refine Lib.hid ?_
                  simpa using this
                clear HQ2 HT HR
                go_wp2_with fail
                go_roundw
                case rel => exact ⟨q + 1, by omega, by go_num, HF3, HBN.out⟩
                case measure => simp [intOf]; omega
            · have HF3 : Hid ((ys.drop (q + 1)).find? (test a b F x j) = File.rowFirst a b F x (b.length - j) j) := by
                have := HQ2.out
                rw [HT.out, decide_eq_false (by omega : ¬ (j ≤ y))] at this
                refine Lib.hid ?_
                simpa using this
              clear HQ2 HT HR
              go_wp2_with fail
              go_roundw
              case rel => exact ⟨q + 1, by omega, by go_num, HF3, HBN.out⟩
              case measure => simp [intOf]; omega
          · have hqe : q = ys.length := by omega
            have HN : Hid (none = File.rowFirst a b F x (b.length - j) j) := by have := HQ.out; rw [List.drop_of_length_le (by omega)] at this; exact this
            clear HQ HR
            go_wp2_with fail
            go_roundw
            case rel =>
              refine ⟨x + 1, by omega, by omega, by go_num, ?_, hbr2.next hbq (Nat.le_refl _)⟩
              have := HG.out
              rw [show a.length - x = (a.length - (x + 1)) + 1 by omega] at this
              unfold File.firstGo at this
              rw [← HN.out] at this
              exact this
            case measure => simp [intOf]; omega
      · have hx : x = a.length := by omega
        subst hx
        have HN : Hid (none = File.first a b i j) := by have := HG.out; rw [Nat.sub_self] at this; exact this
        go_wp2_with fail
        go_end0
        refine ⟨rfl, hbw, v, Blk.under ho (hB2.next hbr (Nat.le_refl _)), ?_⟩
        have e : File.commonGo a b (n + 1) i j = [] := by unfold File.commonGo; rw [← HN.out]
        rw [e, List.append_nil]
        exact hown.below (hB2.next hbr (Nat.le_refl _))
end Fl
end Go.Proofs.YtkmcacgeecfjgaaGreatDoor
end
