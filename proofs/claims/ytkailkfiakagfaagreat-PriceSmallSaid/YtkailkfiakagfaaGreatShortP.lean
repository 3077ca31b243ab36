/- The first one of the shortest lists of numbers. No condition. -/
import Derived.Test.YtkailkfiakagfaaGreatCountsP
import Derived.Test.YtkailkfiakagfaaGreatAllW
import Derived.Test.YtkailkfiakagfaaGreatPriceP
import Derived.Test.YtkailkfiakagfaaGreatStep
set_option linter.unusedVariables false
set_option linter.unusedSimpArgs false
namespace Go.Proofs.YtkailkfiakagfaaGreat
namespace Price
/-- The first number, from one on, for which something is found. -/
def firstK (f : Nat → Option (List Int)) : Nat → Nat → Option (List Int)
  | 0, _ => none
  | c + 1, k => match f k with
    | some x => some x
    | none => firstK f c (k + 1)
/-- The first list that goes on with d further numbers below a limit, from one on, and has what is wished. -/
def moreOf (holds : List Int → Bool) (limit : Nat) : Nat → List Int → Nat → Option (List Int)
  | 0, l, _ => if holds l then some l else none
  | d + 1, l, fr => firstK (fun k => moreOf holds limit d (l ++ [(k : Int)]) (k + 1)) (limit - fr) fr
/-- The shortest one, from a number of numbers on. -/
def manyOf (holds : List Int → Bool) (limit : Nat) : Nat → Nat → Option (List Int)
  | 0, _ => none
  | c + 1, m => match moreOf holds limit m [] 0 with
    | some x => some x
    | none => manyOf holds limit c (m + 1)
theorem firstK_some {f : Nat → Option (List Int)} : ∀ (c k : Nat) (x : List Int), firstK f c k = some x → ∃ j, k ≤ j ∧ j < k + c ∧ f j = some x ∧ ∀ i, k ≤ i → i < j → f i = none := by
  intro c
  induction c with
  | zero => intro k x h; cases h
  | succ c ih =>
    intro k x h
    simp only [firstK] at h
    cases hf : f k with
    | some y =>
      rw [hf] at h
      injection h with h
      subst h
      exact ⟨k, Nat.le_refl _, by omega, hf, fun i h1 h2 => by omega⟩
    | none =>
      rw [hf] at h
      obtain ⟨j, h1, h2, h3, h4⟩ := ih _ _ h
      refine ⟨j, by omega, by omega, h3, fun i h5 h6 => ?_⟩
      by_cases e : i = k
      · subst e; exact hf
      · exact h4 i (by omega) h6
theorem firstK_none {f : Nat → Option (List Int)} : ∀ (c k : Nat), firstK f c k = none → ∀ i, k ≤ i → i < k + c → f i = none := by
  intro c
  induction c with
  | zero => intro k _ i h1 h2; omega
  | succ c ih =>
    intro k h i h1 h2
    simp only [firstK] at h
    cases hf : f k with
    | some y => rw [hf] at h; cases h
    | none =>
      rw [hf] at h
      by_cases e : i = k
      · subst e; exact hf
      · exact ih _ h i (by omega) (by omega)
/-- Numbers that rise, from one on, below a limit. -/
def Rises (limit : Nat) : Nat → List Int → Prop
  | _, [] => True
  | fr, x :: l => (fr : Int) ≤ x ∧ x < limit ∧ Rises limit (x.toNat + 1) l
theorem moreOf_some {holds : List Int → Bool} {limit : Nat} : ∀ (d : Nat) (l : List Int) (fr : Nat) (x : List Int), moreOf holds limit d l fr = some x → ∃ t, x = l ++ t ∧ t.length = d ∧ Rises limit fr t ∧ holds x = true := by
  intro d
  induction d with
  | zero =>
    intro l fr x h
    simp only [moreOf] at h
    split at h
    · rename_i hh
      injection h with h
      subst h
      exact ⟨[], by simp, rfl, trivial, hh⟩
    · cases h
  | succ d ih =>
    intro l fr x h
    simp only [moreOf] at h
    obtain ⟨j, h1, h2, h3, _⟩ := firstK_some _ _ _ h
    obtain ⟨t, h4, h5, h6, h7⟩ := ih _ _ _ h3
    refine ⟨(j : Int) :: t, by rw [h4]; simp, by simp [h5], ⟨by omega, by omega, ?_⟩, h7⟩
    simpa using h6
/-- No list before the one that is found has what is wished. -/
theorem moreOf_none {holds : List Int → Bool} {limit : Nat} : ∀ (d : Nat) (l : List Int) (fr : Nat), moreOf holds limit d l fr = none → ∀ t : List Int, t.length = d → Rises limit fr t → holds (l ++ t) = false := by
  intro d
  induction d with
  | zero =>
    intro l fr h t ht _
    rw [List.length_eq_zero_iff.1 ht, List.append_nil]
    simp only [moreOf] at h
    split at h
    · cases h
    · rename_i hh; simpa using hh
  | succ d ih =>
    intro l fr h t ht hr
    cases t with
    | nil => simp at ht
    | cons x t =>
      obtain ⟨h1, h2, h3⟩ := hr
      obtain ⟨j, rfl⟩ := Int.eq_ofNat_of_zero_le (by omega : 0 ≤ x)
      simp only [moreOf] at h
      have h4 := firstK_none _ _ h j (by omega) (by omega)
      have := ih _ _ h4 t (by simpa using ht) (by simpa using h3)
      simpa using this
/-- Is a list before another one of as many numbers? -/
def lexLt : List Int → List Int → Prop
  | x :: l, y :: k => x < y ∨ (x = y ∧ lexLt l k)
  | _, _ => False
theorem moreOf_first {holds : List Int → Bool} {limit : Nat} : ∀ (d : Nat) (l : List Int) (fr : Nat) (t : List Int), moreOf holds limit d l fr = some (l ++ t) → t.length = d → ∀ s : List Int, s.length = d → Rises limit fr s → lexLt s t → holds (l ++ s) = false := by
  intro d
  induction d with
  | zero => intro l fr t _ ht s hs _ hlt; rw [List.length_eq_zero_iff.1 hs] at hlt; cases t <;> exact hlt.elim
  | succ d ih =>
    intro l fr t h ht s hs hr hlt
    simp only [moreOf] at h
    obtain ⟨j, h1, h2, h3, h4⟩ := firstK_some _ _ _ h
    cases t with
    | nil => simp at ht
    | cons y t =>
      cases s with
      | nil => simp at hs
      | cons x s =>
        obtain ⟨h5, h6, h7⟩ := hr
        obtain ⟨t', h8, h9, h10, _⟩ := moreOf_some _ _ _ _ h3
        have hy : y = (j : Int) ∧ t = t' := by
          have : y :: t = (j : Int) :: t' := by
            have h11 : l ++ (y :: t) = l ++ ((j : Int) :: t') := by rw [h8]; simp
            exact List.append_cancel_left h11
          injection this with e1 e2
          exact ⟨e1, e2⟩
        obtain ⟨rfl, rfl⟩ := hy
        obtain ⟨i, rfl⟩ := Int.eq_ofNat_of_zero_le (by omega : 0 ≤ x)
        rcases hlt with hlt | ⟨hxy, hlt⟩
        · have h11 := h4 i (by omega) (by omega)
          have := moreOf_none _ _ _ h11 s (by simpa using hs) (by simpa using h7)
          simpa using this
        · obtain rfl : i = j := by omega
          have := ih (l ++ [(i : Int)]) (i + 1) t (by rw [h3]; simp) h9 s (by simpa using hs) (by simpa using h7) hlt
          simpa using this
end Price
end Go.Proofs.YtkailkfiakagfaaGreat
-- The shortest list of package price: what is wished, and the search. Conditions: at most 8 rules, which are allowed.
namespace Go.Proofs.YtkailkfiakagfaaGreat
open Go.RowKit Go.Shelf
set_option maxRecDepth 100000
namespace Price
/-- Do some rules give the same prices as all? -/
def givesP (l : List Rule) (ns : List Int) : Bool := decide ((differ l (chosen l ns)).2 = 6)
end Price
set_option maxHeartbeats 4000000 in
theorem wish_spec (A : Option Addr) (l : List Rule) (c : Nat) (A' : Option Addr) (ns : List Int) (c' : Nat) (bx : Nat) (w : World) (hm : l.length ≤ big) (hs : Sl ruleE w A l) (hp : ∀ r ∈ l, 0 ≤ r.p ∧ r.p ≤ 500) (hm' : ns.length ≤ 1000) (hs' : Sl intE w A' ns) (hn : ∀ i ∈ ns, 0 ≤ i ∧ i < l.length)
    (hbx : bx < w.heap.size) (hcb : w.cell? ⟨bx, 0, none⟩ = some (.slice A l.length c)) :
    Calls Tryz.prog 16 #[.slice A' ns.length c', .pointer (some ⟨bx, 0, none⟩)] w fun e w' => e = .returned (.bool (Price.givesP l ns)) ∧ Below w.heap.size w w' := by
  have hpc : ∀ r ∈ Price.chosen l ns, 0 ≤ r.p ∧ r.p ≤ 500 := fun r hr => by
    obtain ⟨i, hi, rfl⟩ := List.mem_map.1 hr
    have hib := hn i hi
    have hlt : i.toNat < l.length := by omega
    rw [List.getD_eq_getElem?_getD, List.getElem?_eq_getElem hlt]
    exact hp _ (List.getElem_mem hlt)
  have HC : Hid (∀ W, Below w.heap.size w W → Calls Tryz.prog 18 #[.slice A l.length c, .slice A' ns.length c'] W fun e w' => ∃ v, e = .returned v ∧ Own ruleE 28 W.heap.size w' v (Price.chosen l ns) ∧ Below W.heap.size W w') := fun W h => chosen_spec A l c A' ns c' W hm (hs.below h) hm' (hs'.below h) hn
  obtain ⟨⟨⟨da, db, dc⟩, de⟩, hd⟩ : ∃ x, x = Price.differ l (Price.chosen l ns) := ⟨_, rfl⟩
  have HD : Hid (∀ W A2 c2, Below w.heap.size w W → Sl ruleE W A2 (Price.chosen l ns) → Calls Tryz.prog 17 #[.slice A l.length c, .slice A2 (Price.chosen l ns).length c2] W fun e w' => e = .returned (.tuple #[.agg #[iv da, iv db, iv dc], iv de]) ∧ Below W.heap.size W w') := fun W A2 c2 h h2 => by
    have := differ_spec A l c A2 (Price.chosen l ns) c2 W hm (hs.below h) hp (by unfold Price.chosen big; rw [List.length_map]; omega) h2 hpc
    rw [← hd] at this
    exact this
  have hg : Price.givesP l ns = decide (de = 6) := by unfold Price.givesP; rw [← hd]
  rw [hg]
  have HSS : Hid (∀ a : World, Below w.heap.size w a → Below w.heap.size w a ∧ a.cell? ⟨bx, 0, none⟩ = some (.slice A l.length c)) := fun a h => ⟨h, (h.cell (p := ⟨bx, 0, none⟩) hbx).trans hcb⟩
  have HK0 := Lib.hid (HSS.out w.drew (Below.refl _ _).drew)
  clear hd hg hpc hs hs' hp hn hcb
  go_enter Tryz.func16, Tryz.ntmps16
  go_wp2_with fail
  go_region_held3 (fun a => Below w.heap.size w a ∧ a.cell? ⟨bx, 0, none⟩ = some (.slice A l.length c))
    (first | assumption | exact HK0.out | exact HSS.out _ (((HX2.out.setCell (p := ⟨x1.heap.size, 0, none⟩) HX1.out.size _).setCell (p := ⟨x1.heap.size, 1, none⟩) HX1.out.size _).setCell (p := ⟨x1.heap.size, 2, none⟩) HX1.out.size _) | exact HSS.out _ (((HX2.out.setCell (p := ⟨w.heap.size, 0, none⟩) (Nat.le_refl _) _).setCell (p := ⟨w.heap.size, 1, none⟩) (Nat.le_refl _) _).setCell (p := ⟨w.heap.size, 2, none⟩) (Nat.le_refl _) _) | exact HSS.out _ HX2.out | exact HSS.out _ HX1.out | exact HSS.out _ (HX2.out.alloc HX2.out.size _) | exact HSS.out _ (HX1.out.alloc HX1.out.size _) | exact HSS.out _ ((Below.refl _ w).drew.alloc (Nat.le_refl _) _))
    (first
      | (go_at_call 18; refine (HC.out _ (And.left ‹Below w.heap.size w _ ∧ _›)).mono ?_; rintro e x1 ⟨v, rfl, hown, hbx1⟩; have HX1 := Lib.hid ((And.left ‹Below w.heap.size w _ ∧ _›).next hbx1 (Nat.le_refl _)); obtain ⟨A2, c2, rfl, _, _⟩ := hown.form; have hsl2 := Lib.hid hown.sl; (try (have hB9 := Blk.under (Blk.new_ w.drew 26 #[iv 0, iv 0, iv 0] (g := w.heap.size) rfl) hbx1; have HB9 := Lib.hid hB9; clear hB9)))
      | (go_at_call 17; refine (HD.out _ _ _ (And.left ‹Below w.heap.size w _ ∧ _›) (by first | exact hsl2.out | exact hsl2.out.alloc _)).mono ?_; rintro e x2 ⟨rfl, hbx2⟩; have HX2 := Lib.hid ((And.left ‹Below w.heap.size w _ ∧ _›).next hbx2 (Nat.le_refl _)); (try (have hB7 := HB9.out.under hbx2; have HB7 := Lib.hid hB7; obtain ⟨n0, n1, n2, n3, n4, n5⟩ := hB7.facts; clear hB7)); (try (have hB8 := Blk.under (Blk.new_ x1 26 #[iv 0, iv 0, iv 0] (g := x1.heap.size) rfl) hbx2; have HB8 := Lib.hid hB8; obtain ⟨m0, m1, m2, m3, m4, m5⟩ := hB8.facts; clear hB8))))
  all_goals
    have hbz := Lib.hid (And.left ‹Below w.heap.size w _ ∧ _›)
    cases hde : (de == 6)
    · go_wp2
      go_ret
      exact ⟨ret_eq (by rw [decide_eq_false (by simpa using hde)]; rfl), hbz.out⟩
    · go_wp2
      go_ret
      exact ⟨ret_eq (by rw [decide_eq_true (by simpa using hde)]; rfl), hbz.out⟩
end Go.Proofs.YtkailkfiakagfaaGreat
-- The shortest list that gives the same prices is the first one of the shortest; what follows. No condition.
namespace Go.Proofs.YtkailkfiakagfaaGreat
namespace Price
/-- Is a list before another one of as many numbers, in lexicographic order? -/
def lexB : List Int → List Int → Bool
  | x :: l, y :: k => if x = y then lexB l k else decide (x < y)
  | _, _ => false
/-- Is a list shorter than another one, or as long, and first? -/
def beforeB (a b : List Int) : Bool := if a.length = b.length then lexB a b else decide (a.length < b.length)
/-- The first one of the shortest lists of numbers below a limit that have what is wished. -/
structure First (g : List Int → Bool) (limit : Nat) (x : List Int) : Prop where
  rises : Rises limit 0 x
  holds : g x = true
  least : ∀ s, Rises limit 0 s → g s = true → beforeB s x = false
theorem lexLt_of : ∀ {a b : List Int}, lexB a b = true → lexLt a b := by
  intro a
  induction a with
  | nil => intro b h; cases b <;> cases h
  | cons x a ih =>
    intro b h
    cases b with
    | nil => cases h
    | cons y b =>
      simp only [lexB] at h
      split at h
      · exact .inr ⟨by assumption, ih h⟩
      · exact .inl (by simpa using h)
theorem lexB_irr : ∀ {a b : List Int}, a.length = b.length → lexB a b = false → lexB b a = false → a = b := by
  intro a
  induction a with
  | nil => intro b h _ _; cases b with | nil => rfl | cons => cases h
  | cons x a ih =>
    intro b h h1 h2
    cases b with
    | nil => cases h
    | cons y b =>
      simp only [lexB] at h1 h2
      by_cases e : x = y
      · subst e
        rw [if_pos rfl] at h1 h2
        rw [ih (by simpa using h) h1 h2]
      · rw [if_neg e] at h1
        rw [if_neg (Ne.symm e)] at h2
        simp at h1 h2
        omega
theorem before_irr {a b : List Int} (h1 : beforeB a b = false) (h2 : beforeB b a = false) : a = b := by
  unfold beforeB at h1 h2
  by_cases e : a.length = b.length
  · rw [if_pos e] at h1; rw [if_pos e.symm] at h2; exact lexB_irr e h1 h2
  · rw [if_neg e] at h1; rw [if_neg (Ne.symm e)] at h2
    simp at h1 h2; omega
theorem rises_len {limit : Nat} : ∀ {s : List Int} {fr : Nat}, Rises limit fr s → fr ≤ limit → s.length + fr ≤ limit := by
  intro s
  induction s with
  | nil => intro fr _ h; simpa using h
  | cons x s ih =>
    intro fr h hf
    obtain ⟨h1, h2, h3⟩ := h
    have := ih h3 (by omega)
    simp only [List.length_cons]; omega
theorem rises_mem {limit : Nat} : ∀ {s : List Int} {fr : Nat}, Rises limit fr s → ∀ x ∈ s, (fr : Int) ≤ x ∧ x < limit := by
  intro s
  induction s with
  | nil => intro fr _ x h; cases h
  | cons y s ih =>
    intro fr h x hx
    obtain ⟨h1, h2, h3⟩ := h
    rcases List.mem_cons.1 hx with rfl | hx
    · exact ⟨h1, h2⟩
    · have := ih h3 x hx; omega
theorem manyOf_some {g : List Int → Bool} {limit : Nat} : ∀ (c m : Nat) (x : List Int), manyOf g limit c m = some x → ∃ d, m ≤ d ∧ d < m + c ∧ moreOf g limit d [] 0 = some x ∧ ∀ i, m ≤ i → i < d → moreOf g limit i [] 0 = none := by
  intro c
  induction c with
  | zero => intro m x h; cases h
  | succ c ih =>
    intro m x h
    simp only [manyOf] at h
    cases hm : moreOf g limit m [] 0 with
    | some y =>
      rw [hm] at h
      injection h with h
      subst h
      exact ⟨m, Nat.le_refl _, by omega, hm, fun i h1 h2 => by omega⟩
    | none =>
      rw [hm] at h
      obtain ⟨d, h1, h2, h3, h4⟩ := ih _ _ h
      refine ⟨d, by omega, by omega, h3, fun i h5 h6 => ?_⟩
      by_cases e : i = m
      · subst e; exact hm
      · exact h4 i (by omega) h6
theorem manyOf_none {g : List Int → Bool} {limit : Nat} : ∀ (c m : Nat), manyOf g limit c m = none → ∀ i, m ≤ i → i < m + c → moreOf g limit i [] 0 = none := by
  intro c
  induction c with
  | zero => intro m _ i h1 h2; omega
  | succ c ih =>
    intro m h i h1 h2
    simp only [manyOf] at h
    cases hm : moreOf g limit m [] 0 with
    | some y => rw [hm] at h; cases h
    | none =>
      rw [hm] at h
      by_cases e : i = m
      · subst e; exact hm
      · exact ih _ h i (by omega) (by omega)
theorem first_of {g : List Int → Bool} {limit : Nat} {x : List Int} (h : manyOf g limit (limit + 1) 0 = some x) : First g limit x := by
  obtain ⟨d, _, h2, h3, h4⟩ := manyOf_some _ _ _ h
  obtain ⟨t, h5, h6, h7, h8⟩ := moreOf_some _ _ _ _ h3
  rw [List.nil_append] at h5
  subst h5
  refine ⟨h7, h8, fun s hs hg => ?_⟩
  rw [Bool.eq_false_iff]
  intro hb
  unfold beforeB at hb
  by_cases e : s.length = x.length
  · rw [if_pos e] at hb
    have := moreOf_first d [] 0 x (by simpa using h3) h6 s (by omega) hs (lexLt_of hb)
    rw [List.nil_append, hg] at this
    cases this
  · rw [if_neg e, decide_eq_true_eq] at hb
    have := moreOf_none s.length [] 0 (h4 s.length (by omega) (by omega)) s rfl hs
    rw [List.nil_append, hg] at this
    cases this
theorem first_some {g : List Int → Bool} {limit : Nat} {s : List Int} (hs : Rises limit 0 s) (hg : g s = true) : ∃ x, manyOf g limit (limit + 1) 0 = some x := by
  cases h : manyOf g limit (limit + 1) 0 with
  | some x => exact ⟨x, rfl⟩
  | none =>
    have h1 := rises_len hs (by omega)
    have := moreOf_none s.length [] 0 (manyOf_none _ _ h s.length (by omega) (by omega)) s rfl hs
    rw [List.nil_append, hg] at this
    cases this
/-- The numbers of a set, from one on. -/
def bits : Nat → Nat → Nat → List Int
  | 0, _, _ => []
  | c + 1, i, s => if s % 2 = 1 then (i : Int) :: bits c (i + 1) (s / 2) else bits c (i + 1) (s / 2)
theorem rises_up {limit : Nat} {fr : Nat} : ∀ {s : List Int}, Rises limit (fr + 1) s → Rises limit fr s := by
  intro s h
  cases s with
  | nil => trivial
  | cons x s => exact ⟨by have := h.1; omega, h.2.1, h.2.2⟩
theorem bits_rises : ∀ (c i s : Nat), Rises (i + c) i (bits c i s) := by
  intro c
  induction c with
  | zero => intro i s; trivial
  | succ c ih =>
    intro i s
    have h := ih (i + 1) (s / 2)
    rw [show i + 1 + c = i + (c + 1) by omega] at h
    simp only [bits]
    split
    · exact ⟨by omega, by omega, by simpa using h⟩
    · exact rises_up h
theorem bits_all : ∀ (c i : Nat) (t : List Int), Rises (i + c) i t → ∃ s, s < 2 ^ c ∧ bits c i s = t := by
  intro c
  induction c with
  | zero =>
    intro i t h
    cases t with
    | nil => exact ⟨0, by simp, rfl⟩
    | cons x t => have := h.1; have := h.2.1; omega
  | succ c ih =>
    intro i t h
    cases t with
    | nil =>
      obtain ⟨s, hs, hb⟩ := ih (i + 1) [] trivial
      refine ⟨2 * s, by rw [Nat.pow_succ]; omega, ?_⟩
      simp only [bits]
      rw [if_neg (by omega), show 2 * s / 2 = s by omega, hb]
    | cons x t =>
      obtain ⟨h1, h2, h3⟩ := h
      by_cases e : x = i
      · subst e
        obtain ⟨s, hs, hb⟩ := ih (i + 1) t (by rw [show i + 1 + c = i + (c + 1) by omega]; simpa using h3)
        refine ⟨2 * s + 1, by rw [Nat.pow_succ]; omega, ?_⟩
        simp only [bits]
        rw [if_pos (by omega), show (2 * s + 1) / 2 = s by omega, hb]
      · obtain ⟨s, hs, hb⟩ := ih (i + 1) (x :: t) (by rw [show i + 1 + c = i + (c + 1) by omega]; exact ⟨by omega, h2, h3⟩)
        refine ⟨2 * s, by rw [Nat.pow_succ]; omega, ?_⟩
        simp only [bits]
        rw [if_neg (by omega), show 2 * s / 2 = s by omega, hb]
/-- Is a list before the best one so far? -/
def beats : Option (List Int) → List Int → Bool
  | some b, s => beforeB s b
  | none, _ => true
/-- All sets, from one on. -/
def setsGo (g : List Int → Bool) (n : Nat) : Nat → Nat → Option (List Int) → Option (List Int)
  | 0, _, best => best
  | c + 1, s, best => setsGo g n c (s + 1) (if beats best (bits n 0 s) && g (bits n 0 s) then some (bits n 0 s) else best)
theorem setsGo_first {g : List Int → Bool} {n : Nat} {x : List Int} (h : First g n x) (sx : Nat) (hsx : bits n 0 sx = x) : ∀ (c s : Nat) (best : Option (List Int)), sx < s + c → (∀ b, best = some b → Rises n 0 b ∧ g b = true) → (sx < s → best = some x) → setsGo g n c s best = some x := by
  intro c
  induction c with
  | zero => intro s best h1 h2 h3; exact h3 (by omega)
  | succ c ih =>
    intro s best h1 h2 h3
    simp only [setsGo]
    refine ih (s + 1) _ (by omega) ?_ ?_
    · intro b hb
      split at hb
      · rename_i hc
        injection hb with hb
        subst hb
        rw [Bool.and_eq_true] at hc
        have := bits_rises n 0 s
        rw [Nat.zero_add] at this
        exact ⟨this, hc.2⟩
      · exact h2 b hb
    · intro hlt
      by_cases e : s = sx
      · subst e
        rw [hsx, h.holds, Bool.and_true]
        cases best with
        | none => rfl
        | some b =>
          obtain ⟨hb1, hb2⟩ := h2 b rfl
          by_cases hbf : beforeB x b = true
          · simp [beats, hbf]
          · have := before_irr (Bool.eq_false_iff.2 hbf) (h.least b hb1 hb2)
            subst this
            split <;> rfl
      · have hb := h3 (by omega)
        subst hb
        have hr := bits_rises n 0 s
        rw [Nat.zero_add] at hr
        cases hg : g (bits n 0 s) with
        | false => simp
        | true => simp [beats, h.least _ hr hg]
theorem setsGo_all {g : List Int → Bool} {n : Nat} {x : List Int} (h : First g n x) : setsGo g n (2 ^ n) 0 none = some x := by
  obtain ⟨s, hs, hb⟩ := bits_all n 0 x (by rw [Nat.zero_add]; exact h.rises)
  exact setsGo_first h s hb _ _ _ (by omega) (fun b hb => by cases hb) (fun h => by omega)
/-- All numbers. -/
def allNs (n : Nat) : List Int := (List.range n).map fun (i : Nat) => (i : Int)
theorem rises_range' {limit : Nat} : ∀ (n k : Nat), k + n = limit → Rises limit k ((List.range' k n).map fun (i : Nat) => (i : Int)) := by
  intro n
  induction n with
  | zero => intro k _; trivial
  | succ n ih =>
    intro k h
    rw [List.range'_succ, List.map_cons]
    exact ⟨Int.le_refl _, by omega, by simpa using ih (k + 1) (by omega)⟩
theorem allNs_rises (n : Nat) : Rises n 0 (allNs n) := by
  unfold allNs
  rw [List.range_eq_range']
  exact rises_range' n 0 (by omega)
theorem chosen_all (l : List Rule) : chosen l (allNs l.length) = l := by
  unfold chosen allNs
  rw [List.map_map]
  refine List.ext_getElem (by simp) fun i h1 h2 => ?_
  simp only [List.getElem_map, List.getElem_range, Function.comp_apply, Int.toNat_natCast]
  rw [List.getD_eq_getElem?_getD, List.getElem?_eq_getElem h2]; rfl
theorem gives_all (l : List Rule) : givesP l (allNs l.length) = true := by
  unfold givesP
  rw [chosen_all, differ_none fun p _ => rfl]
  rfl
/-- The shortest list. -/
theorem short_some (l : List Rule) : ∃ x, manyOf (givesP l) l.length (l.length + 1) 0 = some x ∧ First (givesP l) l.length x := by
  obtain ⟨x, hx⟩ := first_some (allNs_rises l.length) (gives_all l)
  exact ⟨x, hx, first_of hx⟩
theorem differ_iff {a b : List Rule} : (differ a b).2 = 6 ↔ ∀ p ∈ allPieces, priced a p = priced b p := by
  constructor
  · intro h p hp
    unfold differ at h
    cases hf : allPieces.find? (differs a b) with
    | some q => rw [hf] at h; exact absurd (show (0 : Int) = 6 from h) (by decide)
    | none =>
      rw [List.find?_eq_none] at hf
      have := hf p hp
      unfold differs at this
      simp only [Bool.or_eq_true, bne_iff_ne, not_or, Decidable.not_not] at this
      exact Prod.ext this.1 this.2
  · intro h
    rw [differ_none h]
theorem gives_iff {l : List Rule} {ns : List Int} : givesP l ns = true ↔ ∀ p ∈ allPieces, priced l p = priced (chosen l ns) p := by
  unfold givesP
  rw [decide_eq_true_eq, differ_iff]
end Price
end Go.Proofs.YtkailkfiakagfaaGreat
-- What follows for the shortest list: no rule can be left out, its own shortest list is as long, in any order. No condition.
namespace Go.Proofs.YtkailkfiakagfaaGreat
namespace Price
theorem chosen_cons (l : List Rule) (i : Int) (x : List Int) : chosen l (i :: x) = l.getD i.toNat default :: chosen l x := rfl
theorem chosen_length (l : List Rule) (x : List Int) : (chosen l x).length = x.length := by unfold chosen; rw [List.length_map]
theorem chosen_sub {l : List Rule} : ∀ {x : List Int} {fr : Nat}, Rises l.length fr x → (chosen l x).Sublist (l.drop fr) := by
  intro x
  induction x with
  | nil => intro fr _; exact List.nil_sublist _
  | cons i x ih =>
    intro fr h
    obtain ⟨h1, h2, h3⟩ := h
    obtain ⟨j, rfl⟩ := Int.eq_ofNat_of_zero_le (by omega : 0 ≤ i)
    have hj : j < l.length := by omega
    rw [Int.toNat_natCast] at h3
    have hs := ih h3
    rw [chosen_cons, Int.toNat_natCast, List.getD_eq_getElem?_getD, List.getElem?_eq_getElem hj]
    have hd : (l.drop j).Sublist (l.drop fr) := List.drop_sublist_drop_left _ (by omega)
    rw [List.drop_eq_getElem_cons hj] at hd
    exact (hs.cons_cons _).trans hd
theorem sub_chosen_go : ∀ (r pre t : List Rule), t.Sublist r → ∃ x, Rises (pre ++ r).length pre.length x ∧ chosen (pre ++ r) x = t := by
  intro r
  induction r with
  | nil => intro pre t h; rw [List.sublist_nil.1 h]; exact ⟨[], trivial, rfl⟩
  | cons a r ih =>
    intro pre t h
    have hap : pre ++ [a] ++ r = pre ++ a :: r := by simp
    cases h with
    | cons _ h =>
      obtain ⟨x, h1, h2⟩ := ih (pre ++ [a]) t h
      rw [hap] at h1 h2
      rw [show (pre ++ [a]).length = pre.length + 1 by simp] at h1
      exact ⟨x, rises_up h1, h2⟩
    | cons_cons _ h =>
      obtain ⟨x, h1, h2⟩ := ih (pre ++ [a]) _ h
      rw [hap] at h1 h2
      rw [show (pre ++ [a]).length = pre.length + 1 by simp] at h1
      refine ⟨(pre.length : Int) :: x, ⟨by omega, by simp; omega, by rw [Int.toNat_natCast]; exact h1⟩, ?_⟩
      rw [chosen_cons, h2, Int.toNat_natCast, List.getD_eq_getElem?_getD, List.getElem?_append_right (Nat.le_refl _), Nat.sub_self]
      rfl
theorem sub_chosen {l t : List Rule} (h : t.Sublist l) : ∃ x, Rises l.length 0 x ∧ chosen l x = t := sub_chosen_go l [] t h
/-- No fewer rules give the same prices. -/
theorem First.few {l t : List Rule} {x : List Int} (h : First (givesP l) l.length x) (hs : t.Sublist l) (hp : ∀ p ∈ allPieces, priced l p = priced t p) : x.length ≤ t.length := by
  obtain ⟨z, hz, rfl⟩ := sub_chosen hs
  have hb := h.least z hz (gives_iff.2 hp)
  rw [chosen_length]
  unfold beforeB at hb
  split at hb
  · omega
  · simp at hb; omega
theorem First.sub {l : List Rule} {x : List Int} (h : First (givesP l) l.length x) : (chosen l x).Sublist l := by have := chosen_sub h.rises; simpa using this
theorem First.same {l : List Rule} {x : List Int} (h : First (givesP l) l.length x) : ∀ p ∈ allPieces, priced l p = priced (chosen l x) p := gives_iff.1 h.holds
theorem First.needs {l : List Rule} {x : List Int} (h : First (givesP l) l.length x) {i : Nat} (hi : i < x.length) : (differ (chosen l x) ((chosen l x).eraseIdx i)).2 = 0 := by
  rcases differ_err (chosen l x) ((chosen l x).eraseIdx i) with h0 | h6
  · exact h0
  · have hd := differ_iff.1 h6
    have := h.few ((List.eraseIdx_sublist _ i).trans h.sub) fun p hp => (h.same p hp).trans (hd p hp)
    rw [List.length_eraseIdx, chosen_length, if_pos hi] at this
    omega
theorem First.again {l k : List Rule} {x y : List Int} (h : First (givesP l) l.length x) (hk : k.Perm (chosen l x)) (hy : First (givesP k) k.length y) : y.length = x.length := by
  have h1 := rises_len hy.rises (by omega)
  rw [hk.length_eq, chosen_length] at h1
  obtain ⟨t, ht1, ht2⟩ := List.exists_perm_sublist hy.sub hk
  have := h.few (ht2.trans h.sub) fun p hp => by
    rw [h.same p hp, ← priced_perm hk p, hy.same p hp, priced_perm ht1 p]
  rw [ht1.length_eq, chosen_length] at this
  omega
theorem MadeOk.sub {n : Nat} {l k : List Rule} (h : MadeOk n l) (hs : k.Sublist l) : MadeOk n k :=
  ⟨Nat.le_trans hs.length_le h.len, h.nodup.sublist hs, fun r hr => h.ok r (hs.subset hr)⟩
theorem chosen_notin {l : List Rule} {x : List Int} (hl : l.Nodup) (h : Rises l.length 0 x) {i : Nat} {r : Rule} (hr : l[i]? = some r) (hi : ¬ (i : Int) ∈ x) : ¬ r ∈ chosen l x := by
  intro hm
  obtain ⟨j, hj, he⟩ := List.mem_map.1 hm
  have hb := rises_mem h j hj
  obtain ⟨m, rfl⟩ := Int.eq_ofNat_of_zero_le (by omega : 0 ≤ j)
  have hml : m < l.length := by omega
  obtain ⟨hil, rfl⟩ := List.getElem?_eq_some_iff.1 hr
  rw [Int.toNat_natCast, List.getD_eq_getElem?_getD, List.getElem?_eq_getElem hml, Option.getD_some] at he
  have := (List.getElem_inj hl).1 he
  subst this
  exact hi hj
theorem MadeOk.more {n : Nat} {l k : List Rule} {r : Rule} (h : MadeOk n l) (hk : MadeOk n k) (hl : k.length < n) (hr : r ∈ l) (hn : ¬ r ∈ k) : MadeOk n (k ++ [r]) :=
  ⟨by rw [List.length_append, List.length_singleton]; omega, List.nodup_append.2 ⟨hk.nodup, List.nodup_cons.2 ⟨List.not_mem_nil, List.nodup_nil⟩, fun a ha b hb => by rw [List.mem_singleton.1 hb]; intro e; rw [e] at ha; exact hn ha⟩, fun q hq => by
    rcases List.mem_append.1 hq with h1 | h1
    · exact hk.ok q h1
    · rw [List.mem_singleton.1 h1]; exact h.ok r hr⟩
end Price
end Go.Proofs.YtkailkfiakagfaaGreat
