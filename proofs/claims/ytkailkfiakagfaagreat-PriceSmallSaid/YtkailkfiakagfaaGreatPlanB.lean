/- What the reference tries of plans: the most that can be earned, room, exchanges. No condition. -/
import Derived.Test.YtkailkfiakagfaaGreatPlanA
set_option linter.unusedVariables false
set_option linter.unusedSimpArgs false
namespace Go.Proofs.YtkailkfiakagfaaGreat
namespace Price
def mostGo (f : Nat → Int) (left : List Int) : Nat → Nat → Int → Int
  | 0, _, b => b
  | c + 1, w, b => mostGo f left c (w + 1) (if left.getD w 0 = 0 then b else max b (f w))
/-- The most that pieces earn with what is left of the weeks. -/
def mostOf (fall : Int) : List Int → List Int → Int
  | [], _ => 0
  | p :: ps, left => mostGo (fun w => p * max 0 (100 - fall * w) + mostOf fall ps (left.set w (left.getD w 0 - 1))) left left.length 0 (mostOf fall ps left)
theorem mostGo_ge (f : Nat → Int) (left : List Int) : ∀ (c w : Nat) (b : Int), b ≤ mostGo f left c w b := by
  intro c
  induction c with
  | zero => intro w b; exact Int.le_refl _
  | succ c ih => intro w b; simp only [mostGo]; have := ih (w + 1) (if left.getD w 0 = 0 then b else max b (f w)); split at this <;> (rename_i h; simp only [h] at *; (try simp only [if_true, if_false]); (try simp only [reduceIte]); omega)
theorem mostGo_at (f : Nat → Int) (left : List Int) : ∀ (c w k : Nat) (b : Int), w ≤ k → k < w + c → left.getD k 0 ≠ 0 → f k ≤ mostGo f left c w b := by
  intro c
  induction c with
  | zero => intro w k b h1 h2; omega
  | succ c ih =>
    intro w k b h1 h2 h3
    simp only [mostGo]
    by_cases e : w = k
    · subst e
      have := mostGo_ge f left c (w + 1) (if left.getD w 0 = 0 then b else max b (f w))
      rw [if_neg h3] at this ⊢
      omega
    · exact ih _ _ _ (by omega) (by omega) h3
theorem mostGo_cases (f : Nat → Int) (left : List Int) : ∀ (c w : Nat) (b : Int), mostGo f left c w b = b ∨ ∃ k, w ≤ k ∧ k < w + c ∧ left.getD k 0 ≠ 0 ∧ mostGo f left c w b = f k := by
  intro c
  induction c with
  | zero => intro w b; exact .inl rfl
  | succ c ih =>
    intro w b
    simp only [mostGo]
    by_cases h : left.getD w 0 = 0
    · rw [if_pos h]
      rcases ih (w + 1) b with e | ⟨k, h1, h2, h3, h4⟩
      · exact .inl e
      · exact .inr ⟨k, by omega, by omega, h3, h4⟩
    · rw [if_neg h]
      rcases ih (w + 1) (max b (f w)) with e | ⟨k, h1, h2, h3, h4⟩
      · rw [e]
        by_cases hb : f w ≤ b
        · left; omega
        · right; exact ⟨w, Nat.le_refl _, by omega, h, by omega⟩
      · exact .inr ⟨k, by omega, by omega, h3, h4⟩
theorem getD_set_self {l : List Int} {k : Nat} (h : k < l.length) (a : Int) : (l.set k a).getD k 0 = a := by
  rw [List.getD_eq_getElem?_getD, List.getElem?_set_self h, Option.getD_some]
theorem mostOf_ge (fall : Int) : ∀ (ps left plan : List Int), plan.length = ps.length → (∀ x ∈ plan, -1 ≤ x ∧ x < left.length) → (∀ k : Nat, k < left.length → countIn k plan ≤ left.getD k 0) → earns fall ps plan ≤ mostOf fall ps left := by
  intro ps
  induction ps with
  | nil => intro left plan h _ _; cases plan <;> simp_all [earns, mostOf]
  | cons p ps ih =>
    intro left plan hl hw hc
    cases plan with
    | nil => simp at hl
    | cons x plan =>
      have hl' : plan.length = ps.length := by simpa using hl
      have hw' : ∀ y ∈ plan, -1 ≤ y ∧ y < left.length := fun y hy => hw y (List.mem_cons_of_mem _ hy)
      have hx := hw x List.mem_cons_self
      simp only [earns, mostOf]
      by_cases e : x = -1
      · have h1 := ih left plan hl' hw' fun k hk => by
          have := hc k hk
          simp only [countIn] at this
          rw [if_neg (by omega)] at this; omega
        have h2 := mostGo_ge (fun w => p * max 0 (100 - fall * w) + mostOf fall ps (left.set w (left.getD w 0 - 1))) left left.length 0 (mostOf fall ps left)
        rw [e, rate_none, Int.mul_zero]
        omega
      · obtain ⟨k, rfl⟩ := Int.eq_ofNat_of_zero_le (by omega : 0 ≤ x)
        have hk : k < left.length := by omega
        have hck := hc k hk
        simp only [countIn, if_true] at hck
        have hcn : 0 ≤ countIn (k : Int) plan := by rw [countIn_cn]; exact cn_nonneg _ _
        have h1 := ih (left.set k (left.getD k 0 - 1)) plan hl' (fun y hy => by simpa using hw' y hy) fun j hj => by
          have hj' : j < left.length := by simpa using hj
          have := hc j hj'
          simp only [countIn] at this
          by_cases ej : k = j
          · subst ej; rw [getD_set_self hk]; rw [if_pos rfl] at this; omega
          · rw [getD_set_ne ej]; rw [if_neg (by omega)] at this; omega
        have h2 := mostGo_at (fun w => p * max 0 (100 - fall * w) + mostOf fall ps (left.set w (left.getD w 0 - 1))) left left.length 0 k (mostOf fall ps left) (by omega) (by omega) (by omega)
        have h3 : rate fall (k : Int) = max 0 (100 - fall * k) := by unfold rate; rw [if_neg (by omega)]
        rw [h3]
        omega
theorem mostOf_some (fall : Int) : ∀ (ps left : List Int), (∀ k : Nat, 0 ≤ left.getD k 0) → ∃ plan : List Int, plan.length = ps.length ∧ (∀ x ∈ plan, -1 ≤ x ∧ x < left.length) ∧ (∀ k : Nat, k < left.length → countIn k plan ≤ left.getD k 0) ∧ earns fall ps plan = mostOf fall ps left := by
  intro ps
  induction ps with
  | nil => intro left h; exact ⟨[], rfl, (fun x hx => by cases hx), fun k _ => h k, rfl⟩
  | cons p ps ih =>
    intro left h
    simp only [mostOf]
    rcases mostGo_cases (fun w => p * max 0 (100 - fall * w) + mostOf fall ps (left.set w (left.getD w 0 - 1))) left left.length 0 (mostOf fall ps left) with e | ⟨k, _, h2, h3, h4⟩
    · obtain ⟨plan, h1, h2, h3, h4⟩ := ih left h
      refine ⟨-1 :: plan, by simp [h1], fun x hx => ?_, fun k hk => ?_, ?_⟩
      · rcases List.mem_cons.1 hx with rfl | hx
        · omega
        · exact h2 x hx
      · simp only [countIn]; rw [if_neg (by omega)]; have := h3 k hk; omega
      · rw [e]; simp only [earns]; rw [rate_none, Int.mul_zero, h4]; omega
    · have hk : k < left.length := by omega
      have hp := h k
      obtain ⟨plan, h1, h5, h6, h7⟩ := ih (left.set k (left.getD k 0 - 1)) fun j => by
        by_cases ej : k = j
        · subst ej; rw [getD_set_self hk]; omega
        · rw [getD_set_ne ej]; exact h j
      refine ⟨(k : Int) :: plan, by simp [h1], fun x hx => ?_, fun j hj => ?_, ?_⟩
      · rcases List.mem_cons.1 hx with rfl | hx
        · omega
        · simpa using h5 x hx
      · have := h6 j (by simpa using hj)
        simp only [countIn]
        by_cases ej : k = j
        · subst ej; rw [getD_set_self hk] at this; rw [if_pos rfl]; omega
        · rw [getD_set_ne ej] at this; rw [if_neg (by omega)]; omega
      · rw [h4]; simp only [earns]
        have h3 : rate fall (k : Int) = max 0 (100 - fall * k) := by unfold rate; rw [if_neg (by omega)]
        rw [h3, h7]
theorem Shop.mostOf {fall : Int} {bought prices : List Int} {stock : List Piece} (h : Shop fall bought prices stock) : mostOf fall prices bought = earns fall prices (bestPlan prices bought) := by
  obtain ⟨plan, h1, h2, h3, h4⟩ := mostOf_some fall prices bought fun k => by
    by_cases hk : k < bought.length
    · exact h.pos _ (getD_mem hk)
    · rw [List.getD_eq_getElem?_getD, List.getElem?_eq_none (by omega)]; simp
  have hget : ∀ k (hk : k < bought.length), bought.getD k 0 = bought[k] := fun k hk => by rw [List.getD_eq_getElem?_getD, List.getElem?_eq_getElem hk]; rfl
  have k1 := h.most (plan := plan) ⟨h2, room_of (w := 0) fun k hk => by have := h3 k hk; rw [hget k hk] at this; rw [Nat.zero_add]; exact this⟩ (by rw [h1, h.len])
  have k2 := mostOf_ge fall prices bought (bestPlan prices bought) (by rw [h.best.2, h.len]) h.best.1.weeks fun k hk => by
    have := room_get h.best.1.room k hk
    rw [hget k hk]; rw [Int.zero_add] at this; exact this
  omega
theorem mostOf_bounds {fall : Int} (hf : 0 ≤ fall) : ∀ (ps left : List Int), (∀ p ∈ ps, 0 ≤ p ∧ p ≤ 500) → 0 ≤ mostOf fall ps left ∧ mostOf fall ps left ≤ 50000 * ps.length := by
  intro ps
  induction ps with
  | nil => intro left _; simp [mostOf]
  | cons p ps ih =>
    intro left hp
    have hp' : ∀ q ∈ ps, 0 ≤ q ∧ q ≤ 500 := fun q hq => hp q (List.mem_cons_of_mem _ hq)
    have h0 := ih left hp'
    have hpb := hp p List.mem_cons_self
    simp only [mostOf, List.length_cons]
    rcases mostGo_cases (fun w => p * max 0 (100 - fall * w) + mostOf fall ps (left.set w (left.getD w 0 - 1))) left left.length 0 (mostOf fall ps left) with e | ⟨k, _, _, _, e⟩
    · rw [e]; push_cast; omega
    · rw [e]
      have h1 := ih (left.set k (left.getD k 0 - 1)) hp'
      have h2 : 0 ≤ fall * (k : Int) := Int.mul_nonneg hf (by omega)
      have h3 : 0 ≤ p * max 0 (100 - fall * (k : Int)) := Int.mul_nonneg hpb.1 (by omega)
      have h4 : p * max 0 (100 - fall * (k : Int)) ≤ 500 * 100 := Int.mul_le_mul hpb.2 (by omega) (by omega) (by omega)
      push_cast
      omega
/-- Room, as the reference finds it. -/
def roomGo : List Int → List Int → Bool
  | [], _ => true
  | x :: plan, left => if x < 0 then roomGo plan left else if left.getD x.toNat 0 - 1 < 0 then false else roomGo plan (left.set x.toNat (left.getD x.toNat 0 - 1))
theorem roomGo_iff : ∀ (plan left : List Int), (∀ x ∈ plan, -1 ≤ x ∧ x < left.length) → (∀ k : Nat, 0 ≤ left.getD k 0) → (roomGo plan left = true ↔ ∀ k : Nat, k < left.length → countIn k plan ≤ left.getD k 0) := by
  intro plan
  induction plan with
  | nil => intro left _ h; exact ⟨fun _ k _ => h k, fun _ => rfl⟩
  | cons x plan ih =>
    intro left hw h
    have hw' : ∀ y ∈ plan, -1 ≤ y ∧ y < left.length := fun y hy => hw y (List.mem_cons_of_mem _ hy)
    have hx := hw x List.mem_cons_self
    simp only [roomGo]
    by_cases e : x < 0
    · rw [if_pos e, ih left hw' h]
      refine forall_congr' fun k => forall_congr' fun hk => ?_
      simp only [countIn]
      rw [if_neg (by omega), Int.zero_add]
    · rw [if_neg e]
      obtain ⟨k, rfl⟩ := Int.eq_ofNat_of_zero_le (by omega : 0 ≤ x)
      have hk : k < left.length := by omega
      have hcn : 0 ≤ countIn (k : Int) plan := by rw [countIn_cn]; exact cn_nonneg _ _
      rw [Int.toNat_natCast]
      by_cases h0 : left.getD k 0 - 1 < 0
      · rw [if_pos h0]
        refine ⟨fun hh => (by cases hh), fun hh => ?_⟩
        have := hh k hk
        simp only [countIn, if_true] at this
        omega
      · rw [if_neg h0, ih (left.set k (left.getD k 0 - 1)) (fun y hy => by simpa using hw' y hy) fun j => by
          by_cases ej : k = j
          · subst ej; rw [getD_set_self hk]; omega
          · rw [getD_set_ne ej]; exact h j]
        rw [List.length_set]
        refine forall_congr' fun j => forall_congr' fun hj => ?_
        simp only [countIn]
        by_cases ej : k = j
        · subst ej; rw [getD_set_self hk, if_pos rfl]; omega
        · rw [getD_set_ne ej, if_neg (by omega)]; omega
theorem roomGo_room {bought plan : List Int} (hb : ∀ m ∈ bought, 0 ≤ m) (hw : ∀ x ∈ plan, -1 ≤ x ∧ x < bought.length) : roomGo plan bought = room bought plan := by
  have hget : ∀ k (hk : k < bought.length), bought.getD k 0 = bought[k] := fun k hk => by rw [List.getD_eq_getElem?_getD, List.getElem?_eq_getElem hk]; rfl
  rw [Bool.eq_iff_iff, roomGo_iff plan bought hw fun k => by
    by_cases hk : k < bought.length
    · exact hb _ (getD_mem hk)
    · rw [List.getD_eq_getElem?_getD, List.getElem?_eq_none (by omega)]; simp]
  refine ⟨fun h => room_of (w := 0) fun k hk => by have := h k hk; rw [hget k hk] at this; rw [Nat.zero_add]; exact this, fun h k hk => ?_⟩
  have := room_get h k hk
  rw [hget k hk]; rw [Int.zero_add] at this; exact this
theorem searchK_congr {f g : Nat → Bool} : ∀ (c k : Nat), (∀ j, k ≤ j → j < k + c → f j = g j) → searchK f k c = searchK g k c := by
  intro c
  induction c with
  | zero => intro k _; rfl
  | succ c ih => intro k h; simp only [searchK]; rw [h k (by omega) (by omega), ih (k + 1) fun j h1 h2 => h j (by omega) (by omega)]
theorem searchIK_congr {f g : Nat → Nat → Bool} {n : Nat} : ∀ (c i : Nat), (∀ a b, i ≤ a → a < i + c → a < b → b < n → f a b = g a b) → searchIK f n i c = searchIK g n i c := by
  intro c
  induction c with
  | zero => intro i _; rfl
  | succ c ih =>
    intro i h
    simp only [searchIK]
    rw [searchK_congr (n - (i + 1)) (i + 1) fun j h1 h2 => h i j (by omega) (by omega) (by omega) (by omega), ih (i + 1) fun a b h1 h2 h3 h4 => h a b (by omega) (by omega) h3 h4]
def better2 (fall : Int) (prices plan : List Int) (i k : Nat) : Bool := decide (earns fall prices plan < earns fall prices (exch plan i k))
theorem Shop.better2 {fall : Int} {bought prices plan : List Int} {stock : List Piece} (h : Shop fall bought prices stock) (hl : plan.length = stock.length) {i k : Nat} (hik : i < k) (hk : k < stock.length) : betterExch fall stock prices plan i k = better2 fall prices plan i k := by
  unfold betterExch Price.better2
  by_cases e : stock[i]? = stock[k]?
  · have hp := h.same i k (by omega) hk e
    have := h.len
    have hd := dot_exch id (rate fall) prices plan i k (by omega) (by omega) (by omega) (by omega)
    rw [← earns_dot, ← earns_dot] at hd
    simp only [id] at hd
    rw [hp, Int.sub_self, Int.zero_mul, Int.add_zero] at hd
    rw [hd]
    simp [e]
  · have : (stock[i]? != stock[k]?) = true := bne_iff_ne.2 e
    rw [this, Bool.true_and]
theorem Shop.search2 {fall : Int} {bought prices plan : List Int} {stock : List Piece} (h : Shop fall bought prices stock) (hl : plan.length = stock.length) : searchIK (betterExch fall stock prices plan) stock.length 0 stock.length = searchIK (Price.better2 fall prices plan) stock.length 0 stock.length :=
  searchIK_congr _ _ fun a b _ h2 h3 h4 => h.better2 hl h3 h4
/-- The error of a plan alone. -/
def planErr2 (bought : List Int) (n : Nat) (plan : List Int) : Int :=
  if plan.length = n then (if plan.all (inB · (-1) (bought.length - 1)) then (if room bought plan then 0 else 9) else 1) else 2
theorem planErr_2 {l : List Rule} {fall : Int} {bought : List Int} {stock : List Piece} (plan : List Int) (h : openErr l fall bought stock = 0) : planErr l fall bought stock plan = planErr2 bought stock.length plan := by
  unfold planErr planErr2
  rw [if_pos h]
end Price
end Go.Proofs.YtkailkfiakagfaaGreat
