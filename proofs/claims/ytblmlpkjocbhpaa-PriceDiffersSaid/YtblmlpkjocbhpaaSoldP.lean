/- Plans that are made better, as long as they can be, earn as much as the best one. No condition. -/
import Derived.Test.YtblmlpkjocbhpaaLaterP
set_option linter.unusedVariables false
set_option linter.unusedSimpArgs false
namespace Go.Proofs.Ytblmlpkjocbhpaa
namespace Price
theorem searchK_some {f : Nat → Bool} : ∀ (c k j : Nat), searchK f k c = some j → k ≤ j ∧ j < k + c ∧ f j = true := by
  intro c
  induction c with
  | zero => intro k j h; cases h
  | succ c ih =>
    intro k j h
    simp only [searchK] at h
    split at h
    · rename_i hf; cases h; exact ⟨Nat.le_refl _, by omega, hf⟩
    · obtain ⟨h1, h2, h3⟩ := ih _ _ h; exact ⟨by omega, by omega, h3⟩
theorem searchK_none {f : Nat → Bool} : ∀ (c k : Nat), searchK f k c = none → ∀ j, k ≤ j → j < k + c → f j = false := by
  intro c
  induction c with
  | zero => intro k _ j h1 h2; omega
  | succ c ih =>
    intro k h j h1 h2
    simp only [searchK] at h
    split at h
    · cases h
    · rename_i hf
      by_cases e : j = k
      · subst e; simpa using hf
      · exact ih _ h j (by omega) (by omega)
theorem searchIK_some {f : Nat → Nat → Bool} {n : Nat} : ∀ (c i a b : Nat), searchIK f n i c = some (a, b) → i ≤ a ∧ a < i + c ∧ a < b ∧ b < n ∧ f a b = true := by
  intro c
  induction c with
  | zero => intro i a b h; cases h
  | succ c ih =>
    intro i a b h
    simp only [searchIK] at h
    split at h
    · rename_i k hk; cases h; obtain ⟨h1, h2, h3⟩ := searchK_some _ _ _ hk; exact ⟨Nat.le_refl _, by omega, by omega, by omega, h3⟩
    · obtain ⟨h1, h2, h3, h4, h5⟩ := ih _ _ _ h; exact ⟨by omega, by omega, h3, h4, h5⟩
theorem searchIK_none {f : Nat → Nat → Bool} {n : Nat} : ∀ (c i : Nat), searchIK f n i c = none → ∀ a b, i ≤ a → a < i + c → a < b → b < n → f a b = false := by
  intro c
  induction c with
  | zero => intro i _ a b h1 h2; omega
  | succ c ih =>
    intro i h a b h1 h2 h3 h4
    simp only [searchIK] at h
    split at h
    · cases h
    · rename_i hk
      by_cases e : a = i
      · subst e; exact searchK_none _ _ hk b (by omega) (by omega)
      · exact ih _ h a b (by omega) (by omega) h3 h4
theorem searchW_some {f : Nat → Bool} : ∀ (c k j : Nat), searchW f k c = some j → k ≤ j ∧ j < k + c ∧ f j = true := by
  intro c
  induction c with
  | zero => intro k j h; cases h
  | succ c ih =>
    intro k j h
    simp only [searchW] at h
    split at h
    · rename_i hf; cases h; exact ⟨Nat.le_refl _, by omega, hf⟩
    · obtain ⟨h1, h2, h3⟩ := ih _ _ h; exact ⟨by omega, by omega, h3⟩
theorem searchW_none {f : Nat → Bool} : ∀ (c k : Nat), searchW f k c = none → ∀ j, k ≤ j → j < k + c → f j = false := by
  intro c
  induction c with
  | zero => intro k _ j h1 h2; omega
  | succ c ih =>
    intro k h j h1 h2
    simp only [searchW] at h
    split at h
    · cases h
    · rename_i hf
      by_cases e : j = k
      · subst e; simpa using hf
      · exact ih _ h j (by omega) (by omega)
theorem searchIW_some {f : Nat → Nat → Bool} {n : Nat} : ∀ (c i a b : Nat), searchIW f n i c = some (a, b) → i ≤ a ∧ a < i + c ∧ b < n ∧ f a b = true := by
  intro c
  induction c with
  | zero => intro i a b h; cases h
  | succ c ih =>
    intro i a b h
    simp only [searchIW] at h
    split at h
    · rename_i k hk; cases h; obtain ⟨h1, h2, h3⟩ := searchW_some _ _ _ hk; exact ⟨Nat.le_refl _, by omega, by omega, h3⟩
    · obtain ⟨h1, h2, h3, h4⟩ := ih _ _ _ h; exact ⟨by omega, by omega, h3, h4⟩
theorem searchIW_none {f : Nat → Nat → Bool} {n : Nat} : ∀ (c i : Nat), searchIW f n i c = none → ∀ a b, i ≤ a → a < i + c → b < n → f a b = false := by
  intro c
  induction c with
  | zero => intro i _ a b h1 h2; omega
  | succ c ih =>
    intro i h a b h1 h2 h4
    simp only [searchIW] at h
    split at h
    · cases h
    · rename_i hk
      by_cases e : a = i
      · subst e; exact searchW_none _ _ hk b (by omega) (by omega)
      · exact ih _ h a b (by omega) (by omega) h4
/-- The sum of products, whatever is made of a price and of a week. -/
def dotF (f g : Int → Int) : List Int → List Int → Int
  | p :: ps, w :: plan => f p * g w + dotF f g ps plan
  | _, _ => 0
theorem earns_dot (fall : Int) : ∀ (ps plan : List Int), earns fall ps plan = dotF id (rate fall) ps plan := by
  intro ps
  induction ps with
  | nil => intro plan; cases plan <;> rfl
  | cons p ps ih => intro plan; cases plan with
    | nil => rfl
    | cons w plan => simp only [earns, dotF, ih, id]
theorem dot_set (f g : Int → Int) : ∀ (ps plan : List Int) (i : Nat) (a : Int), i < plan.length → ps.length = plan.length → dotF f g ps (plan.set i a) = dotF f g ps plan + f (ps.getD i 0) * (g a - g (plan.getD i 0)) := by
  intro ps
  induction ps with
  | nil => intro plan i a h1 h2; simp at h2; omega
  | cons p ps ih =>
    intro plan i a h1 h2
    cases plan with
    | nil => simp at h1
    | cons w plan =>
      cases i with
      | zero => simp only [List.set_cons_zero, dotF, List.getD_cons_zero, Int.mul_sub]; omega
      | succ i =>
        simp only [List.set_cons_succ, dotF, List.getD_cons_succ]
        rw [ih plan i a (by simpa using h1) (by simpa using h2)]; omega
theorem countIn_set (w : Int) : ∀ (plan : List Int) (i : Nat) (a : Int), i < plan.length → countIn w (plan.set i a) = countIn w plan - (if plan.getD i 0 = w then 1 else 0) + (if a = w then 1 else 0) := by
  intro plan
  induction plan with
  | nil => intro i a h; simp at h
  | cons x plan ih =>
    intro i a h
    cases i with
    | zero => simp only [List.set_cons_zero, countIn, List.getD_cons_zero]; omega
    | succ i =>
      simp only [List.set_cons_succ, countIn, List.getD_cons_succ]
      rw [ih i a (by simpa using h)]; omega
theorem getD_set_ne {plan : List Int} {i k : Nat} (h : i ≠ k) (a : Int) : (plan.set i a).getD k 0 = plan.getD k 0 := by
  simp [List.getD_eq_getElem?_getD, List.getElem?_set_ne h]
theorem dot_exch (f g : Int → Int) (ps plan : List Int) (i k : Nat) (hi : i < plan.length) (hk : k < plan.length) (hik : i ≠ k) (hl : ps.length = plan.length) :
    dotF f g ps (exch plan i k) = dotF f g ps plan + (f (ps.getD i 0) - f (ps.getD k 0)) * (g (plan.getD k 0) - g (plan.getD i 0)) := by
  unfold exch
  rw [dot_set f g ps _ k _ (by simpa using hk) (by simpa using hl), dot_set f g ps plan i _ hi hl, getD_set_ne hik]
  simp only [Int.mul_sub, Int.sub_mul]
  omega
theorem exch_count (w : Int) (plan : List Int) (i k : Nat) (hi : i < plan.length) (hk : k < plan.length) (hik : i ≠ k) : countIn w (exch plan i k) = countIn w plan := by
  unfold exch
  rw [countIn_set w _ k _ (by simpa using hk), countIn_set w plan i _ hi, getD_set_ne hik]
  omega
theorem getD_mem {plan : List Int} {i : Nat} (h : i < plan.length) : plan.getD i 0 ∈ plan := by
  rw [List.getD_eq_getElem?_getD, List.getElem?_eq_getElem h]; exact List.getElem_mem h
theorem Plan.exch {bought plan : List Int} (h : Plan bought plan) {i k : Nat} (hi : i < plan.length) (hk : k < plan.length) (hik : i ≠ k) : Plan bought (exch plan i k) := by
  refine ⟨fun x hx => ?_, room_le h.room fun w _ => by rw [exch_count w plan i k hi hk hik]; exact Int.le_refl _⟩
  rcases List.mem_or_eq_of_mem_set hx with hx | rfl
  · rcases List.mem_or_eq_of_mem_set hx with hx | rfl
    · exact h.weeks x hx
    · exact h.weeks _ (getD_mem hk)
  · exact h.weeks _ (getD_mem hi)
theorem Plan.set {bought plan : List Int} (h : Plan bought plan) {i w : Nat} (hw : w < bought.length) (hr : Price.room bought (plan.set i w) = true) : Plan bought (plan.set i w) := by
  refine ⟨fun x hx => ?_, hr⟩
  rcases List.mem_or_eq_of_mem_set hx with hx | rfl
  · exact h.weeks x hx
  · omega
theorem room_get {plan : List Int} : ∀ {bs : List Int} {w : Int}, roomFrom plan bs w = true → ∀ k, (hk : k < bs.length) → countIn (w + k) plan ≤ bs[k] := by
  intro bs
  induction bs with
  | nil => intro w _ k hk; simp at hk
  | cons m bs ih =>
    intro w h k hk
    simp only [roomFrom, Bool.and_eq_true, decide_eq_true_eq] at h
    cases k with
    | zero => simpa using h.1
    | succ k =>
      have := ih h.2 k (by simpa using hk)
      rw [show w + ((k + 1 : Nat) : Int) = w + 1 + k by omega]
      simpa using this
theorem zip_at {ps plan : List Int} (hl : ps.length = plan.length) {z : Int × Int} (h : z ∈ ps.zip plan) : ∃ i, i < plan.length ∧ z = (ps.getD i 0, plan.getD i 0) := by
  obtain ⟨i, hi, rfl⟩ := List.getElem_of_mem h
  rw [List.length_zip] at hi
  refine ⟨i, by omega, ?_⟩
  rw [List.getElem_zip, List.getD_eq_getElem?_getD, List.getD_eq_getElem?_getD, List.getElem?_eq_getElem (by omega : i < ps.length), List.getElem?_eq_getElem (by omega : i < plan.length)]
  rfl
theorem mul_pos_cases {a b : Int} (h : 0 < a * b) : (0 < a ∧ 0 < b) ∨ (a < 0 ∧ b < 0) := by
  rcases Int.lt_trichotomy a 0 with ha | ha | ha
  · right
    refine ⟨ha, ?_⟩
    false_or_by_contra
    have := Int.mul_nonneg (a := -a) (b := b) (by omega) (by omega)
    rw [Int.neg_mul] at this; omega
  · subst ha; simp at h
  · left
    refine ⟨ha, ?_⟩
    false_or_by_contra
    have := Int.mul_nonneg (a := a) (b := -b) (by omega) (by omega)
    rw [Int.mul_neg] at this; omega
/-- A plan that no exchange and no move betters, as the program tries them. -/
theorem loc_of_none {fall : Int} {bought prices plan : List Int} {stock : List Piece} (hP : Plan bought plan) (hl : prices.length = plan.length) (hsl : stock.length = prices.length)
    (hst : ∀ i k, i < stock.length → k < stock.length → stock[i]? = stock[k]? → prices.getD i 0 = prices.getD k 0)
    (he : ∀ i k, i < k → k < stock.length → betterExch fall stock prices plan i k = false) (hm : ∀ i k, i < stock.length → k < bought.length → betterMove fall bought prices plan i k = false) : Loc fall bought prices plan := by
  refine ⟨fun y hy z hz hlt => ?_, fun y hy hpos k hk hr => ?_⟩
  · obtain ⟨i, hi, rfl⟩ := zip_at hl hy
    obtain ⟨k, hk, rfl⟩ := zip_at hl hz
    dsimp only at hlt ⊢
    false_or_by_contra
    rename_i hno
    have hik : i ≠ k := fun e => by subst e; omega
    have hpos : 0 < (prices.getD i 0 - prices.getD k 0) * (rate fall (plan.getD k 0) - rate fall (plan.getD i 0)) := Int.mul_pos (by omega) (by omega)
    have key : ∀ a b, a < b → (a = i ∧ b = k ∨ a = k ∧ b = i) → False := by
      intro a b hab hc
      have h1 := he a b hab (by omega)
      unfold betterExch at h1
      rw [Bool.and_eq_false_iff] at h1
      rcases h1 with h1 | h1
      · have h2 : stock[a]? = stock[b]? := by simpa using h1
        have := hst a b (by omega) (by omega) h2
        rcases hc with ⟨rfl, rfl⟩ | ⟨rfl, rfl⟩ <;> omega
      · rw [decide_eq_false_iff_not, earns_dot, earns_dot, dot_exch id (rate fall) prices plan a b (by omega) (by omega) (by omega) hl] at h1
        simp only [id] at h1
        rcases hc with ⟨rfl, rfl⟩ | ⟨rfl, rfl⟩
        · omega
        · have : (prices.getD a 0 - prices.getD b 0) * (rate fall (plan.getD b 0) - rate fall (plan.getD a 0)) = (prices.getD b 0 - prices.getD a 0) * (rate fall (plan.getD a 0) - rate fall (plan.getD b 0)) := by
            rw [← Int.neg_sub (prices.getD b 0), ← Int.neg_sub (rate fall (plan.getD a 0)), Int.neg_mul_neg]
          omega
    rcases Nat.lt_or_gt_of_ne hik with h | h
    · exact key i k h (.inl ⟨rfl, rfl⟩)
    · exact key k i h (.inr ⟨rfl, rfl⟩)
  · obtain ⟨i, hi, rfl⟩ := zip_at hl hy
    dsimp only at hpos hr
    false_or_by_contra
    rename_i hno
    have h1 := hm i k (by omega) hk
    unfold betterMove at h1
    rw [Bool.and_eq_false_iff] at h1
    have hne : plan.getD i 0 ≠ k := fun e => by rw [e] at hr; omega
    rcases h1 with h1 | h1
    · have : room bought (plan.set i k) = true := by
        refine room_of (w := 0) fun j hj => ?_
        have h2 := room_get hP.room j hj
        rw [Int.zero_add] at h2
        rw [Nat.zero_add, countIn_set _ _ _ _ hi]
        by_cases hjk : k = j
        · subst hjk; rw [if_neg hne, if_pos rfl]; omega
        · rw [if_neg (c := (k : Int) = (j : Int)) (by omega)]; split <;> omega
      rw [this] at h1; cases h1
    · rw [decide_eq_false_iff_not, earns_dot, earns_dot, dot_set id (rate fall) prices plan i k hi hl] at h1
      have : 0 < prices.getD i 0 * (rate fall k - rate fall (plan.getD i 0)) := Int.mul_pos hpos (by omega)
      simp only [id] at h1; omega
/-! How far a plan is made better: ranks of prices times ranks of rates. -/
def rankP (ps : List Int) (p : Int) : Int := cn (fun q => decide (q ≤ p)) ps
def rankR (fall : Int) (n : Nat) (w : Int) : Int := cn (fun v => decide (rate fall v ≤ rate fall w) && decide (0 < rate fall v)) (upTo n)
theorem cn_lt {α : Type} {q q' : α → Bool} : ∀ {l : List α}, (∀ x ∈ l, q x = true → q' x = true) → (∃ x ∈ l, q' x = true ∧ q x = false) → cn q l + 1 ≤ cn q' l := by
  intro l
  induction l with
  | nil => rintro _ ⟨x, hx, _⟩; cases hx
  | cons y l ih =>
    rintro h ⟨x, hx, h1, h2⟩
    have hle : ∀ x ∈ l, q x = true → q' x = true := fun x hx => h x (List.mem_cons_of_mem _ hx)
    simp only [cn]
    rcases List.mem_cons.1 hx with rfl | hx
    · rw [h1, h2, if_neg (by decide), if_pos rfl]
      have := cn_le hle; omega
    · have := ih hle ⟨x, hx, h1, h2⟩
      by_cases hq : q y = true
      · rw [if_pos hq, if_pos (h y List.mem_cons_self hq)]; omega
      · rw [if_neg hq]; split <;> omega
theorem cn_len {α : Type} (q : α → Bool) : ∀ (l : List α), cn q l ≤ l.length := by
  intro l
  induction l with
  | nil => exact Int.le_refl _
  | cons x l ih => simp only [cn, List.length_cons]; split <;> omega
theorem rankP_lt {ps : List Int} {p q : Int} (h : p < q) (hq : q ∈ ps) : rankP ps p + 1 ≤ rankP ps q :=
  cn_lt (fun x _ hx => by simp only [decide_eq_true_eq] at hx ⊢; omega) ⟨q, hq, by simp, by simp; omega⟩
theorem rankP_pos {ps : List Int} {p : Int} (hp : p ∈ ps) : 1 ≤ rankP ps p := by
  have := cn_lt (q := fun _ => false) (q' := fun q => decide (q ≤ p)) (l := ps) (fun x _ hx => by cases hx) ⟨p, hp, by simp, rfl⟩
  have h2 := cn_nonneg (fun _ => false) ps
  unfold rankP; omega
theorem rankR_lt {fall : Int} {n : Nat} {w w' : Int} (h : rate fall w < rate fall w') (hw : w' ∈ upTo n) : rankR fall n w + 1 ≤ rankR fall n w' := by
  have := rate_nonneg (fall := fall) (a := w)
  exact cn_lt (fun x _ hx => by simp only [Bool.and_eq_true, decide_eq_true_eq] at hx ⊢; omega) ⟨w', hw, by simp; omega, by simp; omega⟩
theorem upTo_mem {n : Nat} {x : Int} (h0 : 0 ≤ x) (h : x < n) : x ∈ upTo n := by
  simp only [upTo, List.mem_map, List.mem_range]
  exact ⟨x.toNat, by omega, by omega⟩
theorem rank_bounds {ps : List Int} {fall p w : Int} {n : Nat} : 0 ≤ rankP ps p ∧ rankP ps p ≤ ps.length ∧ 0 ≤ rankR fall n w ∧ rankR fall n w ≤ n := by
  have h1 := cn_nonneg (fun q => decide (q ≤ p)) ps
  have h2 := cn_len (fun q => decide (q ≤ p)) ps
  have h3 := cn_nonneg (fun v => decide (rate fall v ≤ rate fall w) && decide (0 < rate fall v)) (upTo n)
  have h4 := cn_len (fun v => decide (rate fall v ≤ rate fall w) && decide (0 < rate fall v)) (upTo n)
  have h5 : (upTo n).length = n := by simp [upTo]
  unfold rankP rankR
  omega
def pot (fall : Int) (n : Nat) (ps plan : List Int) : Int := dotF (rankP ps) (rankR fall n) ps plan
theorem dot_bounds {f g : Int → Int} {M N : Int} (hf : ∀ x, 0 ≤ f x ∧ f x ≤ M) (hg : ∀ x, 0 ≤ g x ∧ g x ≤ N) (hM : 0 ≤ M) (hN : 0 ≤ N) : ∀ (ps plan : List Int), 0 ≤ dotF f g ps plan ∧ dotF f g ps plan ≤ ps.length * (M * N) := by
  intro ps
  have hMN : 0 ≤ M * N := Int.mul_nonneg hM hN
  induction ps with
  | nil => intro plan; cases plan <;> simp [dotF]
  | cons p ps ih =>
    intro plan
    have hc : ((p :: ps).length : Int) * (M * N) = ps.length * (M * N) + M * N := by rw [List.length_cons]; push_cast; rw [Int.add_mul]; omega
    cases plan with
    | nil =>
      have : 0 ≤ (ps.length : Int) * (M * N) := Int.mul_nonneg (by omega) hMN
      simp only [dotF]; omega
    | cons w plan =>
      have h1 := ih plan
      have h2 := Int.mul_nonneg (hf p).1 (hg w).1
      have h3 := Int.mul_le_mul (hf p).2 (hg w).2 (hg w).1 hM
      simp only [dotF]; omega
theorem pot_bounds {fall : Int} {n : Nat} {ps plan : List Int} (h1 : ps.length ≤ 10) (h2 : n ≤ 8) : 0 ≤ pot fall n ps plan ∧ pot fall n ps plan ≤ 800 := by
  have h := dot_bounds (f := rankP ps) (g := rankR fall n) (M := 10) (N := 8) (fun x => by have := rank_bounds (ps := ps) (fall := fall) (p := x) (w := x) (n := n); omega) (fun x => by have := rank_bounds (ps := ps) (fall := fall) (p := x) (w := x) (n := n); omega) (by omega) (by omega) ps plan
  unfold pot; omega
/-- What is known of prices of a stock. -/
structure Shop (fall : Int) (bought prices : List Int) (stock : List Piece) : Prop where
  fall0 : 0 ≤ fall
  weeks : bought.length ≤ 8
  pos : ∀ m ∈ bought, 0 ≤ m
  len : stock.length = prices.length
  ten : stock.length ≤ 10
  bnd : ∀ p ∈ prices, 0 ≤ p ∧ p ≤ 500
  same : ∀ i k, i < stock.length → k < stock.length → stock[i]? = stock[k]? → prices.getD i 0 = prices.getD k 0
theorem Shop.exch {fall : Int} {bought prices plan : List Int} {stock : List Piece} (h : Shop fall bought prices stock) (hP : Plan bought plan) (hl : plan.length = stock.length) {i k : Nat} (hik : i < k) (hk : k < stock.length) (hb : betterExch fall stock prices plan i k = true) :
    Plan bought (exch plan i k) ∧ (exch plan i k).length = stock.length ∧ earns fall prices plan < earns fall prices (exch plan i k) ∧ pot fall bought.length prices plan + 1 ≤ pot fall bought.length prices (exch plan i k) := by
  have hpl : prices.length = plan.length := by rw [hl, h.len]
  unfold betterExch at hb
  rw [Bool.and_eq_true, decide_eq_true_eq] at hb
  refine ⟨hP.exch (by omega) (by omega) (by omega), by simp [Price.exch, hl], hb.2, ?_⟩
  have h2 := hb.2
  rw [earns_dot, earns_dot, dot_exch id (rate fall) prices plan i k (by omega) (by omega) (by omega) hpl] at h2
  unfold pot
  rw [dot_exch (rankP prices) (rankR fall bought.length) prices plan i k (by omega) (by omega) (by omega) hpl]
  simp only [id] at h2
  have hmi : prices.getD i 0 ∈ prices := getD_mem (by omega)
  have hmk : prices.getD k 0 ∈ prices := getD_mem (by omega)
  have hwi := hP.weeks _ (getD_mem (plan := plan) (i := i) (by omega))
  have hwk := hP.weeks _ (getD_mem (plan := plan) (i := k) (by omega))
  have hup : ∀ x, -1 ≤ x → x < (bought.length : Int) → 0 < rate fall x → x ∈ upTo bought.length := fun x h1 h2 h3 => upTo_mem (by
    by_cases e : x = -1
    · rw [e, rate_none] at h3; omega
    · omega) h2
  rcases mul_pos_cases (by omega : 0 < (prices.getD i 0 - prices.getD k 0) * (rate fall (plan.getD k 0) - rate fall (plan.getD i 0))) with ⟨h3, h4⟩ | ⟨h3, h4⟩
  · have h5 := rankP_lt (ps := prices) (by omega : prices.getD k 0 < prices.getD i 0) hmi
    have h6 := rankR_lt (n := bought.length) (by omega : rate fall (plan.getD i 0) < rate fall (plan.getD k 0)) (hup _ hwk.1 hwk.2 (by have := rate_nonneg (fall := fall) (a := plan.getD i 0); omega))
    have := Int.mul_le_mul (a := 1) (b := 1) (by omega : (1 : Int) ≤ rankP prices (prices.getD i 0) - rankP prices (prices.getD k 0)) (by omega : (1 : Int) ≤ rankR fall bought.length (plan.getD k 0) - rankR fall bought.length (plan.getD i 0)) (by omega) (by omega)
    omega
  · have h5 := rankP_lt (ps := prices) (by omega : prices.getD i 0 < prices.getD k 0) hmk
    have h6 := rankR_lt (n := bought.length) (by omega : rate fall (plan.getD k 0) < rate fall (plan.getD i 0)) (hup _ hwi.1 hwi.2 (by have := rate_nonneg (fall := fall) (a := plan.getD k 0); omega))
    have h7 := Int.mul_le_mul (a := 1) (b := 1) (by omega : (1 : Int) ≤ rankP prices (prices.getD k 0) - rankP prices (prices.getD i 0)) (by omega : (1 : Int) ≤ rankR fall bought.length (plan.getD i 0) - rankR fall bought.length (plan.getD k 0)) (by omega) (by omega)
    rw [← Int.neg_sub (rankP prices (prices.getD k 0)), ← Int.neg_sub (rankR fall bought.length (plan.getD i 0)), Int.neg_mul_neg]
    omega
theorem Shop.move {fall : Int} {bought prices plan : List Int} {stock : List Piece} (h : Shop fall bought prices stock) (hP : Plan bought plan) (hl : plan.length = stock.length) {i k : Nat} (hi : i < stock.length) (hk : k < bought.length) (hb : betterMove fall bought prices plan i k = true) :
    Plan bought (plan.set i k) ∧ (plan.set i (k : Int)).length = stock.length ∧ earns fall prices plan < earns fall prices (plan.set i k) ∧ pot fall bought.length prices plan + 1 ≤ pot fall bought.length prices (plan.set i k) := by
  have hpl : prices.length = plan.length := by rw [hl, h.len]
  unfold betterMove at hb
  rw [Bool.and_eq_true, decide_eq_true_eq] at hb
  refine ⟨hP.set hk hb.1, by simp [hl], hb.2, ?_⟩
  have h2 := hb.2
  rw [earns_dot, earns_dot, dot_set id (rate fall) prices plan i k (by omega) hpl] at h2
  unfold pot
  rw [dot_set (rankP prices) (rankR fall bought.length) prices plan i k (by omega) hpl]
  simp only [id] at h2
  have hmi : prices.getD i 0 ∈ prices := getD_mem (by omega)
  have hpb := h.bnd _ hmi
  rcases mul_pos_cases (by omega : 0 < prices.getD i 0 * (rate fall k - rate fall (plan.getD i 0))) with ⟨h3, h4⟩ | ⟨h3, _⟩
  · have h5 := rankP_pos hmi
    have h6 := rankR_lt (n := bought.length) (by omega : rate fall (plan.getD i 0) < rate fall k) (upTo_mem (by omega) (by omega))
    have := Int.mul_le_mul (a := 1) (b := 1) h5 (by omega : (1 : Int) ≤ rankR fall bought.length k - rankR fall bought.length (plan.getD i 0)) (by omega) (by omega)
    omega
  · omega
theorem Shop.best {fall : Int} {bought prices : List Int} {stock : List Piece} (h : Shop fall bought prices stock) : Plan bought (bestPlan prices bought) ∧ (bestPlan prices bought).length = stock.length := by
  obtain ⟨h1, h2, _⟩ := best_ok h.fall0 (prices := prices) h.pos
  exact ⟨h2, by rw [h1, h.len]⟩
theorem Shop.most {fall : Int} {bought prices plan : List Int} {stock : List Piece} (h : Shop fall bought prices stock) (hP : Plan bought plan) (hl : plan.length = stock.length) : earns fall prices plan ≤ earns fall prices (bestPlan prices bought) :=
  best_most h.fall0 h.pos h.bnd hP (by rw [hl, h.len])
theorem Shop.best_exch {fall : Int} {bought prices : List Int} {stock : List Piece} (h : Shop fall bought prices stock) : searchIK (betterExch fall stock prices (bestPlan prices bought)) stock.length 0 stock.length = none := by
  cases hs : searchIK (betterExch fall stock prices (bestPlan prices bought)) stock.length 0 stock.length with
  | none => rfl
  | some ab =>
    obtain ⟨a, b⟩ := ab
    obtain ⟨_, _, h3, h4, h5⟩ := searchIK_some _ _ _ _ hs
    obtain ⟨k1, k2, k3, _⟩ := h.exch h.best.1 h.best.2 h3 h4 h5
    have := h.most k1 k2
    omega
theorem Shop.best_move {fall : Int} {bought prices : List Int} {stock : List Piece} (h : Shop fall bought prices stock) : searchIW (betterMove fall bought prices (bestPlan prices bought)) bought.length 0 stock.length = none := by
  cases hs : searchIW (betterMove fall bought prices (bestPlan prices bought)) bought.length 0 stock.length with
  | none => rfl
  | some ab =>
    obtain ⟨a, b⟩ := ab
    obtain ⟨_, h2, h3, h5⟩ := searchIW_some _ _ _ _ hs
    obtain ⟨k1, k2, k3, _⟩ := h.move h.best.1 h.best.2 (by omega) h3 h5
    have := h.most k1 k2
    omega
theorem Shop.none_most {fall : Int} {bought prices plan : List Int} {stock : List Piece} (h : Shop fall bought prices stock) (hP : Plan bought plan) (hl : plan.length = stock.length) (he : searchIK (betterExch fall stock prices plan) stock.length 0 stock.length = none) (hm : searchIW (betterMove fall bought prices plan) bought.length 0 stock.length = none) :
    earns fall prices plan = earns fall prices (bestPlan prices bought) := by
  have hpl : prices.length = plan.length := by rw [hl, h.len]
  have hL := loc_of_none hP hpl h.len h.same (fun i k hik hk => searchIK_none _ _ he i k (by omega) (by omega) hik hk) (fun i k hi hk => searchIW_none _ _ hm i k (by omega) (by omega) hk)
  have h1 := loc_best h.fall0 h.bnd hP hL h.best.1 hpl (by rw [h.best.2, h.len])
  have h2 := h.most hP hl
  omega
theorem stocked_map {l : List Rule} : ∀ ps, (stocked l ps).2 = 0 → (stocked l ps).1 = ps.map (fun q => (priced l q).1) := by
  intro ps
  induction ps with
  | nil => intro _; rfl
  | cons q ps ih =>
    intro h
    simp only [stocked] at h ⊢
    split at h
    · split at h
      · rename_i h1 h2
        rw [if_pos h1, if_pos h2, ih h]; rfl
      · rename_i h1 h2; exact absurd h h2
    · cases h
theorem shop_of {l : List Rule} {fall : Int} {bought : List Int} {stock : List Piece} (h : openErr l fall bought stock = 0) : Shop fall bought (stocked l stock).1 stock := by
  have ho := openErr_ok h
  refine ⟨ho.hfall0, ho.hweeks1, fun m hm => (ho.hbought m hm).1, ho.hlength.symm, ho.hstock, ho.hprices, fun i k hi hk he => ?_⟩
  rw [stocked_map stock ho.hok, List.getD_eq_getElem?_getD, List.getD_eq_getElem?_getD, List.getElem?_map, List.getElem?_map, he]
theorem planErr_plan {l : List Rule} {fall : Int} {bought : List Int} {stock : List Piece} {plan : List Int} (h : openErr l fall bought stock = 0) (hl : plan.length = stock.length) (hP : Plan bought plan) : planErr l fall bought stock plan = 0 := by
  unfold planErr
  rw [if_pos h, if_pos hl, if_pos, if_pos hP.room]
  simp only [List.all_eq_true, inB, Bool.and_eq_true, decide_eq_true_eq]
  exact fun x hx => by have := hP.weeks x hx; omega
theorem dupIn_nodup : ∀ (l pre : List Rule), l.Nodup → (∀ r ∈ l, r ∉ pre) → dupIn pre l = false := by
  intro l
  induction l with
  | nil => intro pre _ _; rfl
  | cons r l ih =>
    intro pre hn hp
    have hn' := List.nodup_cons.1 hn
    simp only [dupIn, Bool.or_eq_false_iff]
    refine ⟨by simpa using hp r List.mem_cons_self, ih _ hn'.2 fun q hq hm => ?_⟩
    rcases List.mem_append.1 hm with hm | hm
    · exact hp q (List.mem_cons_of_mem _ hq) hm
    · rw [List.mem_singleton] at hm
      subst hm
      exact hn'.1 hq
theorem check_nodup {l : List Rule} (hl : l.length ≤ 8) (hn : l.Nodup) (ha : ∀ r ∈ l, allowed r = true) : check l = 0 := by
  unfold check
  rw [if_neg (by omega), if_pos (List.all_eq_true.2 ha), dupIn_nodup l [] hn fun r _ h => (by cases h)]; rfl
/-- What the statements' Made makes. -/
structure MadeOk (n : Nat) (l : List Rule) : Prop where
  len : l.length ≤ n
  nodup : l.Nodup
  ok : ∀ r ∈ l, allowed r = true ∧ 10 ≤ r.p ∧ r.p ≤ 14
theorem MadeOk.last {n : Nat} {l : List Rule} (h : MadeOk n l) (hn : n ≤ 7) {p : Int} (hp : 15 ≤ p ∧ p ≤ 500) : check (l ++ [⟨-1, -1, -1, p⟩]) = 0 := by
  have h1 := h.len
  refine check_nodup (by simp; omega) (List.nodup_append.2 ⟨h.nodup, by simp, fun r hr q hq e => ?_⟩) fun r hr => ?_
  · rw [List.mem_singleton.1 hq] at e
    have := (h.ok r hr).2
    rw [e] at this
    dsimp only at this
    omega
  · rcases List.mem_append.1 hr with hr | hr
    · exact (h.ok r hr).1
    · rw [List.mem_singleton.1 hr]
      simp [allowed, inB]; omega
theorem stocked_clash {l : List Rule} (hc : check l = 0) : ∀ (stock : List Piece), (∀ q ∈ stock, isP q = true ∧ ((lawPriced l q).2 = 0 ∨ (lawPriced l q).2 = 7)) → (stocked l stock).2 = 0 ∨ (stocked l stock).2 = 7 := by
  intro stock
  induction stock with
  | nil => intro _; exact .inl rfl
  | cons q stock ih =>
    intro h
    have h1 := h q List.mem_cons_self
    rw [lawPriced_eq fun r hr => (check_prices hc r hr).1] at h1
    have h2 := ih fun x hx => h x (List.mem_cons_of_mem _ hx)
    simp only [stocked, h1.1, if_true]
    split
    · exact h2
    · exact h1.2
theorem open_clash {l : List Rule} {fall : Int} {bought : List Int} {stock : List Piece} (hc : check l = 0) (hf : 0 ≤ fall ∧ fall ≤ 30) (hl : 1 ≤ bought.length ∧ bought.length ≤ 8) (hb : ∀ m ∈ bought, 0 ≤ m ∧ m ≤ 9) (hs : stock.length ≤ 10) (hp : ∀ q ∈ stock, isP q = true ∧ ((lawPriced l q).2 = 0 ∨ (lawPriced l q).2 = 7)) :
    openErr l fall bought stock = 0 ∨ openErr l fall bought stock = 7 := by
  have h1 : checkSale fall bought = 0 := by
    unfold checkSale
    rw [if_pos (by simp [inB]; omega), if_pos]
    simp only [Bool.and_eq_true, List.all_eq_true]
    exact ⟨by simp [inB]; omega, fun x hx => by have := hb x hx; simp [inB]; omega⟩
  unfold openErr
  rw [if_pos hc, if_pos h1, if_pos hs]
  exact stocked_clash hc stock hp
end Price
end Go.Proofs.Ytblmlpkjocbhpaa
