/- What the functions of package price compute, in plain words. No condition. -/
set_option linter.unusedVariables false
set_option linter.unusedSimpArgs false
namespace Go.Proofs.YtkailkfiakagfaaGreat

structure Piece where
  b : Int
  s : Int
  e : Int
  deriving DecidableEq, Repr, Inhabited
structure Rule where
  b : Int
  s : Int
  e : Int
  p : Int
  deriving DecidableEq, Repr, Inhabited

namespace Price
def inB (n lo hi : Int) : Bool := decide (lo ≤ n) && decide (n ≤ hi)
def isP (p : Piece) : Bool := inB p.b 0 3 && (inB p.s 0 4 && inB p.e 0 2)
def allowed (r : Rule) : Bool := inB r.b (-1) 3 && (inB r.s (-1) 4 && (inB r.e (-1) 2 && inB r.p 0 500))
def fits (n h : Int) : Bool := decide (n = -1) || decide (n = h)
def holds (r : Rule) (p : Piece) : Bool := fits r.b p.b && (fits r.s p.s && fits r.e p.e)
def one (n : Int) : Int := if n = -1 then 0 else 1
def many (r : Rule) : Int := one r.b + one r.s + one r.e
def greatest (l : List Int) : Int := l.foldl max 0
/-- Does the rule stand among those ahead of it? -/
def dupIn (pre l : List Rule) : Bool := match l with
  | [] => false
  | r :: l => pre.contains r || dupIn (pre ++ [r]) l
def check (l : List Rule) : Int :=
  if l.length > 8 then 2 else if l.all allowed then (if dupIn [] l then 5 else 0) else 3
def held (l : List Rule) (p : Piece) : List Int := (l.filter (holds · p)).map many
def countsFrom (most : Int) (p : Piece) (l : List Rule) (i : Int) : List Int := match l with
  | [] => []
  | r :: l => if holds r p && decide (many r = most) then i :: countsFrom most p l (i + 1) else countsFrom most p l (i + 1)
def counts (l : List Rule) (p : Piece) : List Int := countsFrom (greatest (held l p)) p l 0
def prices (l : List Rule) (p : Piece) : List Int := (counts l p).map fun i => (l.getD i.toNat default).p
def pricedOf (ps : List Int) : Int × Int := match ps with
  | [] => (0, 6)
  | x :: xs => if xs.all (fun y => y == x) then (x, 0) else (0, 7)
def priced (l : List Rule) (p : Piece) : Int × Int := pricedOf (prices l p)
theorem countsFrom_mem (most : Int) (p : Piece) : ∀ (l : List Rule) (i j : Int), j ∈ countsFrom most p l i → i ≤ j ∧ j < i + l.length := by
  intro l
  induction l with
  | nil => intro i j h; simp [countsFrom] at h
  | cons r l ih =>
    intro i j h
    simp only [countsFrom] at h
    simp only [List.length_cons]
    split at h
    · rcases List.mem_cons.1 h with h | h
      · omega
      · have := ih _ _ h; omega
    · have := ih _ _ h; omega
theorem counts_mem {l : List Rule} {p : Piece} {j : Int} (h : j ∈ counts l p) : 0 ≤ j ∧ j < l.length := by
  have := countsFrom_mem _ _ _ _ _ h; omega
theorem countsFrom_length (most : Int) (p : Piece) : ∀ (l : List Rule) (i : Int), (countsFrom most p l i).length ≤ l.length := by
  intro l
  induction l with
  | nil => intro i; simp [countsFrom]
  | cons r l ih =>
    intro i
    simp only [countsFrom]
    have := ih (i + 1)
    split <;> simp <;> omega
theorem counts_length (l : List Rule) (p : Piece) : (counts l p).length ≤ l.length := countsFrom_length _ _ _ _
def checkSale (fall : Int) (bought : List Int) : Int :=
  if inB bought.length 1 8 then (if inB fall 0 30 && bought.all (inB · 0 9) then 0 else 3) else 2
def rate (fall week : Int) : Int := if week = -1 then 0 else max 0 (100 - fall * week)
def countIn (w : Int) (plan : List Int) : Int := match plan with
  | [] => 0
  | x :: plan => (if x = w then 1 else 0) + countIn w plan
def roomFrom (plan : List Int) (bought : List Int) (w : Int) : Bool := match bought with
  | [] => true
  | m :: bought => decide (countIn w plan ≤ m) && roomFrom plan bought (w + 1)
def room (bought plan : List Int) : Bool := roomFrom plan bought 0
/-- The prices of a stock, or its first error. -/
def stocked (l : List Rule) : List Piece → List Int × Int
  | [] => ([], 0)
  | p :: ps => if isP p then (if (priced l p).2 = 0 then ((priced l p).1 :: (stocked l ps).1, (stocked l ps).2) else ([], (priced l p).2)) else ([], 3)
/-- The error of a list, a sale, and a stock. -/
def openErr (l : List Rule) (fall : Int) (bought : List Int) (stock : List Piece) : Int :=
  if check l = 0 then (if checkSale fall bought = 0 then (if stock.length ≤ 10 then (stocked l stock).2 else 2) else checkSale fall bought) else check l
def planErr (l : List Rule) (fall : Int) (bought : List Int) (stock : List Piece) (plan : List Int) : Int :=
  if openErr l fall bought stock = 0 then
    (if plan.length = stock.length then (if plan.all (inB · (-1) (bought.length - 1)) then (if room bought plan then 0 else 9) else 1) else 2)
  else openErr l fall bought stock
def earns (fall : Int) : List Int → List Int → Int
  | p :: ps, w :: plan => p * rate fall w + earns fall ps plan
  | _, _ => 0
theorem pricedOf_bounds {ps : List Int} (h : ∀ p ∈ ps, 0 ≤ p ∧ p ≤ 500) : 0 ≤ (pricedOf ps).1 ∧ (pricedOf ps).1 ≤ 500 := by
  cases ps with
  | nil => simp [pricedOf]
  | cons x xs =>
    simp only [pricedOf]
    split
    · exact h x List.mem_cons_self
    · simp
theorem prices_bounds {l : List Rule} (h : ∀ r ∈ l, 0 ≤ r.p ∧ r.p ≤ 500) (q : Piece) : ∀ p ∈ prices l q, 0 ≤ p ∧ p ≤ 500 := by
  intro p hp
  obtain ⟨j, hj, rfl⟩ := List.mem_map.1 hp
  have := counts_mem hj
  have hlt : j.toNat < l.length := by omega
  rw [List.getD_eq_getElem?_getD, List.getElem?_eq_getElem hlt]
  exact h _ (List.getElem_mem _)
theorem priced_bounds {l : List Rule} (h : ∀ r ∈ l, 0 ≤ r.p ∧ r.p ≤ 500) (q : Piece) : 0 ≤ (priced l q).1 ∧ (priced l q).1 ≤ 500 := pricedOf_bounds (prices_bounds h q)
theorem stocked_bounds {l : List Rule} (h : ∀ r ∈ l, 0 ≤ r.p ∧ r.p ≤ 500) : ∀ ps, ∀ p ∈ (stocked l ps).1, 0 ≤ p ∧ p ≤ 500 := by
  intro ps
  induction ps with
  | nil => intro p hp; simp [stocked] at hp
  | cons q ps ih =>
    intro p hp
    simp only [stocked] at hp
    split at hp
    · split at hp
      · rcases List.mem_cons.1 hp with rfl | hp
        · exact priced_bounds h q
        · exact ih p hp
      · cases hp
    · cases hp
theorem stocked_length {l : List Rule} : ∀ ps, (stocked l ps).2 = 0 → (stocked l ps).1.length = ps.length := by
  intro ps
  induction ps with
  | nil => intro _; rfl
  | cons q ps ih =>
    intro h
    simp only [stocked] at h ⊢
    split at h
    · split at h
      · rename_i h1 h2
        rw [if_pos h1, if_pos h2]
        simp [ih h]
      · rename_i h1 h2; exact absurd h h2
    · cases h
theorem check_prices {l : List Rule} (h : check l = 0) : ∀ r ∈ l, 0 ≤ r.p ∧ r.p ≤ 500 := by
  intro r hr
  unfold check at h
  split at h
  · cases h
  · split at h
    · rename_i ha
      have := List.all_eq_true.1 ha r hr
      simp only [allowed, inB, Bool.and_eq_true, decide_eq_true_eq] at this
      exact this.2.2.2
    · cases h
theorem check_length {l : List Rule} (h : check l = 0) : l.length ≤ 8 := by
  unfold check at h
  split at h
  · cases h
  · omega
theorem rate_bounds {fall week : Int} (h1 : 0 ≤ fall) (h2 : fall ≤ 30) (h3 : -1 ≤ week) (h4 : week ≤ 100) : 0 ≤ rate fall week ∧ rate fall week ≤ 100 := by
  unfold rate
  split
  · omega
  · have : 0 ≤ fall * week := Int.mul_nonneg h1 (by omega)
    omega
theorem earns_bounds {fall : Int} (h1 : 0 ≤ fall) (h2 : fall ≤ 30) : ∀ (ps plan : List Int), (∀ p ∈ ps, 0 ≤ p ∧ p ≤ 500) → (∀ w ∈ plan, -1 ≤ w ∧ w ≤ 100) → 0 ≤ earns fall ps plan ∧ earns fall ps plan ≤ 50000 * plan.length := by
  intro ps
  induction ps with
  | nil => intro plan _ _; cases plan <;> simp [earns] <;> omega
  | cons p ps ih =>
    intro plan hp hw
    cases plan with
    | nil => simp [earns]
    | cons w plan =>
      have h := ih plan (fun q hq => hp q (List.mem_cons_of_mem _ hq)) (fun q hq => hw q (List.mem_cons_of_mem _ hq))
      have hr := rate_bounds h1 h2 (hw w List.mem_cons_self).1 (hw w List.mem_cons_self).2
      have hp0 := hp p List.mem_cons_self
      have hm1 : 0 ≤ p * rate fall w := Int.mul_nonneg hp0.1 hr.1
      have hm2 : p * rate fall w ≤ 500 * 100 := Int.mul_le_mul hp0.2 hr.2 hr.1 (by omega)
      simp only [earns, List.length_cons]
      omega
end Price
end Go.Proofs.YtkailkfiakagfaaGreat
