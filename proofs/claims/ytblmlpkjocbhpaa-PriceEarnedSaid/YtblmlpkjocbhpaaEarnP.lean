/- What the list of PriceEarned makes of pieces. Conditions: prices are allowed ones. -/
import Derived.Test.YtblmlpkjocbhpaaSoldP
set_option linter.unusedVariables false
set_option linter.unusedSimpArgs false
namespace Go.Proofs.Ytblmlpkjocbhpaa
namespace Price
/-- The list of the statement PriceEarned. -/
def earnList (q0 q1 : Int) : List Rule := [⟨-1, -1, -1, q0⟩, ⟨-1, 1, -1, q1⟩]
def earnPrice (q0 q1 : Int) (q : Piece) : Int := if q.s = 1 then q1 else q0
theorem earn_priced {q0 q1 : Int} (h0 : 0 ≤ q0) (h1 : 0 ≤ q1) (q : Piece) : priced (earnList q0 q1) q = (earnPrice q0 q1 q, 0) := by
  rw [← lawPriced_eq (fun r hr => by simp [earnList] at hr; rcases hr with rfl | rfl <;> assumption)]
  obtain ⟨b, s, e⟩ := q
  unfold earnPrice earnList lawPriced
  simp only [List.foldl_cons, List.foldl_nil]
  by_cases hb1 : s = 1
  · subst hb1; simp [lawStep, lawNames, holds, fits, many, one, lawEnd]
  · have h1' : ¬ (1 : Int) = s := fun e => hb1 e.symm
    simp [lawStep, lawNames, holds, fits, many, one, lawEnd, hb1, h1']
theorem earn_check {q0 q1 : Int} (h0 : 0 ≤ q0 ∧ q0 ≤ 500) (h1 : 0 ≤ q1 ∧ q1 ≤ 500) : check (earnList q0 q1) = 0 := by
  have hd : dupIn [] (earnList q0 q1) = false := by simp [dupIn, earnList]
  have ha : (earnList q0 q1).all allowed = true := by simp [earnList, allowed, inB, *]
  unfold check
  rw [if_neg (by simp [earnList]), if_pos ha, hd]; rfl
theorem earn_stocked {q0 q1 : Int} (h0 : 0 ≤ q0) (h1 : 0 ≤ q1) : ∀ (stock : List Piece), (∀ q ∈ stock, isP q = true) → stocked (earnList q0 q1) stock = (stock.map (earnPrice q0 q1), 0) := by
  intro stock
  induction stock with
  | nil => intro _; rfl
  | cons q stock ih =>
    intro h
    have hq := h q List.mem_cons_self
    simp only [stocked, hq, if_true, earn_priced h0 h1]
    rw [ih fun x hx => h x (List.mem_cons_of_mem _ hx)]
    rfl
theorem earn_bounds {q0 q1 : Int} (h0 : 0 ≤ q0 ∧ q0 ≤ 60) (h1 : 0 ≤ q1 ∧ q1 ≤ 60) (q : Piece) : 0 ≤ earnPrice q0 q1 q ∧ earnPrice q0 q1 q ≤ 60 := by
  unfold earnPrice
  split <;> assumption
theorem earn_open {q0 q1 fall : Int} {bought : List Int} {stock : List Piece} (h0 : 0 ≤ q0 ∧ q0 ≤ 500) (h1 : 0 ≤ q1 ∧ q1 ≤ 500) (hf : 0 ≤ fall ∧ fall ≤ 30) (hl : 1 ≤ bought.length ∧ bought.length ≤ 8) (hb : ∀ m ∈ bought, 0 ≤ m ∧ m ≤ 9) (hs : stock.length ≤ 10) (hp : ∀ q ∈ stock, isP q = true) :
    openErr (earnList q0 q1) fall bought stock = 0 := by
  have hc : checkSale fall bought = 0 := by
    unfold checkSale
    rw [if_pos (by simp [inB]; omega), if_pos]
    simp only [Bool.and_eq_true, List.all_eq_true]
    exact ⟨by simp [inB]; omega, fun x hx => by have := hb x hx; simp [inB]; omega⟩
  unfold openErr
  rw [if_pos (earn_check h0 h1), if_pos hc, if_pos hs, earn_stocked h0.1 h1.1 stock hp]
theorem earn_price {q0 q1 : Int} (h0 : 0 ≤ q0 ∧ q0 ≤ 500) (h1 : 0 ≤ q1 ∧ q1 ≤ 500) {q : Piece} (hq : isP q = true) : check (earnList q0 q1) = 0 ∧ priced (earnList q0 q1) q = (earnPrice q0 q1 q, 0) := ⟨earn_check h0 h1, earn_priced h0.1 h1.1 q⟩
theorem rate_zero {w : Int} (h : w ≠ -1) : rate 0 w = 100 := by unfold rate; rw [if_neg h, Int.zero_mul]; rfl
/-- What is earned by the pieces from one on, and a longer plan's error. -/
theorem earns_drop {fall p w : Int} {ps plan : List Int} {k : Nat} (hp : ps[k]? = some p) (hw : plan[k]? = some w) : earns fall (ps.drop k) (plan.drop k) = p * rate fall w + earns fall (ps.drop (k + 1)) (plan.drop (k + 1)) := by
  obtain ⟨h1, rfl⟩ := List.getElem?_eq_some_iff.1 hp
  obtain ⟨h2, rfl⟩ := List.getElem?_eq_some_iff.1 hw
  rw [List.drop_eq_getElem_cons h1, List.drop_eq_getElem_cons h2]; rfl
theorem planErr_long {l : List Rule} {fall : Int} {bought : List Int} {stock : List Piece} {plan : List Int} (h : openErr l fall bought stock = 0) (hl : plan.length ≠ stock.length) : planErr l fall bought stock plan = 2 := by
  unfold planErr
  rw [if_pos h, if_neg hl]
end Price
end Go.Proofs.Ytblmlpkjocbhpaa
