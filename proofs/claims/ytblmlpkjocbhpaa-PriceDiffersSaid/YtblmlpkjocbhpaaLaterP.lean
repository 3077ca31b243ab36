/- What the list of PriceLater makes of pieces. Conditions: prices are allowed ones. -/
import Derived.Test.YtblmlpkjocbhpaaPlanA
import Derived.Test.YtblmlpkjocbhpaaLawP
set_option linter.unusedVariables false
set_option linter.unusedSimpArgs false
namespace Go.Proofs.Ytblmlpkjocbhpaa
namespace Price
/-- The list of the statement PriceLater. -/
def laterList (p0 p1 p2 : Int) : List Rule := [⟨-1, -1, -1, p0⟩, ⟨1, -1, -1, p1⟩, ⟨2, -1, -1, p2⟩]
def laterPrice (p0 p1 p2 : Int) (q : Piece) : Int := if q.b = 1 then p1 else if q.b = 2 then p2 else p0
theorem later_priced {p0 p1 p2 : Int} (h0 : 0 ≤ p0) (h1 : 0 ≤ p1) (h2 : 0 ≤ p2) (q : Piece) : priced (laterList p0 p1 p2) q = (laterPrice p0 p1 p2 q, 0) := by
  rw [← lawPriced_eq (fun r hr => by simp [laterList] at hr; rcases hr with rfl | rfl | rfl <;> assumption)]
  obtain ⟨b, s, e⟩ := q
  unfold laterPrice laterList lawPriced
  simp only [List.foldl_cons, List.foldl_nil]
  by_cases hb1 : b = 1
  · subst hb1; simp [lawStep, lawNames, holds, fits, many, one, lawEnd]
  · by_cases hb2 : b = 2
    · subst hb2; simp [lawStep, lawNames, holds, fits, many, one, lawEnd]
    · have h1' : ¬ (1 : Int) = b := fun e => hb1 e.symm
      have h2' : ¬ (2 : Int) = b := fun e => hb2 e.symm
      simp [lawStep, lawNames, holds, fits, many, one, lawEnd, hb1, hb2, h1', h2']
theorem later_check {p0 p1 p2 : Int} (h0 : 0 ≤ p0 ∧ p0 ≤ 500) (h1 : 0 ≤ p1 ∧ p1 ≤ 500) (h2 : 0 ≤ p2 ∧ p2 ≤ 500) : check (laterList p0 p1 p2) = 0 := by
  have hd : dupIn [] (laterList p0 p1 p2) = false := by simp [dupIn, laterList]
  have ha : (laterList p0 p1 p2).all allowed = true := by simp [laterList, allowed, inB, *]
  unfold check
  rw [if_neg (by simp [laterList]), if_pos ha, hd]; rfl
theorem later_stocked {p0 p1 p2 : Int} (h0 : 0 ≤ p0) (h1 : 0 ≤ p1) (h2 : 0 ≤ p2) : ∀ (stock : List Piece), (∀ q ∈ stock, isP q = true) → stocked (laterList p0 p1 p2) stock = (stock.map (laterPrice p0 p1 p2), 0) := by
  intro stock
  induction stock with
  | nil => intro _; rfl
  | cons q stock ih =>
    intro h
    have hq := h q List.mem_cons_self
    simp only [stocked, hq, if_true, later_priced h0 h1 h2]
    rw [ih fun x hx => h x (List.mem_cons_of_mem _ hx)]
    rfl
theorem later_bounds {p0 p1 p2 : Int} (h0 : 0 ≤ p0 ∧ p0 ≤ 40) (h1 : 0 ≤ p1 ∧ p1 ≤ 40) (h2 : 0 ≤ p2 ∧ p2 ≤ 40) (q : Piece) : 0 ≤ laterPrice p0 p1 p2 q ∧ laterPrice p0 p1 p2 q ≤ 40 := by
  unfold laterPrice
  split
  · assumption
  · split <;> assumption
theorem later_open {p0 p1 p2 fall : Int} {bought : List Int} {stock : List Piece} (h0 : 0 ≤ p0 ∧ p0 ≤ 500) (h1 : 0 ≤ p1 ∧ p1 ≤ 500) (h2 : 0 ≤ p2 ∧ p2 ≤ 500) (hf : 0 ≤ fall ∧ fall ≤ 30) (hl : 1 ≤ bought.length ∧ bought.length ≤ 8) (hb : ∀ m ∈ bought, 0 ≤ m ∧ m ≤ 9) (hs : stock.length ≤ 10) (hp : ∀ q ∈ stock, isP q = true) :
    openErr (laterList p0 p1 p2) fall bought stock = 0 := by
  have hc : checkSale fall bought = 0 := by
    unfold checkSale
    rw [if_pos (by simp [inB]; omega), if_pos]
    simp only [Bool.and_eq_true, List.all_eq_true]
    exact ⟨by simp [inB]; omega, fun x hx => by have := hb x hx; simp [inB]; omega⟩
  unfold openErr
  rw [if_pos (later_check h0 h1 h2), if_pos hc, if_pos hs, later_stocked h0.1 h1.1 h2.1 stock hp]
end Price
end Go.Proofs.Ytblmlpkjocbhpaa
