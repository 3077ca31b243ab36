/- Predicates that are handed over, and the first element for which one holds. No condition. -/
import Derived.Test.YtkailkfiakagfaaGreatMem
set_option linter.unusedVariables false
set_option linter.unusedSimpArgs false
namespace Go.Proofs.YtkailkfiakagfaaGreat
open Go.RowKit
/-- The function value answers p at each x of xs, whatever has come to lie in memory since. -/
def IsPred {α : Type} (P : Program) (w : World) (K : Nat) (cap : Array Value) (v : α → Value) (xs : List α) (p : α → Bool) : Prop :=
  (∀ args w, (callFunc K args).run P w = .ok (.enter K args) w) ∧
  ∀ x ∈ xs, ∀ w', Below w.heap.size w w' → Calls P K (#[v x] ++ cap) w' (fun e w'' => e = .returned (.bool (p x)) ∧ Below w'.heap.size w' w'')
theorem IsPred.below {α : Type} {P : Program} {w w1 : World} {K : Nat} {cap : Array Value} {v : α → Value} {xs : List α} {p : α → Bool} (h : IsPred P w K cap v xs p) (hb : Below w.heap.size w w1) : IsPred P w1 K cap v xs p :=
  ⟨h.1, fun x hx w' hw' => h.2 x hx w' (hb.next hw' (Nat.le_refl _))⟩

theorem callFunc_run {P : Program} {K : Nat} (h : ((P.funcs[K]?).map fun f => (f.name == "runtime.NumGoroutine", f.body.isNone)) = some (false, false)) : ∀ (args : Array Value) (w : World), (callFunc K args).run P w = .ok (.enter K args) w := by
  intro args w
  cases hf : P.funcs[K]? with
  | none => rw [hf] at h; cases h
  | some fn =>
    rw [hf] at h
    simp only [Option.map_some, Option.some.injEq, Prod.mk.injEq] at h
    have h1 : ¬ fn.name = "runtime.NumGoroutine" := by simpa using h.1
    have h2 : ¬ fn.body = none := fun e => by rw [e] at h; cases h.2
    simp [callFunc, go_sem, hf, h1, h2]

def findFrom {α : Type} (p : α → Bool) (l : List α) (k : Int) : Int := match l with
  | [] => -1
  | x :: l => if p x then k else findFrom p l (k + 1)
theorem findFrom_nonneg {α : Type} (p : α → Bool) : ∀ (l : List α) (k : Int), 0 ≤ k → (decide (0 ≤ findFrom p l k) = l.any p) := by
  intro l
  induction l with
  | nil => intro k _; simp [findFrom]
  | cons x l ih =>
    intro k hk
    simp only [findFrom, List.any_cons]
    by_cases h : p x = true
    · simpa [h] using hk
    · simpa [h] using ih (k + 1) (by omega)
end Go.Proofs.YtkailkfiakagfaaGreat
