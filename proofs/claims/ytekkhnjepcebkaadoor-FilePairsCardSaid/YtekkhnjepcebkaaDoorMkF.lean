/- Package petershamlaw11: Made. Conditions: fewer than 2^20 numbers of the spool, at most 1000 lines. -/
import Derived.Test.YtekkhnjepcebkaaDoorSpool
import Derived.Laws.BytesArg
import Derived.Laws.IdiomStrings
set_option linter.unusedVariables false
set_option linter.unusedSimpArgs false
namespace Go.Proofs.YtekkhnjepcebkaaDoor
namespace Fl
open Go.RowKit Go.Shelf
set_option maxRecDepth 100000
theorem tyBytes : SlTy Tryd.prog 91 5 1 := slTy_of (z := .int .u8 0) (bytes := 1) Tryd.underlying91 (by kernel_rfl) rfl (by decide)
theorem conv_run {w : World} {A : Option Addr} {xs : List Int} {c : Nat} (h : Sl byteE w A xs) : (convert 91 9 (.slice A xs.length c)).run Tryd.prog w = .ok (.string (strOfNums xs)) w := by
  cases A with
  | none =>
    have hx : xs = [] := by
      by_cases h0 : xs = []
      · exact h0
      · obtain ⟨b, off, hA, _⟩ := h h0
        cases hA
    subst hx
    exact run_convert_bytes_nil w _ 5 Tryd.underlying91 Tryd.underlying5 _ _ _ Tryd.underlying9
  | some a =>
    by_cases h0 : xs = []
    · subst h0
      exact run_convert_bytes_back w _ _ 5 a c [] Tryd.underlying91 Tryd.underlying5 Tryd.underlying9 (fun j hj => absurd hj (by simp))
    · obtain ⟨b, off, hA, hb, hc⟩ := h h0
      injection hA with hA
      subst hA
      refine run_convert_bytes_arg w _ 5 Tryd.underlying91 Tryd.underlying5 b off _ c xs rfl (fun i hi => ?_) _ Tryd.underlying9
      have := hc i xs[i] (List.getElem?_eq_getElem hi) 0 (.int .u8 xs[i]) rfl
      simpa [byteE, List.getD, List.getElem?_eq_getElem hi] using this
theorem flat_u8 (xs : List Int) : xs.flatMap byteE.cells = xs.map (Value.int .u8) := by
  induction xs with
  | nil => rfl
  | cons x r ih => rw [List.flatMap_cons, ih]; rfl
theorem line_ok {bs : List Int} (h : ∀ x ∈ bs, x = 97 ∨ x = 98 ∨ x = 32 ∨ x = 49) (hl : bs.length ≤ 40) : File.okLine (strOfNums bs) = true ∧ (strOfNums bs).size ≤ 40 := by
  refine ⟨?_, by rw [strOfNums_size]; exact hl⟩
  unfold File.okLine
  rw [List.all_eq_true]
  intro b hb
  rw [show File.bts (strOfNums bs) = bs.map fun n => UInt8.ofNat n.toNat from rfl] at hb
  obtain ⟨x, hx, rfl⟩ := List.mem_map.1 hb
  rcases h x hx with rfl | rfl | rfl | rfl <;> decide
end Fl
end Go.Proofs.YtekkhnjepcebkaaDoor
