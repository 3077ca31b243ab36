/- Package silk, for a mill of one lot: what bounds say of the dry weight. Plain law. -/
import Derived.Test.YtblmlpkjocbhpaaSilkG
set_option linter.unusedVariables false
set_option linter.unusedSimpArgs false
namespace Go.Proofs.Ytblmlpkjocbhpaa
open Go.RowKit
theorem says_fits (d m : Int) (h0 : 0 ≤ d) (h1 : d ≤ 40) (h2 : 0 ≤ m) (h3 : m ≤ 30) :
    (⟨0, (d * (100 + m) + 50) / 100, max 0 (m - 2), m + 2⟩ : Weigh).Ok ∧ (⟨0, (d * (100 + m) + 50) / 100, max 0 (m - 2), m + 2⟩ : Weigh).sLo ≤ d ∧ d ≤ (⟨0, (d * (100 + m) + 50) / 100, max 0 (m - 2), m + 2⟩ : Weigh).sHi := by
  have hp0 : 0 ≤ d * (100 + m) := Int.mul_nonneg h0 (by omega)
  have hp1 : d * (100 + m) ≤ 40 * (100 + m) := Int.mul_le_mul_of_nonneg_right h1 (by omega)
  have hp2 : d * (100 + (m + 2)) = d * (100 + m) + 2 * d := by rw [show 100 + (m + 2) = (100 + m) + 2 by omega, Int.mul_add, Int.mul_comm d 2]
  have hp3 : d * (100 + max 0 (m - 2)) ≤ d * (100 + m) := Int.mul_le_mul_of_nonneg_left (by omega) h0
  refine ⟨⟨rfl, by dsimp only; omega, by dsimp only; omega, by dsimp only; omega, by dsimp only; omega⟩, ?_, ?_⟩
  · unfold Weigh.sLo
    dsimp only
    refine Int.le_of_lt_add_one (Int.ediv_lt_of_lt_mul (by omega) ?_)
    rw [Int.add_mul, Int.one_mul, hp2]
    omega
  · unfold Weigh.sHi
    dsimp only
    have := (Int.le_ediv_iff_mul_le (a := d) (b := 100 * ((d * (100 + m) + 50) / 100 + 1)) (c := 100 + max 0 (m - 2)) (by omega)).2 (by omega)
    omega
theorem sbnd_snoc (ws : List Weigh) (x : Weigh) : Price.sbnd (ws ++ [x]) = (max (Price.sbnd ws).1 x.sLo, min (Price.sbnd ws).2 x.sHi) := by
  simp [Price.sbnd, List.foldl_append]
/-- The edge of a piece by the bounds of its lot. -/
def Price.silkEdge (b : Int × Int) : Nat := if 0 < b.1 then 2 else if 0 < b.2 then 1 else 0
theorem silkEdge_keeps {b : Int × Int} {d lo hi : Int} (h1 : b.1 ≤ d) (h2 : d ≤ b.2) (h3 : lo ≤ d) (h4 : d ≤ hi) (h0 : 0 ≤ d) (h : Price.silkEdge b ≠ 1) : Price.silkEdge (max b.1 lo, min b.2 hi) = Price.silkEdge b := by
  unfold Price.silkEdge at *
  dsimp only
  repeat' split at h
  all_goals first | omega | (repeat' split) | skip
  all_goals omega
theorem silkEdge_two {b : Int × Int} {d : Int} (h1 : b.1 ≤ d) (h : Price.silkEdge b = 2) : 0 < d := by
  unfold Price.silkEdge at h
  split at h
  · omega
  · split at h <;> cases h
theorem silkEdge_zero {b : Int × Int} {d : Int} (h2 : d ≤ b.2) (h : Price.silkEdge b = 0) : d ≤ 0 := by
  unfold Price.silkEdge at h
  split at h
  · cases h
  · split at h
    · cases h
    · omega
theorem silkEdge_lt (b : Int × Int) : Price.silkEdge b < 3 := by
  unfold Price.silkEdge
  split
  · omega
  · split <;> omega
end Go.Proofs.Ytblmlpkjocbhpaa
