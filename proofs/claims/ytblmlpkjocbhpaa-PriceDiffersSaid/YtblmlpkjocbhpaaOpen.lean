/- What an argument of a law reads as: []uint8. No condition. -/
import Derived.Test.YtblmlpkjocbhpaaFrame
import Derived.ChangeSlices
set_option linter.unusedVariables false
set_option linter.unusedSimpArgs false
namespace Go.Proofs.Ytblmlpkjocbhpaa
open Go.ChangeShapes Go.WideShapes Go.RowKit

theorem cellsU8 : (Try.prog).cellsOf 5 = 1 := by kernel_rfl
def byteEnc : Enc Int := ⟨fun x => [.int .u8 x], 1, fun _ => rfl, fun _ u h => by simp at h; subst h; rfl, by decide⟩
set_option maxRecDepth 100000 in
theorem openBytes {H : Type} {enc : TypeId × Value → H} {W : World} {base : Nat} {v : Value} {d : DataW H} {ps : List MemPlace} (hval : Value.okWide Try.prog W .any base 22 v) (h : DataW.Trod enc Try.prog W 0 (fun _ => true) true 22 v d ps) :
    ∃ A bs c, v = .slice A bs.length c ∧ bs.length ≤ c ∧ bs.length ≤ maxLen ∧ Sl byteEnc W A bs := by
  obtain ⟨A, len, cap, rfl⟩ := okWide_slice Try.underlying22 hval
  obtain ⟨fuel, hf⟩ := h
  rcases open_ints Try.underlying22 Try.underlying5 cellsU8 hf with ⟨hcs, _⟩ | ⟨a, len', cap', zs, hcs, _, hl, hm, hz, _, hcell, _⟩
  · simp [Value.cells] at hcs
    obtain ⟨rfl, rfl, rfl⟩ := hcs
    exact ⟨none, [], 0, rfl, Nat.le_refl _, Nat.zero_le _, fun h => absurd rfl h⟩
  · simp [Value.cells] at hcs
    obtain ⟨rfl, rfl, rfl⟩ := hcs
    simp only [if_true] at hz
    refine ⟨some a, zs.take len, cap, by simp; omega, by simp; omega, by simp; omega, fun hne => ?_⟩
    obtain ⟨ab, ao, spot⟩ := a
    have h0 : 0 < zs.length := by
      cases zs with
      | nil => simp at hne
      | cons _ _ => simp
    have hspot : spot = none := by simpa [Addr.add] using World.cell?_spot (hcell 0 h0)
    subst hspot
    refine ⟨ab, ao, rfl, ?_, fun i x hi j u hu => ?_⟩
    · have := hcell 0 h0
      rw [Addr.add_lit] at this
      by_cases hlt : ab < W.heap.size
      · exact hlt
      · simp [World.cell?, Array.getElem?_eq_none (Nat.le_of_not_lt hlt)] at this
    · have hu' : j = 0 ∧ u = .int .u8 x := by
        match j, hu with
        | 0, hu => exact ⟨rfl, by simpa [byteEnc] using hu.symm⟩
        | j + 1, hu => simp [byteEnc] at hu
      obtain ⟨rfl, rfl⟩ := hu'
      have hil : i < zs.length := by have := (List.getElem?_eq_some_iff.1 hi).1; simp at this; omega
      have := hcell i hil
      rw [Addr.add_lit] at this
      have hx : zs.getD i 0 = x := by
        rw [List.getElem?_take] at hi
        split at hi
        · simp [List.getD_eq_getElem?_getD, hi]
        · cases hi
      rw [hx] at this
      simpa [byteEnc] using this
end Go.Proofs.Ytblmlpkjocbhpaa
