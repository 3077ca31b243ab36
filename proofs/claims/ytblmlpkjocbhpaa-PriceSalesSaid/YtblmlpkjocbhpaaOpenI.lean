/- What arguments of a law read as: slices of numbers, a sale. No condition. -/
import Derived.Test.YtblmlpkjocbhpaaOpenS
import Derived.ChangeSlices
set_option linter.unusedVariables false
set_option linter.unusedSimpArgs false
namespace Go.Proofs.Ytblmlpkjocbhpaa
open Go.ChangeShapes Go.WideShapes Go.RowKit Go.Deep

section
variable {H : Type} {enc : TypeId × Value → H} {P : Program} {W : World} {base : Nat} {spare : Nat → Bool} {held : Bool}
theorem openIntsF {t e : TypeId} {fuel : Nat} {cs : List Value} {x : DataW H × List MemPlace} (ht : P.underlying t = some (.slice e)) (he : P.underlying e = some (.int .i64)) (hc : P.cellsOf e = 1) (hf : DataW.trod enc P W base spare held fuel t cs = some x) :
    ∃ A xs c, cs = [.slice A xs.length c] ∧ xs.length ≤ c ∧ xs.length ≤ maxLen ∧ Sl intE W A xs := by
  rcases open_ints ht he hc hf with ⟨rfl, _⟩ | ⟨a, len, cap, zs, rfl, _, hl, hm, hz, _, hcell, _⟩
  · exact ⟨none, [], 0, rfl, Nat.le_refl _, Nat.zero_le _, fun h => absurd rfl h⟩
  · have hzl : len ≤ zs.length := by rw [hz]; split <;> omega
    refine ⟨some a, zs.take len, cap, by simp; omega, by simp; omega, by simp; omega, fun hne => ?_⟩
    obtain ⟨ab, ao, spot⟩ := a
    have h0 : 0 < zs.length := by
      cases zs with
      | nil => simp at hne
      | cons _ _ => simp
    have hspot : spot = none := by simpa [Addr.add] using World.cell?_spot (hcell 0 h0)
    subst hspot
    refine ⟨ab, ao, rfl, ?_, fun i x hi j u hu => ?_⟩
    · have := hcell 0 h0
      rw [Addr.add_lit] at this
      by_cases hlt : ab < W.heap.size
      · exact hlt
      · simp [World.cell?, Array.getElem?_eq_none (Nat.le_of_not_lt hlt)] at this
    · have hu' : j = 0 ∧ u = .int .i64 x := by
        match j, hu with
        | 0, hu => exact ⟨rfl, by simpa [intE] using hu.symm⟩
        | j + 1, hu => simp [intE] at hu
      obtain ⟨rfl, rfl⟩ := hu'
      have hil : i < zs.length := by have := (List.getElem?_eq_some_iff.1 hi).1; simp at this; omega
      have := hcell i hil
      rw [Addr.add_lit] at this
      have hx : zs.getD i 0 = x := by
        rw [List.getElem?_take] at hi
        split at hi
        · simp [List.getD_eq_getElem?_getD, hi]
        · cases hi
      rw [hx] at this
      simpa [intE] using this
theorem openInts {t e : TypeId} (ht : P.underlying t = some (.slice e)) (he : P.underlying e = some (.int .i64)) (hc : P.cellsOf e = 1) {v : Value} {d : DataW H} {ps : List MemPlace} {b0 : Nat} (hval : Value.okWide P W .any b0 t v) (h : DataW.Trod enc P W base spare held t v d ps) :
    ∃ A xs c, v = .slice A xs.length c ∧ xs.length ≤ c ∧ xs.length ≤ maxLen ∧ Sl intE W A xs := by
  obtain ⟨A, len, cap, rfl⟩ := okWide_slice ht hval
  obtain ⟨fuel, hf⟩ := h
  obtain ⟨A', xs, c, hcs, h1, h2, h3⟩ := openIntsF ht he hc hf
  simp [Value.cells] at hcs
  obtain ⟨rfl, rfl, rfl⟩ := hcs
  exact ⟨_, xs, _, rfl, h1, h2, h3⟩
theorem openSale {t ti ts : TypeId} {fs : Array Field} (he : P.underlying t = some (.struct fs)) (hfs : fs.toList.map (fun (f : Field) => (f.type, f.offset)) = [(ti, 0), (ts, 1)])
    (hti : P.underlying ti = some (.int .i64)) (hts : P.underlying ts = some (.slice ti)) (hci : P.cellsOf ti = 1) (hct : P.cellsOf ts = 1) (hC : P.cellsOf t = 2) {v : Value} {d : DataW H} {ps : List MemPlace} {b0 : Nat} (hval : Value.okWide P W .any b0 t v) (h : DataW.Trod enc P W base spare held t v d ps) :
    ∃ n A xs c, v = .agg #[iv n, .slice A xs.length c] ∧ xs.length ≤ c ∧ xs.length ≤ maxLen ∧ Sl intE W A xs := by
  obtain ⟨cs, rfl, hsz⟩ := okWide_struct he hval
  obtain ⟨fuel, hf⟩ := h
  obtain ⟨ys, n', _, _, hlen, hyl, hff⟩ := DataW.trod_struct he hf
  have hl2 : fs.toList.length = 2 := by have := congrArg List.length hfs; simpa using this
  have hs2 : fs.size = 2 := by simpa using hl2
  match fs, hs2, hfs with
  | ⟨[f0, f1]⟩, _, hfs =>
    simp only [List.map_cons, List.map_nil, List.cons.injEq, Prod.mk.injEq, and_true] at hfs
    obtain ⟨⟨t0, o0⟩, t1, o1⟩ := hfs
    have hy : ys.length = 2 := by simpa using hyl
    match ys, hy with
    | [y0, y1], _ =>
      have e0 := hff 0 f0 rfl
      have e1 := hff 1 f1 rfl
      rw [t0, o0, hci] at e0
      rw [t1, o1, hct] at e1
      match cs, hsz with
      | ⟨[c0, c1]⟩, _ =>
        simp only [Value.cells, List.drop_zero, List.take_succ_cons, List.take_zero, List.drop_succ_cons, List.getElem?_cons_zero, List.getElem?_cons_succ] at e0 e1
        obtain ⟨n, hn, _, _⟩ := DataW.trod_int hti e0
        obtain ⟨A, xs, c, hcs, h1, h2, h3⟩ := openIntsF hts hti hci e1
        simp only [List.cons.injEq, and_true] at hn hcs
        subst hn hcs
        exact ⟨n, A, xs, c, rfl, h1, h2, h3⟩
      | ⟨[]⟩, h => rw [hC] at h; simp at h
      | ⟨[_]⟩, h => rw [hC] at h; simp at h
      | ⟨_ :: _ :: _ :: _⟩, h => rw [hC] at h; simp at h
end
end Go.Proofs.Ytblmlpkjocbhpaa
