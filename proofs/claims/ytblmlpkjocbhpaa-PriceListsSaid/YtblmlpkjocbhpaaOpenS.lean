/- What arguments of a law read as: slices of structs of numbers, structs of numbers, slices of numbers. No condition. -/
import Derived.Test.YtblmlpkjocbhpaaFrame
import Derived.Deep.Slices
import Derived.Deep.Fields
set_option linter.unusedVariables false
set_option linter.unusedSimpArgs false
namespace Go.Proofs.Ytblmlpkjocbhpaa
open Go.ChangeShapes Go.WideShapes Go.RowKit Go.Deep

section
variable {H : Type} {enc : TypeId × Value → H} {P : Program} {W : World} {base : Nat} {spare : Nat → Bool} {held : Bool}
theorem allInts : ∀ {cs : List Value}, (∀ u ∈ cs, ∃ n : Int, u = iv n ∧ (Lit.int .i64 n).wf = true) → ∃ ns : List Int, cs = ns.map iv ∧ ∀ n ∈ ns, (Lit.int .i64 n).wf = true := by
  intro cs
  induction cs with
  | nil => intro _; exact ⟨[], rfl, fun n hn => by cases hn⟩
  | cons u cs ih =>
    intro h
    obtain ⟨n, rfl, hw⟩ := h u List.mem_cons_self
    obtain ⟨ns, rfl, hns⟩ := ih fun u hu => h u (List.mem_cons_of_mem _ hu)
    refine ⟨n :: ns, rfl, fun m hm => ?_⟩
    rcases List.mem_cons.1 hm with rfl | hm
    · exact hw
    · exact hns m hm
/-- The cells of a struct of numbers. -/
theorem structInts {e : TypeId} {fs : Array Field} {fuel : Nat} {cs : List Value} {x : DataW H × List MemPlace} (he : P.underlying e = some (.struct fs)) (hone : oneCellFields P fs = true)
    (hint : ∀ (i : Nat) (f : Field), fs[i]? = some f → P.underlying f.type = some (.int .i64)) (hC : P.cellsOf e = fs.size) (h : DataW.trod enc P W base spare held fuel e cs = some x) :
    ∃ ns : List Int, ns.length = fs.size ∧ cs = ns.map iv ∧ ∀ n ∈ ns, (Lit.int .i64 n).wf = true := by
  obtain ⟨ys, n', _, _, hlen, hyl, hf⟩ := DataW.trod_struct he h
  have hlen' : cs.length = fs.size := hlen.trans hC
  have key : ∀ u ∈ cs, ∃ n : Int, u = iv n ∧ (Lit.int .i64 n).wf = true := by
    intro u hu
    obtain ⟨i, hi, rfl⟩ := List.getElem_of_mem hu
    have hfi : fs[i]? = some (fs[i]'(by omega)) := Array.getElem?_eq_getElem (by omega)
    have h1 := hf i _ hfi
    obtain ⟨ho, hk⟩ := hone_of hone i _ hfi
    rw [ho, hk, List.drop_eq_getElem_cons hi, List.take_succ_cons, List.take_zero] at h1
    have hy : ys[i]? = some (ys[i]'(by omega)) := List.getElem?_eq_getElem (by omega)
    rw [hy] at h1
    obtain ⟨n, hn, _, hw⟩ := DataW.trod_int (hint i _ hfi) h1
    exact ⟨n, by simpa using hn, hw⟩
  obtain ⟨ns, hns, hw⟩ := allInts key
  exact ⟨ns, by rw [← hlen', hns, List.length_map], hns, hw⟩
theorem openSl {α : Type} (E : Enc α) (hE : ∀ ns : List Int, ns.length = E.sz → (∀ n ∈ ns, (Lit.int .i64 n).wf = true) → ∃ x : α, E.cells x = ns.map iv) {t e : TypeId} {fs : Array Field} (ht : P.underlying t = some (.slice e)) (he : P.underlying e = some (.struct fs)) (hone : oneCellFields P fs = true)
    (hint : ∀ (i : Nat) (f : Field), fs[i]? = some f → P.underlying f.type = some (.int .i64)) (hC : P.cellsOf e = fs.size) (hsz : fs.size = E.sz) {v : Value} {d : DataW H} {ps : List MemPlace} {b0 : Nat} (hval : Value.okWide P W .any b0 t v) (h : DataW.Trod enc P W base spare held t v d ps) :
    ∃ A xs c, v = .slice A xs.length c ∧ xs.length ≤ c ∧ xs.length ≤ maxLen ∧ Sl E W A xs := by
  obtain ⟨A, len, cap, rfl⟩ := okWide_slice ht hval
  obtain ⟨fuel, hf⟩ := h
  rcases open_slice ht hf with ⟨hcs, _⟩ | ⟨a, len', cap', m, n, D, Pl, hcs, hb, hl, hm, hmm, hx, hi⟩
  · simp [Value.cells] at hcs
    obtain ⟨rfl, rfl, rfl⟩ := hcs
    exact ⟨none, [], 0, rfl, Nat.le_refl _, Nat.zero_le _, fun h => absurd rfl h⟩
  · simp [Value.cells] at hcs
    obtain ⟨rfl, rfl, rfl⟩ := hcs
    have hlm : len ≤ m := by rw [hmm]; split <;> omega
    have hex : ∀ k, k ≤ len → ∃ xs : List α, xs.length = k ∧ ∀ i x, xs[i]? = some x → ∀ j u, (E.cells x)[j]? = some u → W.cell? (a.add (i * E.sz + j)) = some u := by
      intro k
      induction k with
      | zero => intro _; exact ⟨[], rfl, fun i x h => by simp at h⟩
      | succ k ih =>
        intro hk
        obtain ⟨xs, hxl, hxc⟩ := ih (by omega)
        obtain ⟨cs', hc, ht'⟩ := hi k (by omega)
        obtain ⟨ns, hnl, rfl, hw⟩ := structInts he hone hint hC ht'
        obtain ⟨x, hxe⟩ := hE ns (hnl.trans hsz) hw
        obtain ⟨_, hcl, hat⟩ := World.cells?_some hc
        refine ⟨xs ++ [x], by simp [hxl], fun i y hy j u hu => ?_⟩
        by_cases hik : i < k
        · rw [List.getElem?_append_left (by omega)] at hy
          exact hxc i y hy j u hu
        · have hik' : i = k := by
            have := (List.getElem?_eq_some_iff.1 hy).1
            simp at this; omega
          subst hik'
          rw [List.getElem?_append_right (by omega), hxl, Nat.sub_self] at hy
          simp only [List.getElem?_cons_zero, Option.some.injEq] at hy
          subst hy
          have hj : j < E.sz := by have := (List.getElem?_eq_some_iff.1 hu).1; rw [E.len] at this; exact this
          have := hat j (by rw [hC, hsz]; exact hj)
          rw [hC, hsz, ← hxe, hu] at this
          rw [← this, Go.Deep.add_add]
    obtain ⟨xs, hxl, hxc⟩ := hex len (Nat.le_refl _)
    refine ⟨some a, xs, cap, by rw [hxl], by omega, by omega, fun hne => ?_⟩
    obtain ⟨ab, ao, spot⟩ := a
    obtain ⟨x0, hx0⟩ : ∃ x0, xs[0]? = some x0 := by
      cases xs with
      | nil => exact absurd rfl hne
      | cons x _ => exact ⟨x, rfl⟩
    have hpos := E.pos
    have hc0 := hxc 0 x0 hx0 0 _ (List.getElem?_eq_getElem (by rw [E.len]; exact hpos))
    have hspot : spot = none := by simpa [Addr.add] using World.cell?_spot hc0
    subst hspot
    refine ⟨ab, ao, rfl, ?_, fun i x hi' j u hu => ?_⟩
    · rw [Addr.add_lit] at hc0
      by_cases hlt : ab < W.heap.size
      · exact hlt
      · simp [World.cell?, Array.getElem?_eq_none (Nat.le_of_not_lt hlt)] at hc0
    · have := hxc i x hi' j u hu
      rw [Addr.add_lit, ← Nat.add_assoc] at this
      exact this
theorem openStruct {t : TypeId} {fs : Array Field} (he : P.underlying t = some (.struct fs)) (hone : oneCellFields P fs = true)
    (hint : ∀ (i : Nat) (f : Field), fs[i]? = some f → P.underlying f.type = some (.int .i64)) (hC : P.cellsOf t = fs.size) {v : Value} {d : DataW H} {ps : List MemPlace} {b0 : Nat} (hval : Value.okWide P W .any b0 t v) (h : DataW.Trod enc P W base spare held t v d ps) :
    ∃ ns : List Int, ns.length = fs.size ∧ v = .agg (ns.map iv).toArray ∧ ∀ n ∈ ns, (Lit.int .i64 n).wf = true := by
  obtain ⟨cs, rfl, _⟩ := okWide_struct he hval
  obtain ⟨fuel, hf⟩ := h
  obtain ⟨ns, h1, h2, h3⟩ := structInts he hone hint hC hf
  exact ⟨ns, h1, by rw [← h2]; simp [Value.cells], h3⟩
end
theorem ruleDec : ∀ ns : List Int, ns.length = 4 → (∀ n ∈ ns, (Lit.int .i64 n).wf = true) → ∃ x : Rule, ruleE.cells x = ns.map iv := by
  intro ns h _
  match ns, h with
  | [a, b, c, d], _ => exact ⟨⟨a, b, c, d⟩, rfl⟩
theorem pieceDec : ∀ ns : List Int, ns.length = 3 → (∀ n ∈ ns, (Lit.int .i64 n).wf = true) → ∃ x : Piece, pieceE.cells x = ns.map iv := by
  intro ns h _
  match ns, h with
  | [a, b, c], _ => exact ⟨⟨a, b, c⟩, rfl⟩
def isI64 : Option TypeDesc → Bool
  | some (.int .i64) => true
  | _ => false
theorem intFields {P : Program} {fs : Array Field} (h : (fs.toList.all fun (f : Field) => isI64 (P.underlying f.type)) = true) : ∀ (i : Nat) (f : Field), fs[i]? = some f → P.underlying f.type = some (.int .i64) := by
  intro i f hi
  have h1 := List.all_eq_true.1 h f (by have := Array.mem_of_getElem? hi; simpa using this)
  unfold isI64 at h1
  split at h1
  · assumption
  · cases h1
end Go.Proofs.Ytblmlpkjocbhpaa
