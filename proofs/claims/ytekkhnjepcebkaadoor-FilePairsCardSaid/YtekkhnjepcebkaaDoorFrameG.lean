/- What an argument of a law reads as: []string, string. No condition. -/
import Derived.Test.YtekkhnjepcebkaaDoorFrameF
import Derived.Test.YtekkhnjepcebkaaDoorFlA
import Derived.SliceStrings
import Derived.Test.YtekkhnjepcebkaaDoorFlP
import Derived.Test.YtekkhnjepcebkaaDoorFlR
import Derived.Deep.Slices
import Derived.Deep.Fields
set_option linter.unusedVariables false
set_option linter.unusedSimpArgs false
namespace Go.Proofs.YtekkhnjepcebkaaDoor
open Go.ChangeShapes Go.WideShapes Go.RowKit
theorem cellsStr : (Tryd.prog).cellsOf 9 = 1 := by kernel_rfl
set_option maxRecDepth 100000 in
theorem openStrs {H : Type} {enc : TypeId × Value → H} {W : World} {base : Nat} {v : Value} {d : DataW H} {ps : List MemPlace} (hval : Value.okWide Tryd.prog W .any base 22 v) (h : DataW.Trod enc Tryd.prog W 0 (fun _ => true) true 22 v d ps) :
    ∃ (A : Option Addr) (bs : List ByteArray) (c : Nat), v = .slice A bs.length c ∧ bs.length ≤ c ∧ bs.length ≤ maxLen ∧ Sl Fl.strE W A bs := by
  obtain ⟨A, len, cap, rfl⟩ := okWide_slice Tryd.underlying22 hval
  obtain ⟨fuel, hf⟩ := h
  rcases open_strings Tryd.underlying22 Tryd.underlying9 cellsStr hf with ⟨hcs, _⟩ | ⟨a, len', cap', zs, hcs, _, hl, hm, hz, _, hcell, _⟩
  · simp [Value.cells] at hcs
    obtain ⟨rfl, rfl, rfl⟩ := hcs
    exact ⟨none, [], 0, rfl, Nat.le_refl _, Nat.zero_le _, fun h => absurd rfl h⟩
  · simp [Value.cells] at hcs
    obtain ⟨rfl, rfl, rfl⟩ := hcs
    simp only [if_true] at hz
    refine ⟨some a, zs.take len, cap, by simp; omega, by simp; omega, by simp; omega, fun hne => ?_⟩
    obtain ⟨ab, ao, spot⟩ := a
    have h0 : 0 < zs.length := by
      cases zs with
      | nil => simp at hne
      | cons _ _ => simp
    have hspot : spot = none := by simpa [Addr.add] using World.cell?_spot (hcell 0 h0)
    subst hspot
    refine ⟨ab, ao, rfl, ?_, fun i x hi j u hu => ?_⟩
    · have := hcell 0 h0
      rw [Addr.add_lit] at this
      by_cases hlt : ab < W.heap.size
      · exact hlt
      · simp [World.cell?, Array.getElem?_eq_none (Nat.le_of_not_lt hlt)] at this
    · have hu' : j = 0 ∧ u = .string x := by
        match j, hu with
        | 0, hu => exact ⟨rfl, by simpa [Fl.strE] using hu.symm⟩
        | j + 1, hu => simp [Fl.strE] at hu
      obtain ⟨rfl, rfl⟩ := hu'
      have hil : i < zs.length := by have := (List.getElem?_eq_some_iff.1 hi).1; simp at this; omega
      have := hcell i hil
      rw [Addr.add_lit] at this
      have hx : zs.getD i ByteArray.empty = x := by
        rw [List.getElem?_take] at hi
        split at hi
        · simp [List.getD_eq_getElem?_getD, hi]
        · cases hi
      rw [hx] at this
      simpa [Fl.strE] using this
end Go.Proofs.YtekkhnjepcebkaaDoor
-- What an argument of a law reads as: [][]string, [][]int, slices of edits. No condition.
namespace Go.Proofs.YtekkhnjepcebkaaDoor
open Go.ChangeShapes Go.WideShapes Go.RowKit Go.Deep
section
variable {H : Type} {enc : TypeId × Value → H} {P : Program} {W : World} {base : Nat} {spare : Nat → Bool} {held : Bool}
set_option maxRecDepth 100000
theorem openG {α : Type} (E : Enc α) (Ok : α → Prop) {t e : TypeId} (hE : ∀ (fuel : Nat) (cs : List Value) (x : DataW H × List MemPlace), cs.length = E.sz → DataW.trod enc P W base spare held fuel e cs = some x → ∃ y : α, E.cells y = cs ∧ Ok y)
    (ht : P.underlying t = some (.slice e)) (hC : P.cellsOf e = E.sz) {fuel : Nat} {A : Option Addr} {len cap : Nat} {d : DataW H × List MemPlace} (hf : DataW.trod enc P W base spare held fuel t [.slice A len cap] = some d) :
    ∃ xs : List α, xs.length = len ∧ xs.length ≤ cap ∧ xs.length ≤ maxLen ∧ Sl E W A xs ∧ ∀ x ∈ xs, Ok x := by
  rcases open_slice ht hf with ⟨hcs, _⟩ | ⟨a, len', cap', m, n, D, Pl, hcs, hb, hl, hm, hmm, hx, hi⟩
  · simp at hcs
    obtain ⟨rfl, rfl, rfl⟩ := hcs
    exact ⟨[], rfl, Nat.le_refl _, Nat.zero_le _, fun h => absurd rfl h, fun _ h => by cases h⟩
  · simp at hcs
    obtain ⟨rfl, rfl, rfl⟩ := hcs
    have hlm : len ≤ m := by rw [hmm]; split <;> omega
    have hex : ∀ k, k ≤ len → ∃ xs : List α, xs.length = k ∧ (∀ i x, xs[i]? = some x → ∀ j u, (E.cells x)[j]? = some u → W.cell? (a.add (i * E.sz + j)) = some u) ∧ ∀ x ∈ xs, Ok x := by
      intro k
      induction k with
      | zero => intro _; exact ⟨[], rfl, fun i x h => by simp at h, fun _ h => by cases h⟩
      | succ k ih =>
        intro hk
        obtain ⟨xs, hxl, hxc, hxo⟩ := ih (by omega)
        obtain ⟨cs', hc, ht'⟩ := hi k (by omega)
        obtain ⟨_, hcl, hat⟩ := World.cells?_some hc
        obtain ⟨x, hxe, hok⟩ := hE n cs' _ (by rw [hcl, hC]) ht'
        refine ⟨xs ++ [x], by simp [hxl], fun i y hy j u hu => ?_, fun y hy => ?_⟩
        · by_cases hik : i < k
          · rw [List.getElem?_append_left (by omega)] at hy
            exact hxc i y hy j u hu
          · have hik' : i = k := by
              have := (List.getElem?_eq_some_iff.1 hy).1
              simp at this; omega
            subst hik'
            rw [List.getElem?_append_right (by omega), hxl, Nat.sub_self] at hy
            simp only [List.getElem?_cons_zero, Option.some.injEq] at hy
            subst hy
            have hj : j < E.sz := by have := (List.getElem?_eq_some_iff.1 hu).1; rw [E.len] at this; exact this
            have := hat j (by rw [hC]; exact hj)
            rw [hC, ← hxe, hu] at this
            rw [← this, Go.Deep.add_add]
        · rcases List.mem_append.1 hy with hy | hy
          · exact hxo y hy
          · simp at hy; subst hy; exact hok
    obtain ⟨xs, hxl, hxc, hxo⟩ := hex len (Nat.le_refl _)
    refine ⟨xs, hxl, by omega, by omega, fun hne => ?_, hxo⟩
    obtain ⟨ab, ao, spot⟩ := a
    obtain ⟨x0, hx0⟩ : ∃ x0, xs[0]? = some x0 := by
      cases xs with
      | nil => exact absurd rfl hne
      | cons x _ => exact ⟨x, rfl⟩
    have hpos := E.pos
    have hc0 := hxc 0 x0 hx0 0 _ (List.getElem?_eq_getElem (by rw [E.len]; exact hpos))
    have hspot : spot = none := by simpa [Addr.add] using World.cell?_spot hc0
    subst hspot
    refine ⟨ab, ao, rfl, ?_, fun i x hi' j u hu => ?_⟩
    · rw [Addr.add_lit] at hc0
      by_cases hlt : ab < W.heap.size
      · exact hlt
      · simp [World.cell?, Array.getElem?_eq_none (Nat.le_of_not_lt hlt)] at hc0
    · have := hxc i x hi' j u hu
      rw [Addr.add_lit, ← Nat.add_assoc] at this
      exact this
end
section
variable {H : Type} {enc : TypeId × Value → H} {W : World} {spare : Nat → Bool} {held : Bool} {b0 : Nat}
set_option maxRecDepth 100000
theorem str_cell (fuel : Nat) (cs : List Value) (x : DataW H × List MemPlace) (hl : cs.length = Fl.strE.sz) (h : DataW.trod enc Tryd.prog W b0 spare held fuel 9 cs = some x) : ∃ y : ByteArray, Fl.strE.cells y = cs ∧ True := by
  cases fuel with
  | zero => simp [DataW.trod] at h
  | succ n =>
    unfold DataW.trod at h
    rw [Tryd.underlying9] at h
    match cs, hl with
    | [u], _ =>
      cases u <;> simp at h
      exact ⟨_, rfl, trivial⟩
theorem int_cell (fuel : Nat) (cs : List Value) (x : DataW H × List MemPlace) (hl : cs.length = intE.sz) (h : DataW.trod enc Tryd.prog W b0 spare held fuel 3 cs = some x) : ∃ y : Int, intE.cells y = cs ∧ True := by
  obtain ⟨n, rfl, _, _⟩ := DataW.trod_int Tryd.underlying3 h
  exact ⟨n, rfl, trivial⟩
theorem slice_cell {t e : TypeId} (ht : (Tryd.prog).underlying t = some (.slice e)) {fuel : Nat} {u : Value} {x : DataW H × List MemPlace} (h : DataW.trod enc Tryd.prog W b0 spare held fuel t [u] = some x) : ∃ A n c, u = .slice A n c := by
  rcases open_slice ht h with ⟨hcs, _⟩ | ⟨a, len', cap', m, n, D, Pl, hcs, _⟩
  · simp at hcs; exact ⟨_, _, _, hcs⟩
  · simp at hcs; exact ⟨_, _, _, hcs⟩
theorem strs_cell {fuel : Nat} {A : Option Addr} {n c : Nat} {x : DataW H × List MemPlace} (h : DataW.trod enc Tryd.prog W b0 spare held fuel 22 [.slice A n c] = some x) : ∃ xs : List ByteArray, xs.length = n ∧ xs.length ≤ c ∧ xs.length ≤ maxLen ∧ Sl Fl.strE W A xs := by
  obtain ⟨xs, h1, h2, h3, h4, _⟩ := openG Fl.strE (fun _ => True) (e := 9) str_cell Tryd.underlying22 cellsStr h
  exact ⟨xs, h1, h2, h3, h4⟩
theorem cellsInt : (Tryd.prog).cellsOf 3 = 1 := by kernel_rfl
theorem cellsStrs : (Tryd.prog).cellsOf 22 = 1 := by kernel_rfl
theorem ints_cell {fuel : Nat} {A : Option Addr} {n c : Nat} {x : DataW H × List MemPlace} (h : DataW.trod enc Tryd.prog W b0 spare held fuel 26 [.slice A n c] = some x) : ∃ xs : List Int, xs.length = n ∧ xs.length ≤ c ∧ xs.length ≤ maxLen ∧ Sl intE W A xs := by
  obtain ⟨xs, h1, h2, h3, h4, _⟩ := openG intE (fun _ => True) (e := 3) int_cell Tryd.underlying26 cellsInt h
  exact ⟨xs, h1, h2, h3, h4⟩
theorem rowS_cell (fuel : Nat) (cs : List Value) (x : DataW H × List MemPlace) (hl : cs.length = (Fl.rwE ByteArray).sz) (h : DataW.trod enc Tryd.prog W b0 spare held fuel 22 cs = some x) : ∃ y : Fl.Rw ByteArray, (Fl.rwE ByteArray).cells y = cs ∧ (Sl Fl.strE W y.A y.xs ∧ y.xs.length ≤ y.c ∧ y.xs.length ≤ maxLen) := by
  match cs, hl with
  | [u], _ =>
    obtain ⟨A, n, c, rfl⟩ := slice_cell Tryd.underlying22 h
    obtain ⟨xs, rfl, h2, h3, h4⟩ := strs_cell h
    exact ⟨⟨A, c, xs⟩, rfl, h4, h2, h3⟩
theorem openRowsS {v : Value} {d : DataW H} {ps : List MemPlace} {b1 : Nat} (hval : Value.okWide Tryd.prog W .any b1 50 v) (h : DataW.Trod enc Tryd.prog W b0 spare held 50 v d ps) :
    ∃ (A : Option Addr) (rs : List (Fl.Rw ByteArray)) (c : Nat), v = .slice A rs.length c ∧ rs.length ≤ c ∧ rs.length ≤ maxLen ∧ Sl (Fl.rwE ByteArray) W A rs ∧ Fl.RowsR Fl.strE W rs ∧ ∀ r ∈ rs, r.xs.length ≤ maxLen := by
  obtain ⟨A, len, cap, rfl⟩ := okWide_slice Tryd.underlying50 hval
  obtain ⟨fuel, hf⟩ := h
  obtain ⟨rs, rfl, h2, h3, h4, h5⟩ := openG (Fl.rwE ByteArray) _ (e := 22) rowS_cell Tryd.underlying50 cellsStrs hf
  exact ⟨A, rs, cap, rfl, h2, h3, h4, fun r hr => ⟨(h5 r hr).1, (h5 r hr).2.1⟩, fun r hr => (h5 r hr).2.2⟩
theorem cellsInts : (Tryd.prog).cellsOf 26 = 1 := by kernel_rfl
theorem rowI_cell (fuel : Nat) (cs : List Value) (x : DataW H × List MemPlace) (hl : cs.length = (Fl.rwE Int).sz) (h : DataW.trod enc Tryd.prog W b0 spare held fuel 26 cs = some x) : ∃ y : Fl.Rw Int, (Fl.rwE Int).cells y = cs ∧ (Sl intE W y.A y.xs ∧ y.xs.length ≤ y.c ∧ y.xs.length ≤ maxLen) := by
  match cs, hl with
  | [u], _ =>
    obtain ⟨A, n, c, rfl⟩ := slice_cell Tryd.underlying26 h
    obtain ⟨xs, rfl, h2, h3, h4⟩ := ints_cell h
    exact ⟨⟨A, c, xs⟩, rfl, h4, h2, h3⟩
theorem openRowsI {v : Value} {d : DataW H} {ps : List MemPlace} {b1 : Nat} (hval : Value.okWide Tryd.prog W .any b1 23 v) (h : DataW.Trod enc Tryd.prog W b0 spare held 23 v d ps) :
    ∃ (A : Option Addr) (rs : List (Fl.Rw Int)) (c : Nat), v = .slice A rs.length c ∧ rs.length ≤ c ∧ rs.length ≤ maxLen ∧ Sl (Fl.rwE Int) W A rs ∧ Fl.RowsR intE W rs ∧ ∀ r ∈ rs, r.xs.length ≤ maxLen := by
  obtain ⟨A, len, cap, rfl⟩ := okWide_slice Tryd.underlying23 hval
  obtain ⟨fuel, hf⟩ := h
  obtain ⟨rs, rfl, h2, h3, h4, h5⟩ := openG (Fl.rwE Int) _ (e := 26) rowI_cell Tryd.underlying23 cellsInts hf
  exact ⟨A, rs, cap, rfl, h2, h3, h4, fun r hr => ⟨(h5 r hr).1, (h5 r hr).2.1⟩, fun r hr => (h5 r hr).2.2⟩
theorem cellsEd : (Tryd.prog).cellsOf 69 = 3 := by kernel_rfl
theorem ed_cell (fuel : Nat) (cs : List Value) (x : DataW H × List MemPlace) (hl : cs.length = Fl.edE.sz) (h : DataW.trod enc Tryd.prog W b0 spare held fuel 69 cs = some x) : ∃ y : Fl.EdV, Fl.edE.cells y = cs ∧ (Fl.EdOk W y ∧ y.old.length ≤ maxLen ∧ y.new.length ≤ maxLen) := by
  match cs, hl with
  | [u0, u1, u2], _ =>
    obtain ⟨ys, n', _, _, hlen, hyl, hf⟩ := DataW.trod_struct Tryd.underlying69 h
    match ys, hyl with
    | [y0, y1, y2], _ =>
      have g0 := hf 0 _ rfl
      have g1 := hf 1 _ rfl
      have g2 := hf 2 _ rfl
      have g0 : DataW.trod enc Tryd.prog W b0 spare held n' 3 (List.take ((Tryd.prog).cellsOf 3) [u0, u1, u2]) = some y0 := g0
      have g1 : DataW.trod enc Tryd.prog W b0 spare held n' 22 (List.take ((Tryd.prog).cellsOf 22) [u1, u2]) = some y1 := g1
      have g2 : DataW.trod enc Tryd.prog W b0 spare held n' 22 (List.take ((Tryd.prog).cellsOf 22) [u2]) = some y2 := g2
      rw [cellsInt] at g0
      rw [cellsStrs] at g1 g2
      have g0 : DataW.trod enc Tryd.prog W b0 spare held n' 3 [u0] = some y0 := g0
      have g1 : DataW.trod enc Tryd.prog W b0 spare held n' 22 [u1] = some y1 := g1
      have g2 : DataW.trod enc Tryd.prog W b0 spare held n' 22 [u2] = some y2 := g2
      obtain ⟨a, ha, _, _⟩ := DataW.trod_int Tryd.underlying3 g0
      obtain ⟨A1, n1, c1, rfl⟩ := slice_cell Tryd.underlying22 g1
      obtain ⟨A2, n2, c2, rfl⟩ := slice_cell Tryd.underlying22 g2
      obtain ⟨xs, rfl, p2, p3, p4⟩ := strs_cell g1
      obtain ⟨ys', rfl, r2, r3, r4⟩ := strs_cell g2
      have ha : u0 = iv a := by simpa using ha
      subst ha
      exact ⟨⟨a, A1, c1, xs, A2, c2, ys'⟩, rfl, ⟨p4, r4, p2, r2⟩, p3, r3⟩
theorem openEds {v : Value} {d : DataW H} {ps : List MemPlace} {b1 : Nat} (hval : Value.okWide Tryd.prog W .any b1 61 v) (h : DataW.Trod enc Tryd.prog W b0 spare held 61 v d ps) :
    ∃ (A : Option Addr) (vs : List Fl.EdV) (c : Nat), v = .slice A vs.length c ∧ vs.length ≤ c ∧ vs.length ≤ maxLen ∧ Sl Fl.edE W A vs ∧ ∀ r ∈ vs, Fl.EdOk W r ∧ r.old.length ≤ maxLen ∧ r.new.length ≤ maxLen := by
  obtain ⟨A, len, cap, rfl⟩ := okWide_slice Tryd.underlying61 hval
  obtain ⟨fuel, hf⟩ := h
  obtain ⟨vs, rfl, h2, h3, h4, h5⟩ := openG Fl.edE _ (e := 69) ed_cell Tryd.underlying61 cellsEd hf
  exact ⟨A, vs, cap, rfl, h2, h3, h4, h5⟩
end
end Go.Proofs.YtekkhnjepcebkaaDoor
