/- A map from int to int that the call made: its keys as a list. No condition. -/
import Derived.Test.YtkailkfiakagfaaGreatMem
import Derived.Maps.Own
import Derived.Maps.OwnOps
import Derived.Maps.OwnSet
set_option linter.unusedVariables false
set_option linter.unusedSimpArgs false
namespace Go.Proofs.YtkailkfiakagfaaGreat
open Go.RowKit Go.Maps

/-- Block b is a map of at most n entries, whose keys are ds. -/
def MapKeys (P : Program) (t : TypeId) (w : World) (b n : Nat) (ds : List Int) (D : DataW Unit) : Prop :=
  w.ownsMap P t (plainElem P t) b n D ∧ Tidy D ∧ (∀ x, has D (.int .i64 x) = ds.contains x) ∧ size D = ds.length
def addNew (ds : List Int) (x : Int) : List Int := if ds.contains x then ds else ds ++ [x]
section
variable {P : Program} {t : TypeId} {w w' : World} {b n : Nat} {ds : List Int} {D : DataW Unit}
theorem MapKeys.made : MapKeys P t (w.alloc (.map #[] 0)) w.heap.size 0 [] (.map []) := ⟨World.ownsMap_made _ _ _ _, tidy_empty, fun _ => rfl, rfl⟩
theorem MapKeys.below (h : MapKeys P t w b n ds D) (hb : Below w.heap.size w w') : MapKeys P t w' b n ds D :=
  ⟨h.1.kept (row := none) ⟨hb.os, hb.tape, hb.output, hb.size, fun k hk _ => hb.block k hk⟩ (by simp), h.2⟩
theorem grownBy_trans {row : Option Nat} {w0 w1 w2 : World} (h : w0.grownBy w1 row) (h' : w1.grownBy w2 row) : w0.grownBy w2 row :=
  ⟨h'.os.trans h.os, h'.tape.trans h.tape, h'.output.trans h.output, Nat.le_trans h.size h'.size, fun k hk hr => (h'.block k (Nat.lt_of_lt_of_le hk h.size) hr).trans (h.block k hk hr)⟩
theorem MapKeys.block (h : MapKeys P t w b n ds D) : ∃ es ck, w.heap[b]? = some (.map es ck) := by
  obtain ⟨⟨es, ck, hh, _⟩, _⟩ := h
  exact ⟨es, ck, hh⟩
theorem Sl.grownMap {α : Type} {E : Enc α} {A : Option Addr} {xs : List α} (h : Sl E w A xs) (hm : MapKeys P t w b n ds D) (hg : w.grownBy w' (some b)) : Sl E w' A xs := fun hx => by
  obtain ⟨g, off, hA, hb, hc⟩ := h hx
  obtain ⟨es, ck, hh⟩ := hm.block
  refine ⟨g, off, hA, Nat.lt_of_lt_of_le hb hg.size, fun i x hi j u hu => ?_⟩
  have h1 := hc i x hi j u hu
  refine hg.cell h1 ?_
  intro e
  injection e with e
  simp only at e
  subst e
  simp [World.cell?, hh] at h1
theorem isKeyInt {x : Int} (hw : (Lit.int .i64 x).wf = true) : WideAt.IsKeyLit (.int .i64 x) := by
  first | exact .inl ⟨_, _, rfl⟩ | simp [WideAt.IsKeyLit] | trivial
theorem MapKeys.put {x : Int} {d : DataW Unit} (h : MapKeys P t w b n ds D) (hw : (Lit.int .i64 x).wf = true) (h' : w'.ownsMap P t (plainElem P t) b (n + 1) (D.put (.int .i64 x) d)) :
    MapKeys P t w' b (n + 1) (addNew ds x) (D.put (.int .i64 x) d) := by
  obtain ⟨_, ht, hh, hs⟩ := h
  have hk := isKeyInt hw
  refine ⟨h', ht.put hk d, fun y => ?_, ?_⟩
  · by_cases hy : y = x
    · subst hy
      rw [has_put_same ht.isMap hk]
      unfold addNew
      split
      · rename_i h; exact h.symm
      · simp
    · rw [has_put_other (by intro e; injection e with _ e; exact hy e), hh]
      unfold addNew
      split
      · rfl
      · have : (x == y) = false := by simp; exact fun e => hy e.symm
        simp [this, hy]
  · rw [size_put ht, hh, hs]
    unfold addNew
    split <;> simp
end
end Go.Proofs.YtkailkfiakagfaaGreat
