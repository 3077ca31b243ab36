/- slices.Clone and petershamkit.Dup of lines; edits as the program holds them. Condition: lengths are below a great bound. -/
import Derived.Test.YtekkhnjepcebkaaGreatDoorFlL
import Derived.Test.YtekkhnjepcebkaaGreatDoorFileDiff
import Derived.Lib.SliceRun
set_option linter.unusedVariables false
set_option linter.unusedSimpArgs false
namespace Go.Proofs.YtekkhnjepcebkaaGreatDoor
namespace Fl
open Go.RowKit Go.ChangeShapes
set_option maxRecDepth 100000
theorem cloneS (A : Option Addr) (l : List ByteArray) (c : Nat) (w : World) (hm : l.length ≤ big) (hs : Sl strE w A l) :
    Calls Tryz.prog 70 #[.slice A l.length c] w fun e w' => ∃ v, e = .returned v ∧ Own strE 9 w.heap.size w' v l ∧ Below w.heap.size w w' := by
  cases A with
  | none =>
    have hl : l = [] := by
      by_cases h : l = []
      · exact h
      · obtain ⟨_, _, h, _⟩ := hs h; cases h
    subst hl
    have hnil := fun w => Lib.run_eql_slice_nil (P := Tryz.prog) w 22 9 none 0 c 0 0 Tryz.underlying22
    go_enter Tryz.func70, Tryz.ntmps70
    go_wp2
    go_ret
    exact ⟨_, rfl, Own.nil, Below.refl _ _⟩
  | some ad =>
    have hnil := fun w => Lib.run_eql_slice_nil (P := Tryz.prog) w 22 9 (some ad) l.length c 0 0 Tryz.underlying22
    go_enter Tryz.func70, Tryz.ntmps70
    go_wp2_with (at_builtin; refine wpAppS strE tyStrs rfl _ _ rfl (Own.empty (Nat.le_refl _)) (hs.alloc _) rfl rfl (by simp) (by simpa using hm) ?_; intro v1 w1 hown1 hb1 _)
    go_ret
    exact ⟨_, rfl, by simpa using hown1, ((Below.refl _ _).alloc (Nat.le_refl _) _).trans hb1⟩
theorem dupS (A : Option Addr) (l : List ByteArray) (c : Nat) (w : World) (hm : l.length ≤ big) (hs : Sl strE w A l) :
    Calls Tryz.prog 11 #[.slice A l.length c] w fun e w' => ∃ v, e = .returned v ∧ Own strE 9 w.heap.size w' v l ∧ Below w.heap.size w w' := by
  go_enter Tryz.func11, Tryz.ntmps11
  go_wp2_with (first
    | (at_make; refine wpMake0 strE tyStrs rfl _ _ rfl l.length rfl rfl hm ?_; intro w1 hown1 hb1)
    | (at_builtin; refine wpAppS strE tyStrs rfl _ _ rfl hown1 (hs.below hb1) rfl rfl hb1.size (by simpa using hm) ?_; intro v2 w2 hown2 hb2 _))
  go_ret
  exact ⟨_, rfl, by simpa using hown2, hb1.trans hb2⟩
/-- An edit's cells. -/
structure RawEd where
  at_ : Int
  A : Option Addr
  n : Nat
  c : Nat
  A' : Option Addr
  n' : Nat
  c' : Nat
def rawE : Enc RawEd := ⟨fun r => [iv r.at_, .slice r.A r.n r.c, .slice r.A' r.n' r.c'], 3, fun _ => rfl, fun _ u h => by simp at h; rcases h with rfl | rfl | rfl <;> rfl, by decide⟩
theorem tyEdits : SlTy Tryz.prog 44 53 3 := slTy_of (z := .agg #[iv 0, .slice none 0 0, .slice none 0 0]) (bytes := 56) Tryz.underlying44 (by kernel_rfl) rfl (by decide)
/-- The cells r read as the edit x, whose lists are the call's own: their blocks lie from B on. -/
structure EdR (B : Nat) (w : World) (r : RawEd) (x : File.Edit ByteArray) : Prop where
  at_ : r.at_ = x.at_
  n : r.n = x.old.length
  n' : r.n' = x.new.length
  old : Own strE 9 B w (.slice r.A r.n r.c) x.old
  new : Own strE 9 B w (.slice r.A' r.n' r.c') x.new
/-- What leaves the blocks of strings from B on as they were. -/
def Strs (B : Nat) (w w' : World) : Prop := w.heap.size ≤ w'.heap.size ∧ ∀ g cs fr, B ≤ g → w.heap[g]? = some (.cells cs 9 fr) → w'.heap[g]? = w.heap[g]?
theorem Strs.below {B : Nat} {w w' : World} (h : Below w.heap.size w w') : Strs B w w' := ⟨h.size, fun g cs fr _ hg => h.block g (Array.getElem?_eq_some_iff.1 hg).1⟩
theorem Strs.own {B : Nat} {w w' : World} {v : Value} {xs : List ByteArray} (h : Strs B w w') (ho : Own strE 9 B w v xs) : Own strE 9 B w' v xs :=
  ho.keep h.1 fun b hb => by
    have hl := ho.lt b hb
    rcases ho.2 with ⟨rfl, _⟩ | ⟨g, cap, cur, rfl, hg, hc, _⟩
    · cases hb
    · simp only [Value.ownBlock, Option.some.injEq] at hb
      subst hb
      exact h.2 _ _ _ hl.1 hc
theorem EdR.keep {B : Nat} {w w' : World} {r : RawEd} {x : File.Edit ByteArray} (h : EdR B w r x) (hb : Strs B w w') : EdR B w' r x := ⟨h.at_, h.n, h.n', hb.own h.old, hb.own h.new⟩
theorem EdR.base {B B' : Nat} {w : World} {r : RawEd} {x : File.Edit ByteArray} (h : EdR B w r x) (hB : B' ≤ B) : EdR B' w r x := ⟨h.at_, h.n, h.n', h.old.base hB, h.new.base hB⟩
/-- A list of cells reads as a change. -/
def EdsR (B : Nat) (w : World) : List RawEd → List (File.Edit ByteArray) → Prop
  | [], [] => True
  | r :: rs, x :: xs => EdR B w r x ∧ EdsR B w rs xs
  | _, _ => False
theorem EdsR.keep {B : Nat} {w w' : World} (hb : Strs B w w') : ∀ {rs : List RawEd} {xs : List (File.Edit ByteArray)}, EdsR B w rs xs → EdsR B w' rs xs
  | [], [], _ => trivial
  | _ :: _, _ :: _, h => ⟨h.1.keep hb, EdsR.keep hb h.2⟩
theorem EdsR.base {B B' : Nat} {w : World} (hB : B' ≤ B) : ∀ {rs : List RawEd} {xs : List (File.Edit ByteArray)}, EdsR B w rs xs → EdsR B' w rs xs
  | [], [], _ => trivial
  | _ :: _, _ :: _, h => ⟨h.1.base hB, EdsR.base hB h.2⟩
theorem EdsR.snoc {B : Nat} {w : World} {r : RawEd} {x : File.Edit ByteArray} (h : EdR B w r x) : ∀ {rs : List RawEd} {xs : List (File.Edit ByteArray)}, EdsR B w rs xs → EdsR B w (rs ++ [r]) (xs ++ [x])
  | [], [], _ => ⟨h, trivial⟩
  | _ :: _, _ :: _, k => ⟨k.1, EdsR.snoc h k.2⟩
theorem EdsR.length {B : Nat} {w : World} : ∀ {rs : List RawEd} {xs : List (File.Edit ByteArray)}, EdsR B w rs xs → rs.length = xs.length
  | [], [], _ => rfl
  | _ :: _, _ :: _, h => by rw [List.length_cons, List.length_cons, EdsR.length h.2]
theorem EdsR.at_ {B : Nat} {w : World} : ∀ {rs : List RawEd} {xs : List (File.Edit ByteArray)} {k : Nat} {r : RawEd}, EdsR B w rs xs → rs[k]? = some r → ∃ x, xs[k]? = some x ∧ EdR B w r x
  | [], [], _, _, _, h => by simp at h
  | r :: _, x :: _, 0, _, h, e => by simp at e; subst e; exact ⟨x, rfl, h.1⟩
  | _ :: _, _ :: _, k + 1, _, h, e => by simpa using EdsR.at_ (k := k) h.2 (by simpa using e)
end Fl
end Go.Proofs.YtekkhnjepcebkaaGreatDoor
