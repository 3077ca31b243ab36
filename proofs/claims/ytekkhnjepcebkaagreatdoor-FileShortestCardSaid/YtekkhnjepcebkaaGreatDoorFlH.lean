/- Package file: where lines are, and the longest common pairs. Conditions: files that are right. -/
import Derived.Test.YtekkhnjepcebkaaGreatDoorFlG
import Derived.Maps.OwnRows
import Derived.Maps.GroupsBeside
import Derived.Deep.RegionHeld3
set_option linter.unusedVariables false
set_option linter.unusedSimpArgs false
namespace Go.Proofs.YtekkhnjepcebkaaGreatDoor
namespace Fl
open Go.RowKit Go.Maps Go.WideMaps Go.ChangeShapes
set_option maxRecDepth 100000
theorem both_spec (A : Option Addr) (a : List ByteArray) (c : Nat) (A' : Option Addr) (b : List ByteArray) (c' : Nat) (w : World) (ha : a.length ≤ big) (hb : b.length ≤ big) (hsa : Sl strE w A a) (hsb : Sl strE w A' b) :
    Calls Tryz.prog 81 #[.slice A a.length c, .slice A' b.length c'] w fun e w' => e = .returned (iv (if File.check a = 0 then File.check b else File.check a)) ∧ Below w.heap.size w w' := by
  have HA := Lib.hid (check_spec A a c w ha hsa)
  by_cases h : File.check a = 0
  · rw [if_pos h]
    rw [h] at HA
    clear h
    go_enter Tryz.func81, Tryz.ntmps81
    go_wp2_with fail
    refine HA.out.mono ?_
    rintro e w1 ⟨rfl, hb1⟩
    have HB := Lib.hid (check_spec A' b c' w1 hb (hsb.below hb1))
    go_wp2_with fail
    refine HB.out.mono ?_
    rintro e w2 ⟨rfl, hb2⟩
    go_wp2_with fail
    go_ret
    exact ⟨rfl, hb1.next hb2 (Nat.le_refl _)⟩
  · rw [if_neg h]
    have hne : (File.check a != 0) = true := by simpa using h
    clear h
    go_enter Tryz.func81, Tryz.ntmps81
    go_wp2_with fail
    refine HA.out.mono ?_
    rintro e w1 ⟨rfl, hb1⟩
    go_wp2_with fail
    go_ret
    exact ⟨rfl, hb1⟩
theorem laws : Keyed Tryz.prog 9 := string_keyed Tryz.underlying9
theorem key_str {s : ByteArray} (h : s.size ≤ maxLen) : keyOf Tryz.prog 9 (.string s) = some (.string s.data.toList) := keyOf_string_mk Tryz.underlying9 h
theorem zeroInts (w : World) : (zeroValue 33).run Tryz.prog w = .ok (.slice none 0 0) w := by kernel_rfl
/-- How a group reads. -/
def Reads (l : List Int) (d : DataW Unit) : Prop := (d = .nil ∧ l = []) ∨ d = .slice (lits .i64 l) []
/-- The places of a line. -/
def posOf (s : ByteArray) : List ByteArray → Nat → List Int
  | [], _ => []
  | x :: l, i => if x = s then (i : Int) :: posOf s l (i + 1) else posOf s l (i + 1)
/-- Block m says where the lines of l are; the places lie from B on. -/
def Where (w : World) (m B : Nat) (l : List ByteArray) : Prop := ∃ (n : Nat) (D : DataW Unit), n ≤ l.length ∧ w.ownsGroups (H := Unit) Tryz.prog 9 B 3 .i64 m n D ∧ ∀ s : ByteArray, s.size ≤ maxLen → Reads (posOf s l 0) (D.atKey (.string s.data.toList) .nil)
theorem Where.below {w w' : World} {m B : Nat} {l : List ByteArray} (h : Where w m B l) (hb : Below w.heap.size w w') : Where w' m B l := by
  obtain ⟨n, D, h1, h2, h3⟩ := h
  have hg : w.grownBy w' none := ⟨hb.os, hb.tape, hb.output, hb.size, fun k hk _ => hb.block k hk⟩
  exact ⟨n, D, h1, h2.kept hg (by simp) (h2.rowsAbove (by simp)), h3⟩
theorem where_nil (w : World) (o : Obj) : Where ((w.alloc (.map #[] 0)).alloc o) w.heap.size (w.heap.size + 2) [] := by
  refine ⟨0, .map [], Nat.le_refl _, ?_, fun s _ => .inl ⟨rfl, rfl⟩⟩
  refine ⟨#[], 0, ?_, ⟨by simp, Go.MapKept.stamped_empty 0, by simp⟩, Nat.le_refl _, rfl, by omega, by simp, by simp⟩
  rw [Below.heap_alloc _ _ _ (by simp), (MapKept.heap_alloc w _).1]
theorem posOf_snoc (s x : ByteArray) : ∀ (l : List ByteArray) (i : Nat), posOf s (l ++ [x]) i = posOf s l i ++ (if x = s then [((i + l.length : Nat) : Int)] else []) := by
  intro l
  induction l with
  | nil => intro i; simp [posOf]
  | cons y l ih =>
    intro i
    simp only [List.cons_append, posOf, ih, List.length_cons]
    rw [show i + 1 + l.length = i + (l.length + 1) by omega]
    split <;> simp
theorem Reads.unique {l l' : List Int} {d : DataW Unit} (h : Reads l d) (h' : Reads l' d) : l = l' := by
  rcases h with ⟨rfl, rfl⟩ | rfl
  · rcases h' with ⟨_, rfl⟩ | h'
    · rfl
    · cases h'
  · rcases h' with ⟨h', _⟩ | h'
    · cases h'
    · injection h' with h'
      unfold lits at h'
      revert h'
      induction l generalizing l' with
      | nil => intro h; cases l' with
        | nil => rfl
        | cons _ _ => simp at h
      | cons y l ih => intro h; cases l' with
        | nil => simp at h
        | cons y' l' =>
          simp only [List.map_cons, List.cons.injEq] at h
          obtain ⟨h1, h2⟩ := h
          rw [ih h2]
          congr 1
          injection h1 with h1
          injection h1
theorem reads_of {w : World} {base : Nat} {v : Value} {zs : List Int} (h : w.ownsInts base 3 .i64 v zs) : Reads zs (rowDatum (H := Unit) .i64 v zs) := by
  rcases h.datum (H := Unit) with ⟨h1, h2⟩ | h1
  · exact .inl ⟨h1, h2⟩
  · exact .inr h1
section
variable {ops : Array Oper} {o : Oper} {a : Act} {K : Act → World → Prop} {Q : Exit → Act → World → Prop} {E' : Prop} {w : World}
/-- What where[s] gives, if v is read. -/
structure Look (w : World) (ob : Obj) (m B n : Nat) (D : DataW Unit) (s : ByteArray) (v : Value) (zs : List Int) : Prop where
  at_ : D.atKey (.string s.data.toList) .nil = rowDatum .i64 v zs
  own : (w.alloc ob).ownsInts B 3 .i64 v zs
  len : zs.length ≤ n
  back : (w.alloc ob).groupBack Tryz.prog 207 9 B 3 .i64 m n D (.string s) (.string s.data.toList) v
/-- where[s] in a world and behind one new block. -/
theorem look_both {m B n : Nat} {D : DataW Unit} (ob : Obj) (hown : w.ownsGroups (H := Unit) Tryz.prog 9 B 3 .i64 m n D) (hn : n < maxLen) {s : ByteArray} (hs : s.size ≤ maxLen) :
    ∃ v zs v2 zs2, (Instr.lookup 207 (.map (some m)) (.string s) false).run Tryz.prog w = .ok v w ∧ (Instr.lookup 207 (.map (some m)) (.string s) false).run Tryz.prog (w.alloc ob) = .ok v2 (w.alloc ob) ∧ Look w ob m B n D s v zs ∧ Look w ob m B n D s v2 zs2 := by
  have hown' : (w.alloc ob).ownsGroups (H := Unit) Tryz.prog 9 B 3 .i64 m n D := hown.kept (World.grownBy_alloc w ob none) (by simp) (hown.rowsAbove (by simp))
  obtain ⟨v, zs, hrun, hat, hoi, hzl, hback⟩ := hown.at laws Tryz.underlying207 (zeroInts _) hn (key_str hs)
  obtain ⟨v2, zs2, hrun2, hat2, hoi2, hzl2, hback2⟩ := hown'.at laws Tryz.underlying207 (zeroInts _) hn (key_str hs)
  refine ⟨v, zs, v2, zs2, hrun, hrun2, ⟨hat, hoi.alloc _, hzl, fun w1 v' zs' hg h1 h2 h3 => hback w1 v' zs' ((World.grownBy_alloc _ _ _).trans hg) h1 h2 (h3.imp id ?_)⟩, ⟨hat2, hoi2, hzl2, hback2⟩⟩
  rintro ⟨g, h4, h5⟩
  exact ⟨g, h4, by simp at h5; omega⟩
theorem info_int : (Tryz.prog.info? 3).map (fun i => (i.zero, i.size, i.bytes)) = some (some (.int .i64 0), 1, 8) := by kernel_rfl
/-- append(where[s], j) at such a step. -/
theorem stepAppW {W : World} (hgd : o.guard = none) (s x : Operand) (ho : o.op = .call { callee := .builtin .append, args := #[s, x], argTypes := #[33, 33] }) {B : Nat} {v : Value} {zs : List Int} (j : Nat) (hj : j < 1000)
    (hW : W = w.alloc (.cells #[iv j] 3)) (hown : W.ownsInts B 3 .i64 v zs) (hz : zs.length < 1000) (hs : a.eval s = v) {G : Nat} (hG : G = w.heap.size) (hx : a.eval x = .slice (some ⟨G, 0, none⟩) 1 1) (hB : B ≤ w.heap.size)
    (h : ∀ v' w', w'.ownsInts B 3 .i64 v' (zs ++ [(j : Int)]) → W.grownBy w' v.ownBlock → (v'.ownBlock = v.ownBlock ∨ ∃ g, v'.ownBlock = some g ∧ W.heap.size ≤ g) → K (a.put o.dst v') w') :
    if Region.wanted o (yielded ops a.tmps) = true then Oper.wp Tryz.prog o a W K Q else E' := by
  subst hW hG
  have hw : Region.wanted o (yielded ops a.tmps) = true := by simp [Region.wanted, hgd]
  rw [if_pos hw]
  obtain ⟨i0, hi, hz0, hz1, hz2⟩ := info_parts info_int
  obtain ⟨v', w', hr, h2, h3, h4, h5⟩ := run_append_own_at (P := Tryz.prog) (w.alloc (.cells #[iv j] 3)) B 33 o.type 3 i0 (.int .i64 0) 1 8 Tryz.underlying33 hi hz0 hz1 hz2 rfl (by decide) v zs.length (zs.map (Value.int .i64)) hown.1 ⟨w.heap.size, 0, none⟩ 1 1 [iv j] rfl (cell_one_new _ _ _) (ints_oneCell .i64 [(j : Int)]) (by unfold maxLen; omega) (by omega) (by simp; omega)
  unfold Oper.wp execOp
  simp only [ho, resolve, invoke, builtin, Sem.run_bind, Sem.run_pure, Result.andThen_ok, List.map_toArray, List.map_cons, List.map_nil, hs, hx, hr]
  exact h v' w' (hown.appended h2 (by have h1 : IntKind.i64.min = -9223372036854775808 := rfl; have h2 : IntKind.i64.max = 9223372036854775807 := rfl; simp only [Lit.wf, Bool.and_eq_true, decide_eq_true_eq, h1, h2]; omega)) h3 (h5.imp id fun h => ⟨_, h, Nat.le_refl _⟩)
end
/-- What a round of the loop leaves. -/
theorem where_snoc {w w1 w2 : World} {m B n : Nat} {D : DataW Unit} {l : List ByteArray} {s : ByteArray} {v v' : Value} {zs : List Int} {j : Nat} (hj : l.length = j) (hn : n ≤ l.length) (hD : IsMap D)
    (hr : ∀ s : ByteArray, s.size ≤ maxLen → Reads (posOf s l 0) (D.atKey (.string s.data.toList) .nil)) (hs : s.size ≤ maxLen)
    (hat : D.atKey (.string s.data.toList) .nil = rowDatum .i64 v zs) (hoi : w.ownsInts B 3 .i64 v zs) (hoi' : w1.ownsInts B 3 .i64 v' (zs ++ [(j : Int)]))
    (hg : w2.ownsGroups Tryz.prog 9 B 3 .i64 m (n + 1) (D.put (.string s.data.toList) (rowDatum .i64 v' (zs ++ [(j : Int)])))) : Where w2 m B (l ++ [s]) := by
  subst hj
  refine ⟨n + 1, _, by simp; omega, hg, fun s' hs' => ?_⟩
  rw [posOf_snoc]
  by_cases h : s = s'
  · subst h
    rw [atKey_put_same hD (by trivial)]
    have hz : posOf s l 0 = zs := (hr s hs).unique (by rw [hat]; exact reads_of hoi)
    rw [if_pos rfl, hz, Nat.zero_add]
    exact reads_of hoi'
  · rw [if_neg h, List.append_nil, atKey_put_other]
    · exact hr s' hs'
    · intro e
      injection e with e
      exact h (ByteArray.ext (by cases hh : s.data; cases hh' : s'.data; rw [hh, hh'] at e; simp at e; rw [e]))
end Fl
end Go.Proofs.YtekkhnjepcebkaaGreatDoor
