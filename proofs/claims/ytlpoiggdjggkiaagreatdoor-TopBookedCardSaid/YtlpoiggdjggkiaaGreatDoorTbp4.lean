/- What the proof of the claim's theorem uses, part 4. The conditions stand in each statement. -/
import Derived.WalkKit
import Derived.WalkSpells
import Derived.WalkLawsBesides
import Derived.WalkSmall
import Derived.Lib.Hide
import Derived.Laws.OwnMore
import Derived.Laws.CopyOwn
import Derived.Deep.Draws
import Derived.Laws.AppendOwnNone
import Derived.Test.YtlpoiggdjggkiaaGreatDoorProg
import Derived.Outline
import Derived.BigQuiet
import Derived.Deep.QuietTactic
import Derived.Lib.OthersKept
import Derived.Laws.EntriesVeiled
import Derived.Shelf.Strings.Builder1
import Derived.Shelf.LaysM
import Derived.Shelf.Strconv.Itoa3
import Derived.Orders
import Derived.RegionTactic
import Derived.BigRegion
import Derived.Deep.DeepCutAuto
import Derived.Maps.OwnRows
import Derived.Maps.GroupsBeside
import Derived.Deep.RegionHeld3
import Derived.Lib.SliceRun
import Derived.RangeFuncNested
import Derived.RangeFuncBound
import Derived.RangeFuncCalls
import Derived.RangeFuncLeaves
import Derived.Shelf.Abstract
import Derived.Shelf.RegionOpen
import Derived.OwnWalkIn
import Derived.TacticsInMore
import Derived.LoopNIn
import Derived.LoopIn
import Derived.Sort.QuietIn
import Derived.Deep.Quiet
import Derived.Maps.AppendAt
import Derived.Test.YtlpoiggdjggkiaaGreatDoorCards
import Derived.Test.YtlpoiggdjggkiaaGreatDoorTie
import Derived.ProofKit
import Derived.Deep.DeepHandedRow
import Derived.Lib.LaidTab
import Derived.Stop.LaidErr
import Derived.ChangeSame
import Derived.RowKit3
import Derived.ReadAgain
import Derived.OpenShut
import Derived.ChangeSlices
import Derived.WalkMore
import Derived.Maps.Own
import Derived.Maps.OwnOps
import Derived.Maps.OwnSet
import Derived.Shelf.Spec.SlicesInsert
import Derived.Shelf.Spec.SlicesInsertGrow
import Derived.Shelf.Bits.Mul64
import Derived.Deep.RegionLaw
import Derived.ChangeKeysEq
import Derived.Lib.Atoi
import Derived.Lib.Fields
import Derived.Shelf.Strings.SplitShaped
import Derived.Shelf.Strconv.Atoi
import Derived.Lay
import Derived.MakeChecks
import Derived.Deep.DeepWitnessRowRef
import Derived.Test.YtlpoiggdjggkiaaGreatDoorTbp3
set_option linter.unusedVariables false
set_option linter.unusedSimpArgs false
section
namespace Go.Proofs.YtlpoiggdjggkiaaGreatDoor
namespace Fl
open Go.RowKit Go.ChangeShapes Go.Shelf
set_option maxRecDepth 100000
attribute [local go_sem] Oper.semAt_some
/-- A block: what its cells hold, and the edits that lie there. -/
structure BlV where
  lo : Nat
  hi : Nat
  A0 : Option Addr
  c0 : Nat
  e0 : List EdV
  A1 : Option Addr
  c1 : Nat
  e1 : List EdV
def BlV.v0 (r : BlV) : Value := .slice r.A0 r.e0.length r.c0
def BlV.v1 (r : BlV) : Value := .slice r.A1 r.e1.length r.c1
def BlV.b (r : BlV) : File.Block ByteArray := ⟨r.lo, r.hi, r.e0.map EdV.ed, r.e1.map EdV.ed⟩
def blE : Enc BlV := ⟨fun r => [iv (r.lo : Int), iv (r.hi : Int), r.v0, r.v1], 4, fun _ => rfl, fun _ u h => by simp at h; rcases h with rfl | rfl | rfl | rfl <;> rfl, by decide⟩
theorem tyBlocks : SlTy Tryz.prog 75 81 4 := slTy_of (z := .agg #[iv 0, iv 0, .slice none 0 0, .slice none 0 0]) (bytes := 64) Tryz.underlying75 (by kernel_rfl) rfl (by decide)
theorem flat_set {α : Type} (E : Enc α) : ∀ (xs : List α) (k j : Nat) (x y : α) (u : Value), xs[k]? = some x → E.cells y = (E.cells x).set j u → j < E.sz → (xs.set k y).flatMap E.cells = (xs.flatMap E.cells).set (k * E.sz + j) u := by
  intro xs
  induction xs with
  | nil => intro k j x y u h; simp at h
  | cons z xs ih =>
    intro k j x y u h hc hj
    have hl := E.len z
    cases k with
    | zero =>
      simp at h
      subst h
      simp only [List.set_cons_zero, List.flatMap_cons, hc, Nat.zero_mul, Nat.zero_add]
      rw [List.set_append_left _ _ (by omega)]
    | succ k =>
      simp only [List.getElem?_cons_succ] at h
      simp only [List.set_cons_succ, List.flatMap_cons, ih k j x y u h hc hj]
      rw [List.set_append_right _ _ (by rw [hl, Nat.add_mul]; omega), hl]
      congr 2
      rw [Nat.add_mul]
      omega
/-- One cell of an element of one's own slice is written. -/
theorem Own.setAt {α : Type} {E : Enc α} {e : TypeId} {B : Nat} {w : World} {g n c : Nat} {xs : List α} (h : Own E e B w (.slice (some ⟨g, 0, none⟩) n c) xs) {k j : Nat} {x y : α} {u : Value} (hx : xs[k]? = some x) (hc : E.cells y = (E.cells x).set j u) (hj : j < E.sz) :
    Own E e B (w.setCell ⟨g, k * E.sz + j, none⟩ u) (.slice (some ⟨g, 0, none⟩) n c) (xs.set k y) := by
  refine ⟨by rw [flat_length, List.length_set], ?_⟩
  rcases h.2 with ⟨hv, _⟩ | ⟨g', cap, cur, hv, hb, hg, hn, hm, hs, ht⟩
  · cases hv
  · injection hv with h1 h2 h3
    injection h1 with h1
    injection h1 with h1
    subst h1 h3
    refine .inr ⟨g, c, cur.setIfInBounds (k * E.sz + j) u, by rw [List.length_set, h2], hb, ?_, by rw [List.length_set]; exact hn, hm, by rw [Array.size_setIfInBounds]; exact hs, ?_⟩
    · have hB : Blk w g e cur := hg
      exact hB.set_ _ _
    · rw [flat_set E xs k j x y u hx hc hj, ← ht, List.length_set]
      rw [Array.toList_setIfInBounds, List.take_set]
/-- What leaves the blocks of edits from m up to M as they were. -/
def EdsK (m M : Nat) (w w' : World) : Prop := w.heap.size ≤ w'.heap.size ∧ ∀ g cs fr, m ≤ g → g < M → w.heap[g]? = some (.cells cs 126 fr) → w'.heap[g]? = w.heap[g]?
theorem EdsK.own {m M B : Nat} {w w' : World} {v : Value} {xs : List EdV} (h : EdsK m M w w') (ho : Own edE 126 B w v xs) (hm : m ≤ B) (hM : ∀ b, v.ownBlock = some b → b < M) : Own edE 126 B w' v xs :=
  ho.keep h.1 fun b hb => by
    have hl := ho.lt b hb
    rcases ho.2 with ⟨rfl, _⟩ | ⟨g, cap, cur, rfl, hg, hc, _⟩
    · cases hb
    · simp only [Value.ownBlock, Option.some.injEq] at hb
      subst hb
      exact h.2 _ _ _ (by omega) (hM _ rfl) hc
/-- A block that is not written any more. -/
structure Old (m M : Nat) (w : World) (r : BlV) : Prop where
  o0 : Own edE 126 m w r.v0 r.e0
  o1 : Own edE 126 m w r.v1 r.e1
  l0 : ∀ b, r.v0.ownBlock = some b → b < M
  l1 : ∀ b, r.v1.ownBlock = some b → b < M
/-- The last block. -/
structure Last (M : Nat) (w : World) (r : BlV) : Prop where
  o0 : Own edE 126 M w r.v0 r.e0
  o1 : Own edE 126 M w r.v1 r.e1
  ap : ∀ b, r.v0.ownBlock = some b → r.v1.ownBlock ≠ some b
theorem Old.keep {m M : Nat} {w w' : World} {r : BlV} (h : Old m M w r) (hk : EdsK m M w w') : Old m M w' r := ⟨hk.own h.o0 (Nat.le_refl _) h.l0, hk.own h.o1 (Nat.le_refl _) h.l1, h.l0, h.l1⟩
theorem Last.old {m M : Nat} {w : World} {r : BlV} (h : Last M w r) (hm : m ≤ M) : Old m w.heap.size w r := ⟨h.o0.base hm, h.o1.base hm, fun b hb => (h.o0.lt b hb).2, fun b hb => (h.o1.lt b hb).2⟩
theorem Last.keep {m M : Nat} {w w' : World} {r : BlV} (h : Last M w r) (hm : m ≤ M) (hk : EdsK m w.heap.size w w') : Last M w' r := ⟨hk.own h.o0 hm fun b hb => (h.o0.lt b hb).2, hk.own h.o1 hm fun b hb => (h.o1.lt b hb).2, h.ap⟩
theorem Old.mono {m M M' : Nat} {w : World} {r : BlV} (h : Old m M w r) (hM : M ≤ M') : Old m M' w r := ⟨h.o0, h.o1, fun b hb => Nat.lt_of_lt_of_le (h.l0 b hb) hM, fun b hb => Nat.lt_of_lt_of_le (h.l1 b hb) hM⟩
theorem EdsK.of_below {m M : Nat} {w w' : World} (h : Below w.heap.size w w') : EdsK m M w w' := ⟨h.size, fun g cs fr _ _ hg => h.block g (Array.getElem?_eq_some_iff.1 hg).1⟩
theorem EdsK.trans {m M : Nat} {a b c : World} (h : EdsK m M a b) (k : EdsK m M b c) : EdsK m M a c := ⟨Nat.le_trans h.1 k.1, fun g cs fr hm hg hc => (k.2 g cs fr hm hg ((h.2 g cs fr hm hg hc).trans hc)).trans (h.2 g cs fr hm hg hc)⟩
theorem EdsK.less {m M M' : Nat} {a b : World} (h : EdsK m M a b) (hM : M' ≤ M) : EdsK m M' a b := ⟨h.1, fun g cs fr hm hg hc => h.2 g cs fr hm (Nat.lt_of_lt_of_le hg hM) hc⟩
theorem EdsK.set_ {m M : Nat} {w : World} {g : Nat} {t : TypeId} {cs : Array Value} {fr : Nat × Nat} (h : w.heap[g]? = some (.cells cs t fr)) (ht : t ≠ 126) (o : Nat) (u : Value) : EdsK m M w (w.setCell ⟨g, o, none⟩ u) :=
  ⟨by simp [World.setCell], fun b cs' fr' _ _ hb => Below.heap_setCell w ⟨g, o, none⟩ u b (fun e => by
    have e2 : b = g := e
    subst e2
    rw [h] at hb
    injection hb with hb
    injection hb with _ h2 _
    exact ht h2)⟩
theorem EdsK.app {m M B : Nat} {w w' : World} {v : Value} {rs : List BlV} (hown : Own blE 81 B w v rs) (hsz : w.heap.size ≤ w'.heap.size) (hk : ∀ b, b < w.heap.size → v.ownBlock ≠ some b → w'.heap[b]? = w.heap[b]?) : EdsK m M w w' :=
  ⟨hsz, fun g cs fr _ _ hc => hk g (Array.getElem?_eq_some_iff.1 hc).1 fun hv => by
    rcases hown.2 with ⟨rfl, _⟩ | ⟨g', cap, cur, rfl, _, hg, _⟩
    · cases hv
    · have e1 : g' = g := by simpa [Value.ownBlock] using hv
      subst e1
      rw [hc] at hg
      injection hg with hg
      injection hg with _ h2 _
      exact absurd h2 (by decide)⟩
/-- What the blocks hold. -/
def Ins (m : Nat) (w : World) (rs : List BlV) : Prop := ∀ pre last, rs = pre ++ [last] → ∃ M, m ≤ M ∧ M ≤ w.heap.size ∧ (∀ r ∈ pre, Old m M w r) ∧ Last M w last
theorem Ins.keep {m : Nat} {w w' : World} {rs : List BlV} (h : Ins m w rs) (hk : EdsK m w.heap.size w w') : Ins m w' rs := fun pre last e => by
  obtain ⟨M, h1, h2, h3, h4⟩ := h pre last e
  exact ⟨M, h1, Nat.le_trans h2 hk.1, fun r hr => (h3 r hr).keep (hk.less h2), h4.keep h1 hk⟩
theorem Ins.old {m : Nat} {w : World} {rs : List BlV} (h : Ins m w rs) : ∀ r ∈ rs, Old m w.heap.size w r := fun r hr => by
  have hne : rs ≠ [] := by intro e; subst e; cases hr
  obtain ⟨M, h1, h2, h3, h4⟩ := h _ _ (List.dropLast_concat_getLast hne).symm
  rw [← List.dropLast_concat_getLast hne] at hr
  rcases List.mem_append.1 hr with hr | hr
  · exact (h3 r hr).mono h2
  · rw [List.mem_singleton.1 hr]; exact h4.old h1
/-- How far the blocks are. -/
structure BRel (xs : List (Bool × EdV)) (xe : List (Bool × File.Edit ByteArray)) (k : Nat) (rs : List BlV) : Prop where
  way : (k = 0 ∧ rs = []) ∨ ∃ pre last, rs = pre ++ [last] ∧ pre.map BlV.b ++ File.grow last.b (xe.drop k) = File.blocksOf xe
  many : rs.length ≤ k
  mem : ∀ r ∈ rs, ∀ x, x ∈ r.e0 ∨ x ∈ r.e1 → ∃ p ∈ xs, p.2 = x
  high : ∀ r ∈ rs, r.hi ≤ 48 ∧ r.e0.length ≤ k ∧ r.e1.length ≤ k
theorem mergeV_mem : ∀ (n : Nat) (c d : List EdV), ∀ p ∈ mergeV n c d, p.2 ∈ c ∨ p.2 ∈ d := by
  intro n
  induction n with
  | zero => intro c d p hp; cases hp
  | succ n ih =>
    intro c d p hp
    cases c with
    | nil =>
      cases d with
      | nil => cases hp
      | cons y d =>
        simp only [mergeV] at hp
        rcases List.mem_cons.1 hp with rfl | hp
        · exact .inr List.mem_cons_self
        · exact (ih [] d p hp).imp id (List.mem_cons_of_mem _)
    | cons x c =>
      cases d with
      | nil =>
        simp only [mergeV] at hp
        rcases List.mem_cons.1 hp with rfl | hp
        · exact .inl List.mem_cons_self
        · exact (ih c [] p hp).imp (List.mem_cons_of_mem _) id
      | cons y d =>
        simp only [mergeV] at hp
        split at hp
        · rcases List.mem_cons.1 hp with rfl | hp
          · exact .inr List.mem_cons_self
          · exact (ih (x :: c) d p hp).imp id (List.mem_cons_of_mem _)
        · rcases List.mem_cons.1 hp with rfl | hp
          · exact .inl List.mem_cons_self
          · exact (ih c (y :: d) p hp).imp (List.mem_cons_of_mem _) id
theorem edits_in (n : Nat) (A0 : Option Addr) (n0 c0 : Nat) (A1 : Option Addr) (n1 c1 : Nat) (w : World) : CallsIn Fence.wide n Tryz.prog 56 #[.agg #[.slice A0 n0 c0, .slice A1 n1 c1]] w fun e w' => e = .returned (.func (.func 79) #[] #[.pointer (some ⟨w.heap.size, 0, none⟩)]) ∧ w' = w.alloc (.cells #[.slice A0 n0 c0, .slice A1 n1 c1] 79) := by
  refine callsIn_wide.2 ?_
  have hmf : ∀ (fn : Fn) (first cap : Array Value) (w : World), (Instr.makeFunc fn first cap).run Tryz.prog w = .ok (.func fn first cap) w := fun _ _ _ _ => rfl
  go_enter Tryz.func56, Tryz.ntmps56
  go_wp2
  go_ret
  exact ⟨rfl, rfl⟩
theorem Own.at0 {α : Type} {E : Enc α} {e : TypeId} {B : Nat} {w : World} {v : Value} {xs : List α} (h : Own E e B w v xs) (hne : xs ≠ []) : ∃ g c, v = .slice (some ⟨g, 0, none⟩) xs.length c ∧ B ≤ g ∧ ∃ cs, Blk w g e cs := by
  rcases h.2 with ⟨_, hn⟩ | ⟨g, cap, cur, rfl, hb, hg, _⟩
  · exact absurd (List.eq_nil_of_length_eq_zero hn) hne
  · exact ⟨g, cap, rfl, hb, cur, hg⟩
theorem Own.two {α β : Type} {E : Enc α} {E2 : Enc β} {e e2 : TypeId} {B B2 : Nat} {w : World} {v v2 : Value} {xs : List α} {ys : List β} (h : Own E e B w v xs) (h2 : Own E2 e2 B2 w v2 ys) (hne : e ≠ e2) {b : Nat} (hb : v.ownBlock = some b) : v2.ownBlock ≠ some b := fun hv => by
  rcases h.2 with ⟨rfl, _⟩ | ⟨g, cap, cur, rfl, _, hg, _⟩
  · cases hb
  · rcases h2.2 with ⟨rfl, _⟩ | ⟨g', cap', cur', rfl, _, hg', _⟩
    · cases hv
    · have e1 : g = b := by simpa [Value.ownBlock] using hb
      have e3 : g' = b := by simpa [Value.ownBlock] using hv
      rw [e1] at hg
      rw [e3, hg] at hg'
      injection hg' with hg'
      injection hg' with _ h3 _
      exact hne h3
theorem brel_open {xs : List (Bool × EdV)} {xe : List (Bool × File.Edit ByteArray)} {k : Nat} {rs : List BlV} {cp : Bool} {y : EdV} {r : BlV} (h : BRel xs xe k rs) (hp : xs[k]? = some (cp, y)) (hxe : xe = xs.map (fun p => (p.1, p.2.ed)))
    (hfar : ∀ pre last, rs = pre ++ [last] → last.hi < y.at_.toNat) (hb : r.b = File.Block.new cp y.ed) (hmem : ∀ x, x ∈ r.e0 ∨ x ∈ r.e1 → x = y) (hhi : r.hi ≤ 48) (he : r.e0.length ≤ 1 ∧ r.e1.length ≤ 1) : BRel xs xe (k + 1) (rs ++ [r]) := by
  have hd : xe.drop k = (cp, y.ed) :: xe.drop (k + 1) := drop_at (by rw [hxe, List.getElem?_map, hp]; rfl)
  refine ⟨.inr ⟨rs, r, rfl, ?_⟩, by have := h.many; simp; omega, fun r' hr' x hx => ?_, fun r' hr' => ?_⟩
  · rcases h.way with ⟨rfl, rfl⟩ | ⟨pre, last, rfl, hg⟩
    · rw [List.drop_zero] at hd
      rw [hb, hd]
      simp [File.blocksOf]
    · rw [hd] at hg
      simp only [File.grow] at hg
      rw [if_neg (by have := hfar pre last rfl; show ¬ y.at_.toNat ≤ last.hi; omega)] at hg
      rw [hb, ← hg]
      simp
  · rcases List.mem_append.1 hr' with hr' | hr'
    · exact h.mem r' hr' x hx
    · rw [List.mem_singleton.1 hr'] at hx
      exact ⟨_, mem_at hp, (hmem x hx).symm⟩
  · rcases List.mem_append.1 hr' with hr' | hr'
    · obtain ⟨h1, h2, h3⟩ := h.high r' hr'
      exact ⟨h1, by omega, by omega⟩
    · rw [List.mem_singleton.1 hr']
      exact ⟨hhi, by omega, by omega⟩
theorem brel_add {xs : List (Bool × EdV)} {xe : List (Bool × File.Edit ByteArray)} {k : Nat} {pre : List BlV} {last : BlV} {cp : Bool} {y : EdV} {r : BlV} (h : BRel xs xe k (pre ++ [last])) (hg : pre.map BlV.b ++ File.grow last.b (xe.drop k) = File.blocksOf xe) (hp : xs[k]? = some (cp, y)) (hxe : xe = xs.map (fun p => (p.1, p.2.ed)))
    (hnear : y.at_.toNat ≤ last.hi) (hb : r.b = last.b.add cp y.ed) (hmem : ∀ x, x ∈ r.e0 ∨ x ∈ r.e1 → (x ∈ last.e0 ∨ x ∈ last.e1) ∨ x = y) (hhi : r.hi ≤ 48) (he : r.e0.length ≤ last.e0.length + 1 ∧ r.e1.length ≤ last.e1.length + 1) : BRel xs xe (k + 1) (pre ++ [r]) := by
  have hd : xe.drop k = (cp, y.ed) :: xe.drop (k + 1) := drop_at (by rw [hxe, List.getElem?_map, hp]; rfl)
  refine ⟨.inr ⟨pre, r, rfl, ?_⟩, by have := h.many; simp at this ⊢; omega, fun r' hr' x hx => ?_, fun r' hr' => ?_⟩
  · rw [hd] at hg
    simp only [File.grow] at hg
    rw [if_pos (show y.ed.lo ≤ last.b.hi from hnear)] at hg
    rw [hb, ← hg]
  · rcases List.mem_append.1 hr' with hr' | hr'
    · exact h.mem r' (List.mem_append_left _ hr') x hx
    · rw [List.mem_singleton.1 hr'] at hx
      rcases hmem x hx with h1 | rfl
      · exact h.mem last (by simp) x h1
      · exact ⟨_, mem_at hp, rfl⟩
  · rcases List.mem_append.1 hr' with hr' | hr'
    · obtain ⟨h1, h2, h3⟩ := h.high r' (List.mem_append_left _ hr')
      exact ⟨h1, by omega, by omega⟩
    · rw [List.mem_singleton.1 hr']
      obtain ⟨h1, h2, h3⟩ := h.high last (by simp)
      exact ⟨hhi, by omega, by omega⟩
/-- A block more. -/
theorem open_step {w X Z Xs Y : World} {g m k : Nat} {xs : List (Bool × EdV)} {xe : List (Bool × File.Edit ByteArray)} {v v1 : Value} {rs : List BlV} {r : BlV} {ec : Array Value} (hgm : g < m) (hgw : w.heap.size ≤ g) (hmz : m ≤ Z.heap.size)
    (hKZ : KeptBut m g X Z) (hBZ : Below w.heap.size w Z) (hbZ : Blk Z g 75 #[v]) (hoZ : Own blE 81 m Z v rs) (hiZ : Ins m Z rs) (hbS : Below Z.heap.size Z Xs) (hGe : Blk Xs (Z.heap.size + 1) 126 ec)
    (hlast : ∀ W, Blk W (Z.heap.size + 1) 126 ec → Last Z.heap.size W r) (hoY : Own blE 81 m Y v1 (rs ++ [r])) (hbY : Below m Xs Y) (hkY : ∀ b, b < Xs.heap.size → v.ownBlock ≠ some b → Y.heap[b]? = Xs.heap[b]?) (hrel : BRel xs xe (k + 1) (rs ++ [r])) :
    KeptBut m g X (Y.setCell ⟨g, 0, none⟩ v1) ∧ ∃ v rs, Blk (Y.setCell ⟨g, 0, none⟩ v1) g 75 #[v] ∧ Own blE 81 m (Y.setCell ⟨g, 0, none⟩ v1) v rs ∧ Hid (BRel xs xe (k + 1) rs) ∧ Hid (Ins m (Y.setCell ⟨g, 0, none⟩ v1) rs) ∧ Below w.heap.size w (Y.setCell ⟨g, 0, none⟩ v1) := by
  have hzs := hbS.size
  have hYg : Blk Y g 75 #[v] := (hbZ.under hbS).below hbY hgm
  have hoX : Own blE 81 m Xs v rs := hoZ.below hbS
  have hE1 : EdsK m Z.heap.size Z Xs := EdsK.of_below hbS
  have hE2 : EdsK m Z.heap.size Xs Y := EdsK.app hoX hbY.size hkY
  have hE3 : EdsK m Z.heap.size Y (Y.setCell ⟨g, 0, none⟩ v1) := EdsK.set_ hYg (by decide) 0 v1
  have hE := (hE1.trans hE2).trans hE3
  refine ⟨(hKZ.trans (KeptBut.of_below hbS hmz)).trans (KeptBut.trans ⟨hbY.size, fun b hb _ => hbY.block b hb⟩ (KeptBut.set_ (g := g) ⟨g, 0, none⟩ (.inl rfl) _)), v1, rs ++ [r], by simpa using hYg.set_ 0 v1, hoY.setCell hgm v1, Lib.hid hrel, Lib.hid fun pre last e => ?_, ?_⟩
  · obtain ⟨rfl, e2⟩ := List.append_inj' e rfl
    have e3 : r = last := by injection e2
    subst e3
    have hGY0 : Blk Y (Z.heap.size + 1) 126 ec := (hkY _ hGe.lt (fun hv => by have := (hoZ.lt _ hv).2; omega)).trans hGe
    have hGY : Blk (Y.setCell ⟨g, 0, none⟩ v1) (Z.heap.size + 1) 126 ec := hGY0.far (p := ⟨g, 0, none⟩) (show Z.heap.size + 1 ≠ g by omega) v1
    exact ⟨Z.heap.size, hmz, hE.1, fun r' hr' => (hiZ.old r' hr').keep hE, hlast _ hGY⟩
  · exact ((hBZ.next hbS (Nat.le_refl _)).trans (hbY.mono (by omega))).setCell (p := ⟨g, 0, none⟩) hgw v1
theorem grow0 {w X Z Za Y : World} {g go m k N cv : Nat} {xs : List (Bool × EdV)} {xe : List (Bool × File.Edit ByteArray)} {pre : List BlV} {last : BlV} {y : EdV} {A2 : Option Addr} {c2 : Nat} (hN : N = pre.length) (hgm : g < m) (hgw : w.heap.size ≤ g) (hmz : m ≤ Z.heap.size)
    (hKZ : KeptBut m g X Z) (hBZ : Below w.heap.size w Z) (hbZ : Blk Z g 75 #[.slice (some ⟨go, 0, none⟩) (N + 1) cv]) (hgo : m ≤ go) (hoZ : Own blE 81 m Z (.slice (some ⟨go, 0, none⟩) (N + 1) cv) (pre ++ [last])) {M : Nat} (hmM : m ≤ M) (hMZ : M ≤ Z.heap.size) (hold : ∀ r ∈ pre, Old m M Z r) (hla : Last M Z last)
    (hbA : Below Z.heap.size Z Za) (ho2 : Own edE 126 M Y (.slice A2 (last.e0.length + 1) c2) (last.e0 ++ [y])) (hb2 : Below M Za Y) (hk2 : ∀ b, b < Za.heap.size → last.v0.ownBlock ≠ some b → Y.heap[b]? = Za.heap[b]?) (hat2 : (Value.slice A2 (last.e0.length + 1) c2).ownBlock = last.v0.ownBlock ∨ (Value.slice A2 (last.e0.length + 1) c2).ownBlock = some Za.heap.size)
    (hrel : BRel xs xe (k + 1) (pre ++ [{ last with A0 := A2, c0 := c2, e0 := last.e0 ++ [y] }])) :
    KeptBut m g X (Y.setCell ⟨go, N * 4 + 2 + 0, none⟩ (.slice A2 (last.e0.length + 1) c2)) ∧ ∃ v rs, Blk (Y.setCell ⟨go, N * 4 + 2 + 0, none⟩ (.slice A2 (last.e0.length + 1) c2)) g 75 #[v] ∧ Own blE 81 m (Y.setCell ⟨go, N * 4 + 2 + 0, none⟩ (.slice A2 (last.e0.length + 1) c2)) v rs ∧ Hid (BRel xs xe (k + 1) rs) ∧ Hid (Ins m (Y.setCell ⟨go, N * 4 + 2 + 0, none⟩ (.slice A2 (last.e0.length + 1) c2)) rs) ∧ Below w.heap.size w (Y.setCell ⟨go, N * 4 + 2 + 0, none⟩ (.slice A2 (last.e0.length + 1) c2)) := by
  have hza := hbA.size
  have hgoZ := (hoZ.lt go rfl).2
  have hoA := hoZ.below hbA
  have hlaA := hla.keep hmM (EdsK.of_below hbA)
  have hoY : Own blE 81 m Y (.slice (some ⟨go, 0, none⟩) (N + 1) cv) (pre ++ [last]) := hoA.keep hb2.size fun b hb => hk2 b (by have := (hoA.lt b hb).2; exact this) (Own.two hoA hlaA.o0 (by decide) hb)
  have hgY : ∃ cs, Blk Y go 81 cs := by
    obtain ⟨g', c', e, _, cs, hcs⟩ := Own.at0 hoY (by simp)
    injection e with e1 _ _
    injection e1 with e1
    injection e1 with e1 _
    subst e1
    exact ⟨cs, hcs⟩
  obtain ⟨cs, hcs⟩ := hgY
  have hE1 : EdsK m M Z Za := (EdsK.of_below hbA)
  have hE2 : EdsK m M Za Y := ⟨hb2.size, fun b cs fr _ hb _ => hb2.block b hb⟩
  have hE3 : ∀ M', EdsK m M' Y (Y.setCell ⟨go, N * 4 + 2 + 0, none⟩ (.slice A2 (last.e0.length + 1) c2)) := fun M' => EdsK.set_ hcs (by decide) _ _
  have hE := (hE1.trans hE2).trans (hE3 M)
  have hoth : Own edE 126 M Y last.v1 last.e1 := hlaA.o1.keep hb2.size fun b hb => hk2 b (hlaA.o1.lt b hb).2 (fun e => hlaA.ap b e hb)
  refine ⟨(hKZ.trans (KeptBut.of_below hbA hmz)).trans (KeptBut.trans ⟨hb2.size, fun b hb _ => hb2.block b (by omega)⟩ (KeptBut.set_ (g := g) ⟨go, _, none⟩ (.inr hgo) _)), .slice (some ⟨go, 0, none⟩) (N + 1) cv, pre ++ [{ last with A0 := A2, c0 := c2, e0 := last.e0 ++ [y] }], ((hbZ.under hbA).below hb2 (by omega)).far (p := ⟨go, N * 4 + 2 + 0, none⟩) (show g ≠ go by omega) _, ?_, Lib.hid hrel, Lib.hid fun pre' last' e => ?_, ?_⟩
  · have h9 := Own.setAt (k := N) (j := 2 + 0) (x := last) (y := { last with A0 := A2, c0 := c2, e0 := last.e0 ++ [y] }) (u := .slice A2 (last.e0.length + 1) c2) hoY (by rw [hN]; simp) (by simp [blE, BlV.v0, BlV.v1]) (by decide)
    have h10 : (pre ++ [last]).set N { last with A0 := A2, c0 := c2, e0 := last.e0 ++ [y] } = pre ++ [{ last with A0 := A2, c0 := c2, e0 := last.e0 ++ [y] }] := by rw [hN, List.set_append_right _ _ (Nat.le_refl _)]; simp
    rw [h10] at h9
    exact h9
  · obtain ⟨rfl, e2⟩ := List.append_inj' e rfl
    injection e2 with e3
    subst e3
    refine ⟨M, hmM, Nat.le_trans (Nat.le_trans hMZ hza) (Nat.le_trans hb2.size (hE3 0).1), fun r' hr' => (hold r' hr').keep hE, ?_⟩
    have hn2 : Own edE 126 M (Y.setCell ⟨go, N * 4 + 2 + 0, none⟩ (.slice A2 (last.e0.length + 1) c2)) (.slice A2 (last.e0 ++ [y]).length c2) (last.e0 ++ [y]) := by
      rw [List.length_append]
      exact (hE3 Y.heap.size).own ho2 hmM fun b hb => (ho2.lt b hb).2
    have ho9 := (hE3 Y.heap.size).own hoth hmM fun b hb => (hoth.lt b hb).2
    have hap : ∀ b, (Value.slice A2 (last.e0.length + 1) c2).ownBlock = some b → last.v1.ownBlock ≠ some b := fun b hb hb' => by
      rcases hat2 with h | h
      · rw [h] at hb
        exact hlaA.ap b hb hb'
      · rw [h] at hb
        injection hb with hb
        have := (hlaA.o1.lt b hb').2
        omega
    exact ⟨hn2, ho9, fun b hb => hap b (by simpa [BlV.v0, Value.ownBlock] using hb)⟩
  · exact ((hBZ.next hbA (Nat.le_refl _)).trans (hb2.mono (by omega))).setCell (p := ⟨go, N * 4 + 2 + 0, none⟩) (show w.heap.size ≤ go by omega) _
theorem grow1 {w X Z Za Y : World} {g go m k N cv : Nat} {xs : List (Bool × EdV)} {xe : List (Bool × File.Edit ByteArray)} {pre : List BlV} {last : BlV} {y : EdV} {A2 : Option Addr} {c2 : Nat} (hN : N = pre.length) (hgm : g < m) (hgw : w.heap.size ≤ g) (hmz : m ≤ Z.heap.size)
    (hKZ : KeptBut m g X Z) (hBZ : Below w.heap.size w Z) (hbZ : Blk Z g 75 #[.slice (some ⟨go, 0, none⟩) (N + 1) cv]) (hgo : m ≤ go) (hoZ : Own blE 81 m Z (.slice (some ⟨go, 0, none⟩) (N + 1) cv) (pre ++ [last])) {M : Nat} (hmM : m ≤ M) (hMZ : M ≤ Z.heap.size) (hold : ∀ r ∈ pre, Old m M Z r) (hla : Last M Z last)
    (hbA : Below Z.heap.size Z Za) (ho2 : Own edE 126 M Y (.slice A2 (last.e1.length + 1) c2) (last.e1 ++ [y])) (hb2 : Below M Za Y) (hk2 : ∀ b, b < Za.heap.size → last.v1.ownBlock ≠ some b → Y.heap[b]? = Za.heap[b]?) (hat2 : (Value.slice A2 (last.e1.length + 1) c2).ownBlock = last.v1.ownBlock ∨ (Value.slice A2 (last.e1.length + 1) c2).ownBlock = some Za.heap.size)
    (hrel : BRel xs xe (k + 1) (pre ++ [{ last with A1 := A2, c1 := c2, e1 := last.e1 ++ [y] }])) :
    KeptBut m g X (Y.setCell ⟨go, N * 4 + 2 + 1, none⟩ (.slice A2 (last.e1.length + 1) c2)) ∧ ∃ v rs, Blk (Y.setCell ⟨go, N * 4 + 2 + 1, none⟩ (.slice A2 (last.e1.length + 1) c2)) g 75 #[v] ∧ Own blE 81 m (Y.setCell ⟨go, N * 4 + 2 + 1, none⟩ (.slice A2 (last.e1.length + 1) c2)) v rs ∧ Hid (BRel xs xe (k + 1) rs) ∧ Hid (Ins m (Y.setCell ⟨go, N * 4 + 2 + 1, none⟩ (.slice A2 (last.e1.length + 1) c2)) rs) ∧ Below w.heap.size w (Y.setCell ⟨go, N * 4 + 2 + 1, none⟩ (.slice A2 (last.e1.length + 1) c2)) := by
  have hza := hbA.size
  have hgoZ := (hoZ.lt go rfl).2
  have hoA := hoZ.below hbA
  have hlaA := hla.keep hmM (EdsK.of_below hbA)
  have hoY : Own blE 81 m Y (.slice (some ⟨go, 0, none⟩) (N + 1) cv) (pre ++ [last]) := hoA.keep hb2.size fun b hb => hk2 b (by have := (hoA.lt b hb).2; exact this) (Own.two hoA hlaA.o1 (by decide) hb)
  have hgY : ∃ cs, Blk Y go 81 cs := by
    obtain ⟨g', c', e, _, cs, hcs⟩ := Own.at0 hoY (by simp)
    injection e with e1 _ _
    injection e1 with e1
    injection e1 with e1 _
    subst e1
    exact ⟨cs, hcs⟩
  obtain ⟨cs, hcs⟩ := hgY
  have hE1 : EdsK m M Z Za := (EdsK.of_below hbA)
  have hE2 : EdsK m M Za Y := ⟨hb2.size, fun b cs fr _ hb _ => hb2.block b hb⟩
  have hE3 : ∀ M', EdsK m M' Y (Y.setCell ⟨go, N * 4 + 2 + 1, none⟩ (.slice A2 (last.e1.length + 1) c2)) := fun M' => EdsK.set_ hcs (by decide) _ _
  have hE := (hE1.trans hE2).trans (hE3 M)
  have hoth : Own edE 126 M Y last.v0 last.e0 := hlaA.o0.keep hb2.size fun b hb => hk2 b (hlaA.o0.lt b hb).2 (fun e => hlaA.ap b hb e)
  refine ⟨(hKZ.trans (KeptBut.of_below hbA hmz)).trans (KeptBut.trans ⟨hb2.size, fun b hb _ => hb2.block b (by omega)⟩ (KeptBut.set_ (g := g) ⟨go, _, none⟩ (.inr hgo) _)), .slice (some ⟨go, 0, none⟩) (N + 1) cv, pre ++ [{ last with A1 := A2, c1 := c2, e1 := last.e1 ++ [y] }], ((hbZ.under hbA).below hb2 (by omega)).far (p := ⟨go, N * 4 + 2 + 1, none⟩) (show g ≠ go by omega) _, ?_, Lib.hid hrel, Lib.hid fun pre' last' e => ?_, ?_⟩
  · have h9 := Own.setAt (k := N) (j := 2 + 1) (x := last) (y := { last with A1 := A2, c1 := c2, e1 := last.e1 ++ [y] }) (u := .slice A2 (last.e1.length + 1) c2) hoY (by rw [hN]; simp) (by simp [blE, BlV.v0, BlV.v1]) (by decide)
    have h10 : (pre ++ [last]).set N { last with A1 := A2, c1 := c2, e1 := last.e1 ++ [y] } = pre ++ [{ last with A1 := A2, c1 := c2, e1 := last.e1 ++ [y] }] := by rw [hN, List.set_append_right _ _ (Nat.le_refl _)]; simp
    rw [h10] at h9
    exact h9
  · obtain ⟨rfl, e2⟩ := List.append_inj' e rfl
    injection e2 with e3
    subst e3
    refine ⟨M, hmM, Nat.le_trans (Nat.le_trans hMZ hza) (Nat.le_trans hb2.size (hE3 0).1), fun r' hr' => (hold r' hr').keep hE, ?_⟩
    have hn2 : Own edE 126 M (Y.setCell ⟨go, N * 4 + 2 + 1, none⟩ (.slice A2 (last.e1.length + 1) c2)) (.slice A2 (last.e1 ++ [y]).length c2) (last.e1 ++ [y]) := by
      rw [List.length_append]
      exact (hE3 Y.heap.size).own ho2 hmM fun b hb => (ho2.lt b hb).2
    have ho9 := (hE3 Y.heap.size).own hoth hmM fun b hb => (hoth.lt b hb).2
    have hap : ∀ b, (Value.slice A2 (last.e1.length + 1) c2).ownBlock = some b → last.v0.ownBlock ≠ some b := fun b hb hb' => by
      rcases hat2 with h | h
      · rw [h] at hb
        exact hlaA.ap b hb' hb
      · rw [h] at hb
        injection hb with hb
        have := (hlaA.o0.lt b hb').2
        omega
    exact ⟨ho9, hn2, fun b hb hb' => hap b (by simpa [BlV.v1, Value.ownBlock] using hb') hb⟩
  · exact ((hBZ.next hbA (Nat.le_refl _)).trans (hb2.mono (by omega))).setCell (p := ⟨go, N * 4 + 2 + 1, none⟩) (show w.heap.size ≤ go by omega) _
/-- The cell of an element. -/
theorem Own.cellAt {α : Type} {E : Enc α} {e : TypeId} {B : Nat} {w : World} {g n c : Nat} {xs : List α} (h : Own E e B w (.slice (some ⟨g, 0, none⟩) n c) xs) {k : Nat} {x : α} (hx : xs[k]? = some x) {j : Nat} {u : Value} (hu : (E.cells x)[j]? = some u) : w.cell? ⟨g, k * E.sz + j, none⟩ = some u := by
  obtain ⟨b, off, hA, _, hc⟩ := h.sl (by intro e; subst e; simp at hx)
  injection hA with hA
  injection hA with e1 e2
  subst e1 e2
  have := hc k x hx j u hu
  rwa [Nat.zero_add] at this
theorem Own.blkOf {α : Type} {E : Enc α} {e : TypeId} {B : Nat} {w : World} {g n c : Nat} {xs : List α} (h : Own E e B w (.slice (some ⟨g, 0, none⟩) n c) xs) (hne : xs ≠ []) : ∃ cs, Blk w g e cs := by
  obtain ⟨g', c', e1, _, cs, hcs⟩ := Own.at0 h hne
  injection e1 with e1 _ _
  injection e1 with e1
  injection e1 with e1 _
  subst e1
  exact ⟨cs, hcs⟩
theorem hi_step {w X Z : World} {g go m N cv h : Nat} {pre : List BlV} {last : BlV} (hN : N = pre.length) (hgm : g < m) (hgw : w.heap.size ≤ g) (hgo : m ≤ go) (hKZ : KeptBut m g X Z) (hBZ : Below w.heap.size w Z) (hbZ : Blk Z g 75 #[.slice (some ⟨go, 0, none⟩) (N + 1) cv]) (hoZ : Own blE 81 m Z (.slice (some ⟨go, 0, none⟩) (N + 1) cv) (pre ++ [last])) (hiZ : Ins m Z (pre ++ [last])) :
    KeptBut m g X (Z.setCell ⟨go, N * 4 + 1, none⟩ (iv (h : Int))) ∧ Below w.heap.size w (Z.setCell ⟨go, N * 4 + 1, none⟩ (iv (h : Int))) ∧ Blk (Z.setCell ⟨go, N * 4 + 1, none⟩ (iv (h : Int))) g 75 #[.slice (some ⟨go, 0, none⟩) (N + 1) cv] ∧ Own blE 81 m (Z.setCell ⟨go, N * 4 + 1, none⟩ (iv (h : Int))) (.slice (some ⟨go, 0, none⟩) (N + 1) cv) (pre ++ [{ last with hi := h }]) ∧ Ins m (Z.setCell ⟨go, N * 4 + 1, none⟩ (iv (h : Int))) (pre ++ [{ last with hi := h }]) := by
  obtain ⟨g', c', e, _, cs, hcs⟩ := Own.at0 hoZ (by simp)
  injection e with e1 _ _
  injection e1 with e1
  injection e1 with e1 _
  subst e1
  have hE : ∀ M', EdsK m M' Z (Z.setCell ⟨go, N * 4 + 1, none⟩ (iv (h : Int))) := fun M' => EdsK.set_ hcs (by decide) _ _
  refine ⟨hKZ.trans (KeptBut.set_ (g := g) ⟨go, _, none⟩ (.inr hgo) _), hBZ.setCell (p := ⟨go, N * 4 + 1, none⟩) (show w.heap.size ≤ go by omega) _, hbZ.far (p := ⟨go, N * 4 + 1, none⟩) (show g ≠ go by omega) _, ?_, fun pre' last' e => ?_⟩
  · have h9 := Own.setAt (k := N) (j := 1) (x := last) (y := { last with hi := h }) (u := iv (h : Int)) hoZ (by rw [hN]; simp) (by simp [blE, BlV.v0, BlV.v1]) (by decide)
    have h10 : (pre ++ [last]).set N { last with hi := h } = pre ++ [{ last with hi := h }] := by rw [hN, List.set_append_right _ _ (Nat.le_refl _)]; simp
    rw [h10] at h9
    exact h9
  · obtain ⟨rfl, e2⟩ := List.append_inj' e rfl
    injection e2 with e3
    subst e3
    obtain ⟨M, h1, h2, h3, h4⟩ := hiZ _ _ rfl
    have h5 := h4.keep h1 (hE Z.heap.size)
    exact ⟨M, h1, Nat.le_trans h2 (hE 0).1, fun r hr => (h3 r hr).keep (hE M), ⟨h5.o0, h5.o1, h5.ap⟩⟩
theorem memGrow0 (last : BlV) (y : EdV) : ∀ x, x ∈ last.e0 ++ [y] ∨ x ∈ last.e1 → (x ∈ last.e0 ∨ x ∈ last.e1) ∨ x = y := fun x h => by
  rcases h with h | h
  · rcases List.mem_append.1 h with h | h
    · exact .inl (.inl h)
    · exact .inr (List.mem_singleton.1 h)
  · exact .inl (.inr h)
theorem memGrow1 (last : BlV) (y : EdV) : ∀ x, x ∈ last.e0 ∨ x ∈ last.e1 ++ [y] → (x ∈ last.e0 ∨ x ∈ last.e1) ∨ x = y := fun x h => by
  rcases h with h | h
  · exact .inl (.inl h)
  · rcases List.mem_append.1 h with h | h
    · exact .inl (.inr h)
    · exact .inr (List.mem_singleton.1 h)
set_option maxHeartbeats 4000000 in
theorem blocks_spec (A0 : Option Addr) (c0 : Nat) (A1 : Option Addr) (c1 : Nat) (vs0 vs1 : List EdV) (w : World) (h0 : Sl edE w A0 vs0) (h1 : Sl edE w A1 vs1) (s0 : SmallC (vs0.map EdV.ed)) (s1 : SmallC (vs1.map EdV.ed)) (q0 : ∀ x ∈ vs0, 0 ≤ x.at_ ∧ x.at_ ≤ 24) (q1 : ∀ x ∈ vs1, 0 ≤ x.at_ ∧ x.at_ ≤ 24) :
    Calls Tryz.prog 27 #[.agg #[.slice A0 vs0.length c0, .slice A1 vs1.length c1]] w fun e w' => ∃ v rs, e = .returned v ∧ Own blE 81 w.heap.size w' v rs ∧ rs.map BlV.b = File.blocks (vs0.map EdV.ed) (vs1.map EdV.ed) ∧ (∀ r ∈ rs, Own edE 126 w.heap.size w' r.v0 r.e0 ∧ Own edE 126 w.heap.size w' r.v1 r.e1 ∧ ∀ x, x ∈ r.e0 ∨ x ∈ r.e1 → x ∈ vs0 ∨ x ∈ vs1) ∧ Below w.heap.size w w' := by
  obtain ⟨xs, hxs⟩ : ∃ xs, xs = mergeV (vs0.length + vs1.length) vs0 vs1 := ⟨_, rfl⟩
  have HXE : Hid (xs.map (fun p => (p.1, p.2.ed)) = File.merge (vs0.map EdV.ed) (vs1.map EdV.ed)) := Lib.hid (by rw [hxs, mergeV_map]; simp [File.merge])
  have hl0 : vs0.length ≤ 25 := by have := s0.many; rwa [List.length_map] at this
  have hl1 : vs1.length ≤ 25 := by have := s1.many; rwa [List.length_map] at this
  have hxl : xs.length ≤ 50 := by rw [hxs, mergeV_length _ _ _ rfl]; omega
  have HMEM : Hid (∀ p ∈ xs, p.2 ∈ vs0 ∨ p.2 ∈ vs1) := Lib.hid (by rw [hxs]; exact mergeV_mem _ _ _)
  have HPOS : Hid (∀ p ∈ xs, 0 ≤ p.2.at_ ∧ p.2.at_ ≤ 24 ∧ p.2.old.length ≤ 24) := Lib.hid fun p hp => by
    rcases HMEM.out p hp with h | h
    · exact ⟨(q0 _ h).1, (q0 _ h).2, s0.old _ (List.mem_map_of_mem h)⟩
    · exact ⟨(q1 _ h).1, (q1 _ h).2, s1.old _ (List.mem_map_of_mem h)⟩
  obtain ⟨xe, hxe⟩ : ∃ xe, xe = xs.map (fun p => (p.1, p.2.ed)) := ⟨_, rfl⟩
  have HXE2 := Lib.hid hxe
  refine (callsIn_wide (n := 20)).1 ?_
  refine callsIn_of_wp_marks Tryz.func27 rfl trivial ?_ rfl
  simp only [Tryz.ntmps27, List.size_toArray, List.length_cons, List.length_nil, Nat.reduceAdd, Nat.reduceSub, Array.replicate_succ, Array.replicate_zero, List.push_toArray, List.append_toArray, List.nil_append, List.cons_append]
  gi_wp2_with (refine ⟨trivial, ?_⟩; gi_at_call 56; refine (edits_in _ _ _ _ _ _ _ _).mono ?_; rintro e w' ⟨rfl, rfl⟩)
  have k1 : Blk (((w.alloc (.cells #[.slice A0 vs0.length c0, .slice A1 vs1.length c1] 79)).alloc (.cells #[.slice none 0 0] 75)).alloc (.cells #[.slice A0 vs0.length c0, .slice A1 vs1.length c1] 79)) (w.heap.size + 1) 75 #[.slice none 0 0] := (Blk.new_ _ _ _ (by simp)).alloc _
  have k2 : Blk (((w.alloc (.cells #[.slice A0 vs0.length c0, .slice A1 vs1.length c1] 79)).alloc (.cells #[.slice none 0 0] 75)).alloc (.cells #[.slice A0 vs0.length c0, .slice A1 vs1.length c1] 79)) (w.heap.size + 2) 79 #[.slice A0 vs0.length c0, .slice A1 vs1.length c1] := Blk.new_ _ _ _ (by simp)
  have hB0 : Below w.heap.size w (((w.alloc (.cells #[.slice A0 vs0.length c0, .slice A1 vs1.length c1] 79)).alloc (.cells #[.slice none 0 0] 75)).alloc (.cells #[.slice A0 vs0.length c0, .slice A1 vs1.length c1] 79)) := (((Below.refl _ w).alloc (Nat.le_refl _) _).alloc (by simp) _).alloc (by simp; omega) _
  have hsz : (((w.alloc (.cells #[.slice A0 vs0.length c0, .slice A1 vs1.length c1] 79)).alloc (.cells #[.slice none 0 0] 75)).alloc (.cells #[.slice A0 vs0.length c0, .slice A1 vs1.length c1] 79)).heap.size = w.heap.size + 3 := by simp
  generalize ((w.alloc (.cells #[.slice A0 vs0.length c0, .slice A1 vs1.length c1] 79)).alloc (.cells #[.slice none 0 0] 75)).alloc (.cells #[.slice A0 vs0.length c0, .slice A1 vs1.length c1] 79) = W0 at *
  have hed : ∀ (A : Option Addr) (vs : List EdV), Sl edE w A vs → Edits W0 A vs (w.heap.size + 1) := fun A vs h => ⟨h.below hB0, fun hne b off e => by
    obtain ⟨b', off', e', hb', _⟩ := h hne
    rw [e] at e'
    injection e' with e'
    injection e' with e1 _
    omega⟩
  have hseq : SeqAll Fence.wide (20 - 1) Tryz.prog 79 #[.pointer (some ⟨w.heap.size + 2, 0, none⟩)] encP xs (w.heap.size + 1) W0 := by
    rw [hxs]
    exact edits1_all (20 - 1) (by omega) (w.heap.size + 2) A0 c0 A1 c1 vs0 vs1 (w.heap.size + 1) W0 k2 (by omega) (hed _ _ h0) (hed _ _ h1) (by omega) (by omega)
  clear hxe hxs
  refine wpIn_rangeAll (F := Fence.wide) rfl (by omega) (gf := 79) (lb := #[.pointer (some ⟨w.heap.size + 2, 0, none⟩)]) rfl trivial (enters_of Tryz.func79 (by kernel_rfl) rfl) (encs := encP) (xs := xs) (g := w.heap.size + 1) (by omega) hseq (fun _ => rfl)
    (fun k W => ∃ v rs, Blk W (w.heap.size + 1) 75 #[v] ∧ Own blE 81 (w.heap.size + 6) W v rs ∧ Hid (BRel xs xe k rs) ∧ Hid (Ins (w.heap.size + 6) W rs) ∧ Below w.heap.size w W)
    ?hI ⟨.slice none 0 0, [], k1, Own.nil, ⟨.inl ⟨rfl, rfl⟩, Nat.le_refl _, (fun _ h => by cases h), (fun _ h => by cases h)⟩, (fun pre last e => by simp at e), hB0⟩
    (fun k a' W => ∃ p Bx v rs, xs[k]? = some p ∧ w.heap.size + 6 ≤ Bx ∧ Blk W Bx 126 #[iv p.2.at_, .slice p.2.A p.2.old.length p.2.c, .slice p.2.A' p.2.new.length p.2.c'] ∧ Blk W (w.heap.size + 1) 75 #[v] ∧ Own blE 81 (w.heap.size + 6) W v rs ∧ Hid (BRel xs xe k rs) ∧ Hid (Ins (w.heap.size + 6) W rs) ∧ Below w.heap.size w W ∧ (∀ r ∈ rs, r.v0.ownBlock ≠ some Bx ∧ r.v1.ownBlock ≠ some Bx) ∧ a' = { tmps := #[.agg #[.slice A0 vs0.length c0, .slice A1 vs1.length c1], .pointer (some ⟨w.heap.size, 0, none⟩), .slice none 0 0, .pointer (some ⟨w.heap.size + 1, 0, none⟩), iv (if p.1 then 1 else 0), .pointer (some ⟨Bx, 0, none⟩), undef, undef, undef, .agg #[.slice A0 vs0.length c0, .slice A1 vs1.length c1], .func (.func 79) #[] #[.pointer (some ⟨w.heap.size + 1 + 1, 0, none⟩)], iv (if p.1 then 1 else 0), .agg #[iv p.2.at_, .slice p.2.A p.2.old.length p.2.c, .slice p.2.A' p.2.new.length p.2.c'], undef, undef, undef, undef, undef, undef, undef, undef, undef, undef, undef, undef, undef, undef, undef, undef, undef, undef, undef, undef, undef, undef, undef, undef, undef, undef, undef, undef, undef, undef, undef, undef, undef, undef, undef, undef, undef, undef, undef, undef, undef, undef, undef, undef, undef, undef, undef, undef, undef, undef, undef, undef, undef, undef, undef, undef, undef, undef, undef, undef, undef, undef], defers := [] })
    ?hAx ?assign ?body ?done
  case hI =>
    rintro k X Y row ⟨v, rs, hb, ho, hr, hi, hB⟩ hg hrow
    rw [hsz] at hrow
    have hk : EdsK (w.heap.size + 6) X.heap.size X Y := ⟨hg.size, fun g cs fr hm _ hc => hg.block g (Array.getElem?_eq_some_iff.1 hc).1 (fun e => by have := hrow g e.symm; omega)⟩
    exact ⟨v, rs, (hg.block _ hb.lt (fun e => by have := hrow _ e.symm; omega)).trans hb, ho.keep hg.size fun b hb => hg.block b (ho.lt b hb).2 (fun e => by have := hrow _ e.symm; have := (ho.lt b hb).1; omega), hr, Lib.hid (hi.out.keep hk), hB.grown hg hB.size fun j e => by have := hrow j e; omega⟩
  case hAx =>
    rintro k a' X Y row ⟨p, Bx, v, rs, hp, hBx, bX, hb, ho, hr, hi, hB, hXB, rfl⟩ hg hrow
    rw [hsz] at hrow
    have hk : EdsK (w.heap.size + 6) X.heap.size X Y := ⟨hg.size, fun g cs fr hm _ hc => hg.block g (Array.getElem?_eq_some_iff.1 hc).1 (fun e => by have := hrow g e.symm; omega)⟩
    exact ⟨p, Bx, v, rs, hp, hBx, (hg.block _ bX.lt (fun e => by have := hrow _ e.symm; omega)).trans bX, (hg.block _ hb.lt (fun e => by have := hrow _ e.symm; omega)).trans hb, ho.keep hg.size fun b hb => hg.block b (ho.lt b hb).2 (fun e => by have := hrow _ e.symm; have := (ho.lt b hb).1; omega), hr, Lib.hid (hi.out.keep hk), hB.grown hg hB.size (fun j e => by have := hrow j e; omega), hXB, rfl⟩
  case assign =>
    rintro l k p X K hp ⟨v, rs, hb, ho, hr, hi, hB⟩ hz hK
    rw [hsz] at hz
    simp only [encP, EdV.v]
    have hbX : Below X.heap.size X (X.alloc (.cells #[iv p.2.at_, .slice p.2.A p.2.old.length p.2.c, .slice p.2.A' p.2.new.length p.2.c'] 126)) := (Below.refl _ _).alloc (Nat.le_refl _) _
    obtain ⟨cp, y⟩ := p
    cases cp
    all_goals
      gi_wp2
      exact hK _ _ (KeptBut.alloc _ _ _ _ (by omega)) ⟨_, X.heap.size, v, rs, hp, by omega, Blk.new _ _ _, hb.alloc _, ho.alloc _, hr, Lib.hid (hi.out.keep (EdsK.of_below hbX)), hB.alloc hB.size _, (fun r hr' => ⟨fun e => Nat.lt_irrefl _ ((hi.out.old r hr').l0 _ e), fun e => Nat.lt_irrefl _ ((hi.out.old r hr').l1 _ e)⟩), rfl⟩
  case body =>
    rintro l k x a' X hx ⟨⟨cp, y⟩, Bx, v, rs, hp, hBx, bX, hb, ho, hr, hi, hB, hXB, rfl⟩ hz
    rw [hsz] at hz
    have c0' := bX.cell 0
    have c1' := bX.cell 1
    have c2' := bX.cell 2
    have cl' := bX.lt
    have g0 := hb.cell 0
    have gl := hb.lt
    have gf := hb.frozen 0
    obtain ⟨hy0, hy1, hy2⟩ := HPOS.out _ (mem_at hp)
    obtain ⟨lo, hlo⟩ : ∃ lo : Nat, y.at_ = (lo : Int) := ⟨y.at_.toNat, by simp only at hy0; omega⟩
    simp only at hy0 hy1 hy2 c0' c1' c2'
    rw [hlo] at c0' hy1
    have hlo24 : lo ≤ 24 := by omega
    obtain ⟨to_, hto⟩ : ∃ to_, to_ = lo + y.old.length := ⟨_, rfl⟩
    have ew1 : IntKind.i64.wrap ((lo : Int) + (y.old.length : Int)) = (to_ : Int) := by rw [hto]; exact IntWalk.i64_in _ (by omega)
    have HTO := Lib.hid hto
    clear hto
    simp only [hlo]
    obtain ⟨g, hgd⟩ : ∃ g, g = w.heap.size + 1 := ⟨_, rfl⟩
    rw [← hgd] at hb g0 gl gf ⊢
    have hgz : g < w.heap.size + 6 := by omega
    have hgw : w.heap.size ≤ g := by omega
    have HGD := Lib.hid hgd
    clear hgd
    cases cp
    · simp only [reduceIte, Bool.false_eq_true]
      rcases hr.out.way with ⟨hk0, hrs⟩ | ⟨pre, last, hrs, hg⟩
      · subst hrs
        obtain ⟨Av, cv, rfl, _, _⟩ := ho.form
        have ew2 : IntKind.i64.wrap (((([] : List BlV).length : Nat) : Int) - 1) = -1 := rfl
        gi_wp2_with fail
        refine wpIn_round_quiet (by kernel_rfl) (by kernel_rfl) (by kernel_rfl) (by rintro ⟨_, _, h⟩; exact h) ?_
        repeat (go_big_quiet_step (fail))
        refine wpQuiet_nil ?_
        intro _ hw'
        obtain ⟨nq, hw''⟩ := hw'
        subst hw''
        have hq : Below X.heap.size X (X.drewN nq) := ⟨rfl, rfl, rfl, Nat.le_refl _, fun _ _ => rfl⟩
        have bZ := bX.under hq
        have hbZ := hb.under hq
        have hoZ := ho.below hq
        have hiZ : Hid (Ins (w.heap.size + 6) (X.drewN nq) _) := Lib.hid (hi.out.keep (EdsK.of_below hq))
        have hBZ : Below w.heap.size w (X.drewN nq) := hB.next hq (Nat.le_refl _)
        have hKZ : KeptBut (w.heap.size + 6) g X (X.drewN nq) := KeptBut.of_below hq (by omega)
        have hzZ : w.heap.size + 5 < (X.drewN nq).heap.size := hz
        generalize X.drewN nq = Z at *
        have z0 := bZ.cell 0
        have z1 := bZ.cell 1
        have z2 := bZ.cell 2
        have zl := bZ.lt
        have y0 := hbZ.cell 0
        have yl := hbZ.lt
        have yn : ¬ g = Z.heap.size := by omega
        rw [hlo] at z0
        obtain ⟨Xs, hXs⟩ : ∃ Xs, Xs = (Z.alloc (.cells #[iv (lo : Int), iv (to_ : Int), .slice (some ⟨Z.heap.size + 1, 0, none⟩) 1 1, .slice none 0 0] 81)).alloc (.cells #[iv (lo : Int), .slice y.A y.old.length y.c, .slice y.A' y.new.length y.c'] 126) := ⟨_, rfl⟩
        have hbS : Below Z.heap.size Z Xs := by rw [hXs]; exact ((Below.refl _ Z).alloc (Nat.le_refl _) _).alloc (by simp) _
        have hGe : Blk Xs (Z.heap.size + 1) 126 #[iv (lo : Int), .slice y.A y.old.length y.c, .slice y.A' y.new.length y.c'] := by
          rw [hXs]
          exact Blk.new_ _ _ _ (by simp)
        have hoS := Lib.hid (hoZ.below hbS)
        have hzS : Hid (w.heap.size + 6 ≤ Xs.heap.size) := Lib.hid (by have := hbS.size; omega)
        have hlen : Hid (([] : List BlV).length + 1 ≤ big) := Lib.hid (by have := hr.out.many; have h9 := (List.getElem?_eq_some_iff.1 hp).1; unfold big; omega)
        rw [hXs] at hoS hzS
        gi_wp2_with (gi_at_builtin; refine wpApp1In blE tyBlocks rfl _ _ rfl hoS.out (⟨lo, to_, some ⟨Z.heap.size + 1, 0, none⟩, 1, [y], none, 0, []⟩ : BlV) rfl rfl (G := Z.heap.size + 1 + 1) (by simp) rfl hzS.out hlen.out ?_; intro v1 Y hoY hbY hkY; obtain ⟨Av1, cv1, hv1, _, _⟩ := hoY.form; (try rw [show (([]) ++ [(⟨lo, to_, some ⟨Z.heap.size + 1, 0, none⟩, 1, [y], none, 0, []⟩ : BlV)]).length = 1 from (by (rw [List.length_append, HNL.out]; rfl))] at hv1); subst hv1; have hY1 := (hbZ.under hbS).below (hXs ▸ hbY) (by omega); have e0 := hY1.cell 0; have ef := hY1.frozen 0; have el := hY1.lt)
        have hbY2 : Below (w.heap.size + 6) Xs Y := by rw [hXs]; exact hbY
        have hkY2 : ∀ b, b < Xs.heap.size → Value.ownBlock (.slice Av 0 cv) ≠ some b → Y.heap[b]? = Xs.heap[b]? := by rw [hXs]; exact hkY
        have hfin := open_step (k := k) (xs := xs) (xe := xe) hgz hgw (by omega) hKZ hBZ hbZ hoZ hiZ.out hbS hGe (fun W hW => ⟨Own.ofBlk (E := edE) (xs := [y]) (by simpa [edE, hlo] using hW) (Nat.le_succ _) (by simp [maxLen]), Own.nil, fun b _ h => by cases h⟩) hoY hbY2 hkY2 (brel_open hr.out hp HXE2.out (fun pre last e => by simp at e) (by simp [BlV.b, File.Block.new, EdV.ed, File.Edit.lo, File.Edit.hi, hlo, HTO.out]) (by simp) (by have := HTO.out; show to_ ≤ 48; omega) (by simp))
        rw [hsz]
        exact hfin
      · subst hrs
        obtain ⟨go, cv, rfl, hgo, _⟩ := Own.at0 ho (by simp)
        obtain ⟨N, hN⟩ : ∃ N, N = pre.length := ⟨_, rfl⟩
        have hNl : (pre ++ [last]).length = N + 1 := by rw [hN]; simp
        rw [hNl] at hb g0 ho
        have hN50 : N + 1 ≤ 50 := by
          have h1 := hr.out.many
          have h2 := (List.getElem?_eq_some_iff.1 hp).1
          rw [hNl] at h1
          omega
        have HNL := Lib.hid hNl
        have HN := Lib.hid hN
        have hxN : (pre ++ [last])[N]? = some last := by rw [hN]; simp
        clear hNl hN
        have ew2 : IntKind.i64.wrap (N : Int) = (N : Int) := IntWalk.i64_in _ (by omega)
        have ew3 : IntKind.i64.wrap ((N : Int) + 1 - 1) = (N : Int) := by rw [show (N : Int) + 1 - 1 = (N : Int) by omega]; exact ew2
        have n0 : (0 : Int) ≤ (N : Int) := by omega
        have n1 : (N : Int) < (N : Int) + 1 := by omega
        have m1 : X.cell? ⟨go, N * 4 + 1, none⟩ = some (iv (last.hi : Int)) := Own.cellAt ho hxN rfl
        by_cases hnear : lo ≤ last.hi
        · have hni : (lo : Int) ≤ (last.hi : Int) := by omega
          gi_wp2_with fail
          refine wpIn_round_quiet (by kernel_rfl) (by kernel_rfl) (by kernel_rfl) (by rintro ⟨_, _, h⟩; exact h) ?_
          repeat (go_big_quiet_step (fail))
          refine wpQuiet_nil ?_
          intro _ hw'
          obtain ⟨nq, hw''⟩ := hw'
          subst hw''
          have hq : Below X.heap.size X (X.drewN nq) := ⟨rfl, rfl, rfl, Nat.le_refl _, fun _ _ => rfl⟩
          have bZ := bX.under hq
          have hbZ := hb.under hq
          have hoZ := ho.below hq
          have hiZ : Hid (Ins (w.heap.size + 6) (X.drewN nq) _) := Lib.hid (hi.out.keep (EdsK.of_below hq))
          have hBZ : Below w.heap.size w (X.drewN nq) := hB.next hq (Nat.le_refl _)
          have hKZ : KeptBut (w.heap.size + 6) g X (X.drewN nq) := KeptBut.of_below hq (by omega)
          have hzZ : w.heap.size + 5 < (X.drewN nq).heap.size := hz
          generalize X.drewN nq = Z at *
          have z0 := bZ.cell 0
          have z1 := bZ.cell 1
          have z2 := bZ.cell 2
          have zl := bZ.lt
          have y0 := hbZ.cell 0
          have yl := hbZ.lt
          have yn : ¬ g = Z.heap.size := by omega
          rw [hlo] at z0
          obtain ⟨MX, hMX⟩ : ∃ MX : Nat, MX = max last.hi to_ := ⟨_, rfl⟩
          have hMXi : max (last.hi : Int) (to_ : Int) = (MX : Int) := by rw [hMX]; omega
          have HMX := Lib.hid hMX
          clear hMX
          gi_wp2_with fail
          refine wpIn_round_held (S := fun z => z.cell? ⟨g, 0, none⟩ = some (.slice (some ⟨go, 0, none⟩) (N + 1) cv)) (by kernel_rfl) (by kernel_rfl) (by rintro ⟨_, _, h⟩; exact h) y0 (fun hHeld => ?_)
          have hq8 : Below Z.heap.size Z Z.drew := (Below.refl _ _).drew
          have bX8 := bZ.under hq8
          have hb8 := hbZ.under hq8
          have ho8 := hoZ.below hq8
          have hi8 : Hid (Ins (w.heap.size + 6) Z.drew (pre ++ [last])) := Lib.hid (hiZ.out.keep (EdsK.of_below hq8))
          have hB8 : Below w.heap.size w Z.drew := hBZ.next hq8 (Nat.le_refl _)
          have hK8 : KeptBut (w.heap.size + 6) g X Z.drew := hKZ.trans (KeptBut.of_below hq8 (by omega))
          have hz8 : w.heap.size + 5 < Z.drew.heap.size := hzZ
          generalize Z.drew = Z8 at *
          have m8 : Z8.cell? ⟨go, N * 4 + 1, none⟩ = some (iv (last.hi : Int)) := Own.cellAt ho8 hxN rfl
          obtain ⟨cs9, hcs9⟩ := Own.blkOf ho8 (by simp)
          have f8 := hcs9.frozen (N * 4 + 1)
          have gl8 := hcs9.lt
          refine wpAnyH_take (i := 0) (v := .slice (some ⟨go, 0, none⟩) (N + 1) cv) rfl (by kernel_rfl) (by kernel_rfl) (by kernel_rfl) (fun _ _ _ h => h) (Or.inl ⟨by rfl, fun z hz => ?_⟩) hHeld ?_
          · skip
            go_simp
          try simp only [Act.put, List.setIfInBounds_toArray, List.set_cons_zero, List.set_cons_succ]
          refine wpAnyH_take (i := 1) (v := iv (N : Int)) rfl (by kernel_rfl) (by kernel_rfl) (by kernel_rfl) (fun _ _ _ h => h) (Or.inl ⟨by rfl, fun z hz => ?_⟩) hHeld ?_
          · skip
            go_simp
          try simp only [Act.put, List.setIfInBounds_toArray, List.set_cons_zero, List.set_cons_succ]
          refine wpAnyH_take (i := 2) (v := .slice (some ⟨go, 0, none⟩) (N + 1) cv) rfl (by kernel_rfl) (by kernel_rfl) (by kernel_rfl) (fun _ _ _ h => h) (Or.inl ⟨by rfl, fun z hz => ?_⟩) hHeld ?_
          · skip
            go_simp
          try simp only [Act.put, List.setIfInBounds_toArray, List.set_cons_zero, List.set_cons_succ]
          refine wpAnyH_take (i := 3) (v := iv (N : Int)) rfl (by kernel_rfl) (by kernel_rfl) (by kernel_rfl) (fun _ _ _ h => h) (Or.inl ⟨by rfl, fun z hz => ?_⟩) hHeld ?_
          · skip
            go_simp
          try simp only [Act.put, List.setIfInBounds_toArray, List.set_cons_zero, List.set_cons_succ]
          refine wpAnyH_take (i := 4) (v := .pointer (some ⟨go, N * 4, none⟩)) rfl (by kernel_rfl) (by kernel_rfl) (by kernel_rfl) (fun _ _ _ h => h) (Or.inl ⟨by rfl, fun z hz => ?_⟩) hHeld ?_
          · skip
            go_simp
          try simp only [Act.put, List.setIfInBounds_toArray, List.set_cons_zero, List.set_cons_succ]
          refine wpAnyH_take (i := 5) (v := .pointer (some ⟨go, N * 4 + 1, none⟩)) rfl (by kernel_rfl) (by kernel_rfl) (by kernel_rfl) (fun _ _ _ h => h) (Or.inl ⟨by rfl, fun z hz => ?_⟩) hHeld ?_
          · skip
            go_simp
          try simp only [Act.put, List.setIfInBounds_toArray, List.set_cons_zero, List.set_cons_succ]
          refine wpAnyH_take (i := 7) (v := iv (to_ : Int)) rfl (by kernel_rfl) (by kernel_rfl) (by kernel_rfl) (fun _ _ _ h => h) (Or.inl ⟨by rfl, fun z hz => ?_⟩) hHeld ?_
          · skip
            go_simp
          try simp only [Act.put, List.setIfInBounds_toArray, List.set_cons_zero, List.set_cons_succ]
          refine wpAnyH_ready (rs := [6]) (by kernel_rfl) (by simp) (AllReadyH.cons rfl (fun K hK => ?_) AllReadyH.nil)
          rw [if_pos (by rfl)]
          go_simp
          refine hK.out _ _ hHeld (fun _ => ?_)
          clear hK K
          try simp only [Act.put, List.setIfInBounds_toArray, List.set_cons_zero, List.set_cons_succ]
          refine wpAnyH_take (i := 8) (v := iv (MX : Int)) rfl (by kernel_rfl) (by kernel_rfl) (by kernel_rfl) (fun _ _ _ h => h) (Or.inl ⟨by rfl, fun z hz => ?_⟩) hHeld ?_
          · skip
            go_simp
          try simp only [Act.put, List.setIfInBounds_toArray, List.set_cons_zero, List.set_cons_succ]
          refine wpAnyH_take (i := 9) (v := .pointer (some ⟨go, N * 4, none⟩)) rfl (by kernel_rfl) (by kernel_rfl) (by kernel_rfl) (fun _ _ _ h => h) (Or.inl ⟨by rfl, fun z hz => ?_⟩) hHeld ?_
          · skip
            go_simp
          try simp only [Act.put, List.setIfInBounds_toArray, List.set_cons_zero, List.set_cons_succ]
          refine wpAnyH_take (i := 10) (v := .pointer (some ⟨go, N * 4 + 1, none⟩)) rfl (by kernel_rfl) (by kernel_rfl) (by kernel_rfl) (fun _ _ _ h => h) (Or.inl ⟨by rfl, fun z hz => ?_⟩) hHeld ?_
          · skip
            go_simp
          try simp only [Act.put, List.setIfInBounds_toArray, List.set_cons_zero, List.set_cons_succ]
          refine wpAnyH_ready (rs := [11]) (by kernel_rfl) (by simp) (AllReadyH.cons rfl (fun K hK => ?_) AllReadyH.nil)
          rw [if_pos (by rfl)]
          go_simp
          obtain ⟨hK9, hB9, hb9, ho9, hi9⟩ := hi_step (h := MX) HN.out hgz hgw hgo hK8 hB8 hb8 ho8 hi8.out
          have hi9' := Lib.hid hi9
          have bX9 : Blk (Z8.setCell ⟨go, N * 4 + 1, none⟩ (iv (MX : Int))) Bx 126 #[iv y.at_, .slice y.A y.old.length y.c, .slice y.A' y.new.length y.c'] := bX8.far (p := ⟨go, N * 4 + 1, none⟩) (fun e => by
            unfold Blk at bX8 hcs9
            rw [e, hcs9] at bX8
            injection bX8 with h9
            injection h9 with _ h9 _
            exact absurd h9 (by decide)) _
          have hz9 : w.heap.size + 5 < (Z8.setCell ⟨go, N * 4 + 1, none⟩ (iv (MX : Int))).heap.size := by simpa [World.setCell] using hz8
          refine hK.out _ _ (hb9.cell 0) (fun _ => ?_)
          clear hK K hi9
          generalize Z8.setCell ⟨go, N * 4 + 1, none⟩ (iv (MX : Int)) = Z9 at *
          try simp only [Act.put, List.setIfInBounds_toArray, List.set_cons_zero, List.set_cons_succ]
          refine wpAnyH_done (by kernel_rfl) ?_ _
          have x0 := bX9.cell 0
          have x1 := bX9.cell 1
          have x2 := bX9.cell 2
          rw [hlo] at x0
          have w0 := hb9.cell 0
          gi_wp2_with fail
          have hS0 : ∀ z : World, Below Z9.heap.size Z9 z → z.cell? ⟨g, 0, none⟩ = some (.slice (some ⟨go, 0, none⟩) (N + 1) cv) ∧ z.cell? ⟨Bx, 0, none⟩ = some (iv (lo : Int)) ∧ z.cell? ⟨Bx, 1, none⟩ = some (.slice y.A y.old.length y.c) ∧ z.cell? ⟨Bx, 2, none⟩ = some (.slice y.A' y.new.length y.c') := fun z h => ⟨(hb9.under h).cell 0, by have := (bX9.under h).cell 0; rw [hlo] at this; exact this, (bX9.under h).cell 1, (bX9.under h).cell 2⟩
          refine wpIn_round_held (S := fun z => z.cell? ⟨g, 0, none⟩ = some (.slice (some ⟨go, 0, none⟩) (N + 1) cv) ∧ z.cell? ⟨Bx, 0, none⟩ = some (iv (lo : Int)) ∧ z.cell? ⟨Bx, 1, none⟩ = some (.slice y.A y.old.length y.c) ∧ z.cell? ⟨Bx, 2, none⟩ = some (.slice y.A' y.new.length y.c')) (by kernel_rfl) (by kernel_rfl) (by rintro ⟨_, _, h⟩; exact h) (hS0 _ (Below.refl _ _).drew) (fun hHeld => ?_)
          have hqd : Below Z9.heap.size Z9 Z9.drew := (Below.refl _ _).drew
          have bXd := bX9.under hqd
          have hbd := hb9.under hqd
          have hod := ho9.below hqd
          have hid : Hid (Ins (w.heap.size + 6) Z9.drew (pre ++ [{ last with hi := MX }])) := Lib.hid (hi9'.out.keep (EdsK.of_below hqd))
          have hBd : Below w.heap.size w Z9.drew := hB9.next hqd (Nat.le_refl _)
          have hKd : KeptBut (w.heap.size + 6) g X Z9.drew := hK9.trans (KeptBut.of_below hqd (by omega))
          have hzd : w.heap.size + 5 < Z9.drew.heap.size := hz9
          generalize Z9.drew = Zd at *
          obtain ⟨M, hmM, hMZ, hold, hla⟩ := hid.out _ _ rfl
          have hxM : (pre ++ [({ last with hi := MX } : BlV)])[N]? = some { last with hi := MX } := by rw [HN.out]; simp
          have mI : Zd.cell? ⟨go, N * 4 + 2 + 0, none⟩ = some last.v0 := Own.cellAt hod hxM (j := 2 + 0) rfl
          obtain ⟨csd, hcsd⟩ := Own.blkOf hod (by simp)
          have gld := hcsd.lt
          have hlI : Hid (last.e0.length + 1 ≤ big) := Lib.hid (by have := (hr.out.high last (by simp)).2; have h9 := (List.getElem?_eq_some_iff.1 hp).1; unfold big; omega)
          have HLI := hlI
          refine wpAnyH_take (i := 0) (v := .slice (some ⟨go, 0, none⟩) (N + 1) cv) rfl (by kernel_rfl) (by kernel_rfl) (by kernel_rfl) (fun _ _ _ h => h) (Or.inl ⟨by rfl, fun z hz => ?_⟩) hHeld ?_
          · obtain ⟨f0, f1, f2, f3⟩ := hz
            go_simp
          try simp only [Act.put, List.setIfInBounds_toArray, List.set_cons_zero, List.set_cons_succ]
          refine wpAnyH_take (i := 1) (v := iv (N : Int)) rfl (by kernel_rfl) (by kernel_rfl) (by kernel_rfl) (fun _ _ _ h => h) (Or.inl ⟨by rfl, fun z hz => ?_⟩) hHeld ?_
          · skip
            go_simp
          try simp only [Act.put, List.setIfInBounds_toArray, List.set_cons_zero, List.set_cons_succ]
          refine wpAnyH_take (i := 2) (v := iv 0) rfl (by kernel_rfl) (by kernel_rfl) (by kernel_rfl) (fun _ _ _ h => h) (Or.inl ⟨by rfl, fun z hz => ?_⟩) hHeld ?_
          · skip
            go_simp
          try simp only [Act.put, List.setIfInBounds_toArray, List.set_cons_zero, List.set_cons_succ]
          refine wpAnyH_take (i := 3) (v := .slice (some ⟨go, 0, none⟩) (N + 1) cv) rfl (by kernel_rfl) (by kernel_rfl) (by kernel_rfl) (fun _ _ _ h => h) (Or.inl ⟨by rfl, fun z hz => ?_⟩) hHeld ?_
          · obtain ⟨f0, f1, f2, f3⟩ := hz
            go_simp
          try simp only [Act.put, List.setIfInBounds_toArray, List.set_cons_zero, List.set_cons_succ]
          refine wpAnyH_take (i := 4) (v := iv (N : Int)) rfl (by kernel_rfl) (by kernel_rfl) (by kernel_rfl) (fun _ _ _ h => h) (Or.inl ⟨by rfl, fun z hz => ?_⟩) hHeld ?_
          · skip
            go_simp
          try simp only [Act.put, List.setIfInBounds_toArray, List.set_cons_zero, List.set_cons_succ]
          refine wpAnyH_take (i := 5) (v := iv 0) rfl (by kernel_rfl) (by kernel_rfl) (by kernel_rfl) (fun _ _ _ h => h) (Or.inl ⟨by rfl, fun z hz => ?_⟩) hHeld ?_
          · skip
            go_simp
          try simp only [Act.put, List.setIfInBounds_toArray, List.set_cons_zero, List.set_cons_succ]
          refine wpAnyH_take (i := 6) (v := .pointer (some ⟨go, N * 4, none⟩)) rfl (by kernel_rfl) (by kernel_rfl) (by kernel_rfl) (fun _ _ _ h => h) (Or.inl ⟨by rfl, fun z hz => ?_⟩) hHeld ?_
          · skip
            go_simp
          try simp only [Act.put, List.setIfInBounds_toArray, List.set_cons_zero, List.set_cons_succ]
          refine wpAnyH_take (i := 7) (v := .pointer (some ⟨go, N * 4 + 2, none⟩)) rfl (by kernel_rfl) (by kernel_rfl) (by kernel_rfl) (fun _ _ _ h => h) (Or.inl ⟨by rfl, fun z hz => ?_⟩) hHeld ?_
          · skip
            go_simp
          try simp only [Act.put, List.setIfInBounds_toArray, List.set_cons_zero, List.set_cons_succ]
          refine wpAnyH_take (i := 8) (v := .pointer (some ⟨go, N * 4 + 2 + 0, none⟩)) rfl (by kernel_rfl) (by kernel_rfl) (by kernel_rfl) (fun _ _ _ h => h) (Or.inl ⟨by rfl, fun z hz => ?_⟩) hHeld ?_
          · skip
            go_simp
          try simp only [Act.put, List.setIfInBounds_toArray, List.set_cons_zero, List.set_cons_succ]
          refine wpAnyH_take (i := 10) (v := .agg #[iv (lo : Int), .slice y.A y.old.length y.c, .slice y.A' y.new.length y.c']) rfl (by kernel_rfl) (by kernel_rfl) (by kernel_rfl) (fun _ _ _ h => h) (Or.inl ⟨by rfl, fun z hz => ?_⟩) hHeld ?_
          · obtain ⟨f0, f1, f2, f3⟩ := hz
            go_simp
          try simp only [Act.put, List.setIfInBounds_toArray, List.set_cons_zero, List.set_cons_succ]
          refine wpAnyH_take (i := 13) (v := .pointer (some ⟨go, N * 4, none⟩)) rfl (by kernel_rfl) (by kernel_rfl) (by kernel_rfl) (fun _ _ _ h => h) (Or.inl ⟨by rfl, fun z hz => ?_⟩) hHeld ?_
          · skip
            go_simp
          try simp only [Act.put, List.setIfInBounds_toArray, List.set_cons_zero, List.set_cons_succ]
          refine wpAnyH_take (i := 14) (v := .pointer (some ⟨go, N * 4 + 2, none⟩)) rfl (by kernel_rfl) (by kernel_rfl) (by kernel_rfl) (fun _ _ _ h => h) (Or.inl ⟨by rfl, fun z hz => ?_⟩) hHeld ?_
          · skip
            go_simp
          try simp only [Act.put, List.setIfInBounds_toArray, List.set_cons_zero, List.set_cons_succ]
          have HBA : Hid (Below Zd.heap.size Zd (Zd.alloc (.cells #[iv (lo : Int), .slice y.A y.old.length y.c, .slice y.A' y.new.length y.c'] 126))) := Lib.hid ((Below.refl _ _).alloc (Nat.le_refl _) _)
          have hSA : ∀ z : World, Below Zd.heap.size Zd z → z.cell? ⟨g, 0, none⟩ = some (.slice (some ⟨go, 0, none⟩) (N + 1) cv) ∧ z.cell? ⟨Bx, 0, none⟩ = some (iv (lo : Int)) ∧ z.cell? ⟨Bx, 1, none⟩ = some (.slice y.A y.old.length y.c) ∧ z.cell? ⟨Bx, 2, none⟩ = some (.slice y.A' y.new.length y.c') := fun z h => ⟨(hbd.under h).cell 0, by have := (bXd.under h).cell 0; rw [hlo] at this; exact this, (bXd.under h).cell 1, (bXd.under h).cell 2⟩
          have HSL : Hid (Sl edE (Zd.alloc (.cells #[iv (lo : Int), .slice y.A y.old.length y.c, .slice y.A' y.new.length y.c'] 126)) (some ⟨Zd.heap.size, 0, none⟩) [y]) := Lib.hid (Sl.fresh edE Zd 126 #[iv (lo : Int), .slice y.A y.old.length y.c, .slice y.A' y.new.length y.c'] [y] (by simp [edE, hlo]) (by simp [maxLen]))
          have HOI : Hid (Own edE 126 M (Zd.alloc (.cells #[iv (lo : Int), .slice y.A y.old.length y.c, .slice y.A' y.new.length y.c'] 126)) last.v0 last.e0) := Lib.hid (Own.below hla.o0 HBA.out)
          have HZA : Hid (M ≤ (Zd.alloc (.cells #[iv (lo : Int), .slice y.A y.old.length y.c, .slice y.A' y.new.length y.c'] 126)).heap.size) := Lib.hid (Nat.le_trans hMZ HBA.out.size)
          have mA : (Zd.alloc (.cells #[iv (lo : Int), .slice y.A y.old.length y.c, .slice y.A' y.new.length y.c'] 126)).cell? ⟨go, N * 4 + 2 + 0, none⟩ = some last.v0 := (HBA.out.cell (p := ⟨go, _, none⟩) gld).trans mI
          have hne : last.v0.ownBlock ≠ some Bx := fun e => (hXB last (by simp)).1 e
          refine wpAnyH_ready (rs := [9, 11]) (by kernel_rfl) (by simp) (AllReadyH.cons rfl (fun K hK => ?_) (AllReadyH.cons rfl (fun K hK => ?_) AllReadyH.nil))
          · rw [if_pos (by rfl)]
            go_simp
            refine hK.out _ _ hHeld (fun _ => ?_)
            clear hK K
            try simp only [Act.put, List.setIfInBounds_toArray, List.set_cons_zero, List.set_cons_succ]
            refine wpAnyH_ready (rs := [11]) (by kernel_rfl) (by simp) (AllReadyH.cons rfl (fun K hK => ?_) AllReadyH.nil)
            rw [if_pos (by rfl)]
            go_simp
            refine hK.out _ _ (hSA _ HBA.out) (fun hHeld => ?_)
            clear hK K
            try simp only [Act.put, List.setIfInBounds_toArray, List.set_cons_zero, List.set_cons_succ]
            refine wpAnyH_ready (rs := [12]) (by kernel_rfl) (by simp) (AllReadyH.cons rfl (fun K hK => ?_) AllReadyH.nil)
            refine stepApp1At edE tyEds (by rfl) _ _ (by rfl) HOI.out HSL.out (by rfl) (by rfl) HZA.out HLI.out ?_
            intro v2 Y ho2 hb2 hk2 hat2
            obtain ⟨A2, c2, hv2, _, _⟩ := ho2.form
            rw [List.length_append, List.length_singleton] at hv2
            subst hv2
            have hbA := HBA.out
            have hYg : Blk Y g 75 #[.slice (some ⟨go, 0, none⟩) (N + 1) cv] := (hbd.under hbA).below hb2 (by omega)
            have hoA := hod.below hbA
            have hYo : Own blE 81 (w.heap.size + 6) Y (.slice (some ⟨go, 0, none⟩) (N + 1) cv) (pre ++ [{ last with hi := MX }]) := hoA.keep hb2.size fun b hb => hk2 b (hoA.lt b hb).2 (Own.two hoA HOI.out (by decide) hb)
            have hYX : Blk Y Bx 126 #[iv y.at_, .slice y.A y.old.length y.c, .slice y.A' y.new.length y.c'] := (hk2 Bx (bXd.under hbA).lt hne).trans (bXd.under hbA)
            have hYX0 := hYX.cell 0
            rw [hlo] at hYX0
            obtain ⟨csY, hcsY⟩ := Own.blkOf hYo (by simp)
            have fY := hcsY.frozen (N * 4 + 2 + 0)
            have lY := hcsY.lt
            have mY : Y.cell? ⟨go, N * 4 + 2 + 0, none⟩ = some last.v0 := Own.cellAt hYo hxM (j := 2 + 0) rfl
            have hrel0 : BRel xs xe (k + 1) (pre ++ [({ last with hi := MX, A0 := A2, c0 := c2, e0 := last.e0 ++ [y] } : BlV)]) := brel_add (last := last) hr.out hg hp HXE2.out (by rw [hlo]; simpa using hnear) (by simp [BlV.b, File.Block.add, EdV.ed, File.Edit.hi, hlo, HTO.out, HMX.out]) (memGrow0 last y) (by have h1 := (hr.out.high last (by simp)).1; have h2 := HTO.out; have h3 := HMX.out; show MX ≤ 48; omega) (by simp)
            have hfin := grow0 (k := k) (xs := xs) (xe := xe) (X := X) (w := w) HN.out hgz hgw (by omega) hKd hBd hbd hgo hod hmM hMZ hold hla hbA ho2 hb2 hk2 hat2 hrel0
            refine hK.out _ _ ⟨hYg.cell 0, hYX0, hYX.cell 1, hYX.cell 2⟩ (fun hHeld => ?_)
            clear hK K
            try simp only [Act.put, List.setIfInBounds_toArray, List.set_cons_zero, List.set_cons_succ]
            refine wpAnyH_take (i := 15) (v := .pointer (some ⟨go, N * 4 + 2 + 0, none⟩)) rfl (by kernel_rfl) (by kernel_rfl) (by kernel_rfl) (fun _ _ _ h => h) (Or.inl ⟨by rfl, fun z hz => ?_⟩) hHeld ?_
            · skip
              go_simp
            try simp only [Act.put, List.setIfInBounds_toArray, List.set_cons_zero, List.set_cons_succ]
            refine wpAnyH_ready (rs := [16]) (by kernel_rfl) (by simp) (AllReadyH.cons rfl (fun K hK => ?_) AllReadyH.nil)
            rw [if_pos (by rfl)]
            go_simp
            have hF0 : (Y.setCell ⟨go, N * 4 + 2 + 0, none⟩ (.slice A2 (last.e0.length + 1) c2)).cell? ⟨g, 0, none⟩ = some (.slice (some ⟨go, 0, none⟩) (N + 1) cv) := (hYg.far (p := ⟨go, _, none⟩) (show g ≠ go by omega) _).cell 0
            have hBg : Bx ≠ go := fun e => by
              unfold Blk at hYX hcsY
              rw [e, hcsY] at hYX
              injection hYX with h9
              injection h9 with _ h9 _
              exact absurd h9 (by decide)
            have hFX := hYX.far (p := ⟨go, N * 4 + 2 + 0, none⟩) hBg (.slice A2 (last.e0.length + 1) c2)
            have hFX0 := hFX.cell 0
            rw [hlo] at hFX0
            refine hK.out _ _ ⟨hF0, hFX0, hFX.cell 1, hFX.cell 2⟩ (fun _ => ?_)
            clear hK K
            try simp only [Act.put, List.setIfInBounds_toArray, List.set_cons_zero, List.set_cons_succ]
            refine wpAnyH_done (by kernel_rfl) ?_ _
            have HFIN := Lib.hid hfin
            clear hfin
            gi_wp2_with fail
            obtain ⟨q1, q2, q3, q4, q5, q6, q7, q8⟩ := HFIN.out
            exact ⟨q1, q2, q4, q3, q5, q6, q7, q8⟩
          · rw [if_pos (by rfl)]
            go_simp
            refine hK.out _ _ (hSA _ HBA.out) (fun hHeld => ?_)
            clear hK K
            try simp only [Act.put, List.setIfInBounds_toArray, List.set_cons_zero, List.set_cons_succ]
            refine wpAnyH_ready (rs := [9]) (by kernel_rfl) (by simp) (AllReadyH.cons rfl (fun K hK => ?_) AllReadyH.nil)
            rw [if_pos (by rfl)]
            go_simp
            refine hK.out _ _ hHeld (fun _ => ?_)
            clear hK K
            try simp only [Act.put, List.setIfInBounds_toArray, List.set_cons_zero, List.set_cons_succ]
            refine wpAnyH_ready (rs := [12]) (by kernel_rfl) (by simp) (AllReadyH.cons rfl (fun K hK => ?_) AllReadyH.nil)
            refine stepApp1At edE tyEds (by rfl) _ _ (by rfl) HOI.out HSL.out (by rfl) (by rfl) HZA.out HLI.out ?_
            intro v2 Y ho2 hb2 hk2 hat2
            obtain ⟨A2, c2, hv2, _, _⟩ := ho2.form
            rw [List.length_append, List.length_singleton] at hv2
            subst hv2
            have hbA := HBA.out
            have hYg : Blk Y g 75 #[.slice (some ⟨go, 0, none⟩) (N + 1) cv] := (hbd.under hbA).below hb2 (by omega)
            have hoA := hod.below hbA
            have hYo : Own blE 81 (w.heap.size + 6) Y (.slice (some ⟨go, 0, none⟩) (N + 1) cv) (pre ++ [{ last with hi := MX }]) := hoA.keep hb2.size fun b hb => hk2 b (hoA.lt b hb).2 (Own.two hoA HOI.out (by decide) hb)
            have hYX : Blk Y Bx 126 #[iv y.at_, .slice y.A y.old.length y.c, .slice y.A' y.new.length y.c'] := (hk2 Bx (bXd.under hbA).lt hne).trans (bXd.under hbA)
            have hYX0 := hYX.cell 0
            rw [hlo] at hYX0
            obtain ⟨csY, hcsY⟩ := Own.blkOf hYo (by simp)
            have fY := hcsY.frozen (N * 4 + 2 + 0)
            have lY := hcsY.lt
            have mY : Y.cell? ⟨go, N * 4 + 2 + 0, none⟩ = some last.v0 := Own.cellAt hYo hxM (j := 2 + 0) rfl
            have hrel0 : BRel xs xe (k + 1) (pre ++ [({ last with hi := MX, A0 := A2, c0 := c2, e0 := last.e0 ++ [y] } : BlV)]) := brel_add (last := last) hr.out hg hp HXE2.out (by rw [hlo]; simpa using hnear) (by simp [BlV.b, File.Block.add, EdV.ed, File.Edit.hi, hlo, HTO.out, HMX.out]) (memGrow0 last y) (by have h1 := (hr.out.high last (by simp)).1; have h2 := HTO.out; have h3 := HMX.out; show MX ≤ 48; omega) (by simp)
            have hfin := grow0 (k := k) (xs := xs) (xe := xe) (X := X) (w := w) HN.out hgz hgw (by omega) hKd hBd hbd hgo hod hmM hMZ hold hla hbA ho2 hb2 hk2 hat2 hrel0
            refine hK.out _ _ ⟨hYg.cell 0, hYX0, hYX.cell 1, hYX.cell 2⟩ (fun hHeld => ?_)
            clear hK K
            try simp only [Act.put, List.setIfInBounds_toArray, List.set_cons_zero, List.set_cons_succ]
            refine wpAnyH_take (i := 15) (v := .pointer (some ⟨go, N * 4 + 2 + 0, none⟩)) rfl (by kernel_rfl) (by kernel_rfl) (by kernel_rfl) (fun _ _ _ h => h) (Or.inl ⟨by rfl, fun z hz => ?_⟩) hHeld ?_
            · skip
              go_simp
            try simp only [Act.put, List.setIfInBounds_toArray, List.set_cons_zero, List.set_cons_succ]
            refine wpAnyH_ready (rs := [16]) (by kernel_rfl) (by simp) (AllReadyH.cons rfl (fun K hK => ?_) AllReadyH.nil)
            rw [if_pos (by rfl)]
            go_simp
            have hF0 : (Y.setCell ⟨go, N * 4 + 2 + 0, none⟩ (.slice A2 (last.e0.length + 1) c2)).cell? ⟨g, 0, none⟩ = some (.slice (some ⟨go, 0, none⟩) (N + 1) cv) := (hYg.far (p := ⟨go, _, none⟩) (show g ≠ go by omega) _).cell 0
            have hBg : Bx ≠ go := fun e => by
              unfold Blk at hYX hcsY
              rw [e, hcsY] at hYX
              injection hYX with h9
              injection h9 with _ h9 _
              exact absurd h9 (by decide)
            have hFX := hYX.far (p := ⟨go, N * 4 + 2 + 0, none⟩) hBg (.slice A2 (last.e0.length + 1) c2)
            have hFX0 := hFX.cell 0
            rw [hlo] at hFX0
            refine hK.out _ _ ⟨hF0, hFX0, hFX.cell 1, hFX.cell 2⟩ (fun _ => ?_)
            clear hK K
            try simp only [Act.put, List.setIfInBounds_toArray, List.set_cons_zero, List.set_cons_succ]
            refine wpAnyH_done (by kernel_rfl) ?_ _
            have HFIN := Lib.hid hfin
            clear hfin
            gi_wp2_with fail
            obtain ⟨q1, q2, q3, q4, q5, q6, q7, q8⟩ := HFIN.out
            exact ⟨q1, q2, q4, q3, q5, q6, q7, q8⟩
        · have hni : ¬ (lo : Int) ≤ (last.hi : Int) := by omega
          gi_wp2_with fail
          refine wpIn_round_quiet (by kernel_rfl) (by kernel_rfl) (by kernel_rfl) (by rintro ⟨_, _, h⟩; exact h) ?_
          repeat (go_big_quiet_step (fail))
          refine wpQuiet_nil ?_
          intro _ hw'
          obtain ⟨nq, hw''⟩ := hw'
          subst hw''
          have hq : Below X.heap.size X (X.drewN nq) := ⟨rfl, rfl, rfl, Nat.le_refl _, fun _ _ => rfl⟩
          have bZ := bX.under hq
          have hbZ := hb.under hq
          have hoZ := ho.below hq
          have hiZ : Hid (Ins (w.heap.size + 6) (X.drewN nq) _) := Lib.hid (hi.out.keep (EdsK.of_below hq))
          have hBZ : Below w.heap.size w (X.drewN nq) := hB.next hq (Nat.le_refl _)
          have hKZ : KeptBut (w.heap.size + 6) g X (X.drewN nq) := KeptBut.of_below hq (by omega)
          have hzZ : w.heap.size + 5 < (X.drewN nq).heap.size := hz
          generalize X.drewN nq = Z at *
          have z0 := bZ.cell 0
          have z1 := bZ.cell 1
          have z2 := bZ.cell 2
          have zl := bZ.lt
          have y0 := hbZ.cell 0
          have yl := hbZ.lt
          have yn : ¬ g = Z.heap.size := by omega
          rw [hlo] at z0
          obtain ⟨Xs, hXs⟩ : ∃ Xs, Xs = (Z.alloc (.cells #[iv (lo : Int), iv (to_ : Int), .slice (some ⟨Z.heap.size + 1, 0, none⟩) 1 1, .slice none 0 0] 81)).alloc (.cells #[iv (lo : Int), .slice y.A y.old.length y.c, .slice y.A' y.new.length y.c'] 126) := ⟨_, rfl⟩
          have hbS : Below Z.heap.size Z Xs := by rw [hXs]; exact ((Below.refl _ Z).alloc (Nat.le_refl _) _).alloc (by simp) _
          have hGe : Blk Xs (Z.heap.size + 1) 126 #[iv (lo : Int), .slice y.A y.old.length y.c, .slice y.A' y.new.length y.c'] := by
            rw [hXs]
            exact Blk.new_ _ _ _ (by simp)
          have hoS := Lib.hid (hoZ.below hbS)
          have hzS : Hid (w.heap.size + 6 ≤ Xs.heap.size) := Lib.hid (by have := hbS.size; omega)
          have hlen : Hid (((pre ++ [last]) : List BlV).length + 1 ≤ big) := Lib.hid (by have := hr.out.many; have h9 := (List.getElem?_eq_some_iff.1 hp).1; unfold big; omega)
          rw [hXs] at hoS hzS
          gi_wp2_with (gi_at_builtin; refine wpApp1In blE tyBlocks rfl _ _ rfl hoS.out (⟨lo, to_, some ⟨Z.heap.size + 1, 0, none⟩, 1, [y], none, 0, []⟩ : BlV) rfl rfl (G := Z.heap.size + 1 + 1) (by simp) rfl hzS.out hlen.out ?_; intro v1 Y hoY hbY hkY; obtain ⟨Av1, cv1, hv1, _, _⟩ := hoY.form; (try rw [show (((pre ++ [last])) ++ [(⟨lo, to_, some ⟨Z.heap.size + 1, 0, none⟩, 1, [y], none, 0, []⟩ : BlV)]).length = (N + 2) from (by (rw [List.length_append, HNL.out]; rfl))] at hv1); subst hv1; have hY1 := (hbZ.under hbS).below (hXs ▸ hbY) (by omega); have e0 := hY1.cell 0; have ef := hY1.frozen 0; have el := hY1.lt)
          have hbY2 : Below (w.heap.size + 6) Xs Y := by rw [hXs]; exact hbY
          have hkY2 : ∀ b, b < Xs.heap.size → Value.ownBlock (.slice (some ⟨go, 0, none⟩) (N + 1) cv) ≠ some b → Y.heap[b]? = Xs.heap[b]? := by rw [hXs]; exact hkY
          have hfin := open_step (k := k) (xs := xs) (xe := xe) hgz hgw (by omega) hKZ hBZ hbZ hoZ hiZ.out hbS hGe (fun W hW => ⟨Own.ofBlk (E := edE) (xs := [y]) (by simpa [edE, hlo] using hW) (Nat.le_succ _) (by simp [maxLen]), Own.nil, fun b _ h => by cases h⟩) hoY hbY2 hkY2 (brel_open hr.out hp HXE2.out (fun pre' last' e => by (obtain ⟨_, e2⟩ := List.append_inj' e rfl; injection e2 with e2; subst e2; rw [hlo]; simp; omega)) (by simp [BlV.b, File.Block.new, EdV.ed, File.Edit.lo, File.Edit.hi, hlo, HTO.out]) (by simp) (by have := HTO.out; show to_ ≤ 48; omega) (by simp))
          rw [hsz]
          exact hfin
    · simp only [reduceIte]
      rcases hr.out.way with ⟨hk0, hrs⟩ | ⟨pre, last, hrs, hg⟩
      · subst hrs
        obtain ⟨Av, cv, rfl, _, _⟩ := ho.form
        have ew2 : IntKind.i64.wrap (((([] : List BlV).length : Nat) : Int) - 1) = -1 := rfl
        gi_wp2_with fail
        refine wpIn_round_quiet (by kernel_rfl) (by kernel_rfl) (by kernel_rfl) (by rintro ⟨_, _, h⟩; exact h) ?_
        repeat (go_big_quiet_step (fail))
        refine wpQuiet_nil ?_
        intro _ hw'
        obtain ⟨nq, hw''⟩ := hw'
        subst hw''
        have hq : Below X.heap.size X (X.drewN nq) := ⟨rfl, rfl, rfl, Nat.le_refl _, fun _ _ => rfl⟩
        have bZ := bX.under hq
        have hbZ := hb.under hq
        have hoZ := ho.below hq
        have hiZ : Hid (Ins (w.heap.size + 6) (X.drewN nq) _) := Lib.hid (hi.out.keep (EdsK.of_below hq))
        have hBZ : Below w.heap.size w (X.drewN nq) := hB.next hq (Nat.le_refl _)
        have hKZ : KeptBut (w.heap.size + 6) g X (X.drewN nq) := KeptBut.of_below hq (by omega)
        have hzZ : w.heap.size + 5 < (X.drewN nq).heap.size := hz
        generalize X.drewN nq = Z at *
        have z0 := bZ.cell 0
        have z1 := bZ.cell 1
        have z2 := bZ.cell 2
        have zl := bZ.lt
        have y0 := hbZ.cell 0
        have yl := hbZ.lt
        have yn : ¬ g = Z.heap.size := by omega
        rw [hlo] at z0
        obtain ⟨Xs, hXs⟩ : ∃ Xs, Xs = (Z.alloc (.cells #[iv (lo : Int), iv (to_ : Int), .slice none 0 0, .slice (some ⟨Z.heap.size + 1, 0, none⟩) 1 1] 81)).alloc (.cells #[iv (lo : Int), .slice y.A y.old.length y.c, .slice y.A' y.new.length y.c'] 126) := ⟨_, rfl⟩
        have hbS : Below Z.heap.size Z Xs := by rw [hXs]; exact ((Below.refl _ Z).alloc (Nat.le_refl _) _).alloc (by simp) _
        have hGe : Blk Xs (Z.heap.size + 1) 126 #[iv (lo : Int), .slice y.A y.old.length y.c, .slice y.A' y.new.length y.c'] := by
          rw [hXs]
          exact Blk.new_ _ _ _ (by simp)
        have hoS := Lib.hid (hoZ.below hbS)
        have hzS : Hid (w.heap.size + 6 ≤ Xs.heap.size) := Lib.hid (by have := hbS.size; omega)
        have hlen : Hid (([] : List BlV).length + 1 ≤ big) := Lib.hid (by have := hr.out.many; have h9 := (List.getElem?_eq_some_iff.1 hp).1; unfold big; omega)
        rw [hXs] at hoS hzS
        gi_wp2_with (gi_at_builtin; refine wpApp1In blE tyBlocks rfl _ _ rfl hoS.out (⟨lo, to_, none, 0, [], some ⟨Z.heap.size + 1, 0, none⟩, 1, [y]⟩ : BlV) rfl rfl (G := Z.heap.size + 1 + 1) (by simp) rfl hzS.out hlen.out ?_; intro v1 Y hoY hbY hkY; obtain ⟨Av1, cv1, hv1, _, _⟩ := hoY.form; (try rw [show (([]) ++ [(⟨lo, to_, none, 0, [], some ⟨Z.heap.size + 1, 0, none⟩, 1, [y]⟩ : BlV)]).length = 1 from (by (rw [List.length_append, HNL.out]; rfl))] at hv1); subst hv1; have hY1 := (hbZ.under hbS).below (hXs ▸ hbY) (by omega); have e0 := hY1.cell 0; have ef := hY1.frozen 0; have el := hY1.lt)
        have hbY2 : Below (w.heap.size + 6) Xs Y := by rw [hXs]; exact hbY
        have hkY2 : ∀ b, b < Xs.heap.size → Value.ownBlock (.slice Av 0 cv) ≠ some b → Y.heap[b]? = Xs.heap[b]? := by rw [hXs]; exact hkY
        have hfin := open_step (k := k) (xs := xs) (xe := xe) hgz hgw (by omega) hKZ hBZ hbZ hoZ hiZ.out hbS hGe (fun W hW => ⟨Own.nil, Own.ofBlk (E := edE) (xs := [y]) (by simpa [edE, hlo] using hW) (Nat.le_succ _) (by simp [maxLen]), fun b h => by cases h⟩) hoY hbY2 hkY2 (brel_open hr.out hp HXE2.out (fun pre last e => by simp at e) (by simp [BlV.b, File.Block.new, EdV.ed, File.Edit.lo, File.Edit.hi, hlo, HTO.out]) (by simp) (by have := HTO.out; show to_ ≤ 48; omega) (by simp))
        rw [hsz]
        exact hfin
      · subst hrs
        obtain ⟨go, cv, rfl, hgo, _⟩ := Own.at0 ho (by simp)
        obtain ⟨N, hN⟩ : ∃ N, N = pre.length := ⟨_, rfl⟩
        have hNl : (pre ++ [last]).length = N + 1 := by rw [hN]; simp
        rw [hNl] at hb g0 ho
        have hN50 : N + 1 ≤ 50 := by
          have h1 := hr.out.many
          have h2 := (List.getElem?_eq_some_iff.1 hp).1
          rw [hNl] at h1
          omega
        have HNL := Lib.hid hNl
        have HN := Lib.hid hN
        have hxN : (pre ++ [last])[N]? = some last := by rw [hN]; simp
        clear hNl hN
        have ew2 : IntKind.i64.wrap (N : Int) = (N : Int) := IntWalk.i64_in _ (by omega)
        have ew3 : IntKind.i64.wrap ((N : Int) + 1 - 1) = (N : Int) := by rw [show (N : Int) + 1 - 1 = (N : Int) by omega]; exact ew2
        have n0 : (0 : Int) ≤ (N : Int) := by omega
        have n1 : (N : Int) < (N : Int) + 1 := by omega
        have m1 : X.cell? ⟨go, N * 4 + 1, none⟩ = some (iv (last.hi : Int)) := Own.cellAt ho hxN rfl
        by_cases hnear : lo ≤ last.hi
        · have hni : (lo : Int) ≤ (last.hi : Int) := by omega
          gi_wp2_with fail
          refine wpIn_round_quiet (by kernel_rfl) (by kernel_rfl) (by kernel_rfl) (by rintro ⟨_, _, h⟩; exact h) ?_
          repeat (go_big_quiet_step (fail))
          refine wpQuiet_nil ?_
          intro _ hw'
          obtain ⟨nq, hw''⟩ := hw'
          subst hw''
          have hq : Below X.heap.size X (X.drewN nq) := ⟨rfl, rfl, rfl, Nat.le_refl _, fun _ _ => rfl⟩
          have bZ := bX.under hq
          have hbZ := hb.under hq
          have hoZ := ho.below hq
          have hiZ : Hid (Ins (w.heap.size + 6) (X.drewN nq) _) := Lib.hid (hi.out.keep (EdsK.of_below hq))
          have hBZ : Below w.heap.size w (X.drewN nq) := hB.next hq (Nat.le_refl _)
          have hKZ : KeptBut (w.heap.size + 6) g X (X.drewN nq) := KeptBut.of_below hq (by omega)
          have hzZ : w.heap.size + 5 < (X.drewN nq).heap.size := hz
          generalize X.drewN nq = Z at *
          have z0 := bZ.cell 0
          have z1 := bZ.cell 1
          have z2 := bZ.cell 2
          have zl := bZ.lt
          have y0 := hbZ.cell 0
          have yl := hbZ.lt
          have yn : ¬ g = Z.heap.size := by omega
          rw [hlo] at z0
          obtain ⟨MX, hMX⟩ : ∃ MX : Nat, MX = max last.hi to_ := ⟨_, rfl⟩
          have hMXi : max (last.hi : Int) (to_ : Int) = (MX : Int) := by rw [hMX]; omega
          have HMX := Lib.hid hMX
          clear hMX
          gi_wp2_with fail
          refine wpIn_round_held (S := fun z => z.cell? ⟨g, 0, none⟩ = some (.slice (some ⟨go, 0, none⟩) (N + 1) cv)) (by kernel_rfl) (by kernel_rfl) (by rintro ⟨_, _, h⟩; exact h) y0 (fun hHeld => ?_)
          have hq8 : Below Z.heap.size Z Z.drew := (Below.refl _ _).drew
          have bX8 := bZ.under hq8
          have hb8 := hbZ.under hq8
          have ho8 := hoZ.below hq8
          have hi8 : Hid (Ins (w.heap.size + 6) Z.drew (pre ++ [last])) := Lib.hid (hiZ.out.keep (EdsK.of_below hq8))
          have hB8 : Below w.heap.size w Z.drew := hBZ.next hq8 (Nat.le_refl _)
          have hK8 : KeptBut (w.heap.size + 6) g X Z.drew := hKZ.trans (KeptBut.of_below hq8 (by omega))
          have hz8 : w.heap.size + 5 < Z.drew.heap.size := hzZ
          generalize Z.drew = Z8 at *
          have m8 : Z8.cell? ⟨go, N * 4 + 1, none⟩ = some (iv (last.hi : Int)) := Own.cellAt ho8 hxN rfl
          obtain ⟨cs9, hcs9⟩ := Own.blkOf ho8 (by simp)
          have f8 := hcs9.frozen (N * 4 + 1)
          have gl8 := hcs9.lt
          refine wpAnyH_take (i := 0) (v := .slice (some ⟨go, 0, none⟩) (N + 1) cv) rfl (by kernel_rfl) (by kernel_rfl) (by kernel_rfl) (fun _ _ _ h => h) (Or.inl ⟨by rfl, fun z hz => ?_⟩) hHeld ?_
          · skip
            go_simp
          try simp only [Act.put, List.setIfInBounds_toArray, List.set_cons_zero, List.set_cons_succ]
          refine wpAnyH_take (i := 1) (v := iv (N : Int)) rfl (by kernel_rfl) (by kernel_rfl) (by kernel_rfl) (fun _ _ _ h => h) (Or.inl ⟨by rfl, fun z hz => ?_⟩) hHeld ?_
          · skip
            go_simp
          try simp only [Act.put, List.setIfInBounds_toArray, List.set_cons_zero, List.set_cons_succ]
          refine wpAnyH_take (i := 2) (v := .slice (some ⟨go, 0, none⟩) (N + 1) cv) rfl (by kernel_rfl) (by kernel_rfl) (by kernel_rfl) (fun _ _ _ h => h) (Or.inl ⟨by rfl, fun z hz => ?_⟩) hHeld ?_
          · skip
            go_simp
          try simp only [Act.put, List.setIfInBounds_toArray, List.set_cons_zero, List.set_cons_succ]
          refine wpAnyH_take (i := 3) (v := iv (N : Int)) rfl (by kernel_rfl) (by kernel_rfl) (by kernel_rfl) (fun _ _ _ h => h) (Or.inl ⟨by rfl, fun z hz => ?_⟩) hHeld ?_
          · skip
            go_simp
          try simp only [Act.put, List.setIfInBounds_toArray, List.set_cons_zero, List.set_cons_succ]
          refine wpAnyH_take (i := 4) (v := .pointer (some ⟨go, N * 4, none⟩)) rfl (by kernel_rfl) (by kernel_rfl) (by kernel_rfl) (fun _ _ _ h => h) (Or.inl ⟨by rfl, fun z hz => ?_⟩) hHeld ?_
          · skip
            go_simp
          try simp only [Act.put, List.setIfInBounds_toArray, List.set_cons_zero, List.set_cons_succ]
          refine wpAnyH_take (i := 5) (v := .pointer (some ⟨go, N * 4 + 1, none⟩)) rfl (by kernel_rfl) (by kernel_rfl) (by kernel_rfl) (fun _ _ _ h => h) (Or.inl ⟨by rfl, fun z hz => ?_⟩) hHeld ?_
          · skip
            go_simp
          try simp only [Act.put, List.setIfInBounds_toArray, List.set_cons_zero, List.set_cons_succ]
          refine wpAnyH_take (i := 7) (v := iv (to_ : Int)) rfl (by kernel_rfl) (by kernel_rfl) (by kernel_rfl) (fun _ _ _ h => h) (Or.inl ⟨by rfl, fun z hz => ?_⟩) hHeld ?_
          · skip
            go_simp
          try simp only [Act.put, List.setIfInBounds_toArray, List.set_cons_zero, List.set_cons_succ]
          refine wpAnyH_ready (rs := [6]) (by kernel_rfl) (by simp) (AllReadyH.cons rfl (fun K hK => ?_) AllReadyH.nil)
          rw [if_pos (by rfl)]
          go_simp
          refine hK.out _ _ hHeld (fun _ => ?_)
          clear hK K
          try simp only [Act.put, List.setIfInBounds_toArray, List.set_cons_zero, List.set_cons_succ]
          refine wpAnyH_take (i := 8) (v := iv (MX : Int)) rfl (by kernel_rfl) (by kernel_rfl) (by kernel_rfl) (fun _ _ _ h => h) (Or.inl ⟨by rfl, fun z hz => ?_⟩) hHeld ?_
          · skip
            go_simp
          try simp only [Act.put, List.setIfInBounds_toArray, List.set_cons_zero, List.set_cons_succ]
          refine wpAnyH_take (i := 9) (v := .pointer (some ⟨go, N * 4, none⟩)) rfl (by kernel_rfl) (by kernel_rfl) (by kernel_rfl) (fun _ _ _ h => h) (Or.inl ⟨by rfl, fun z hz => ?_⟩) hHeld ?_
          · skip
            go_simp
          try simp only [Act.put, List.setIfInBounds_toArray, List.set_cons_zero, List.set_cons_succ]
          refine wpAnyH_take (i := 10) (v := .pointer (some ⟨go, N * 4 + 1, none⟩)) rfl (by kernel_rfl) (by kernel_rfl) (by kernel_rfl) (fun _ _ _ h => h) (Or.inl ⟨by rfl, fun z hz => ?_⟩) hHeld ?_
          · skip
            go_simp
          try simp only [Act.put, List.setIfInBounds_toArray, List.set_cons_zero, List.set_cons_succ]
          refine wpAnyH_ready (rs := [11]) (by kernel_rfl) (by simp) (AllReadyH.cons rfl (fun K hK => ?_) AllReadyH.nil)
          rw [if_pos (by rfl)]
          go_simp
          obtain ⟨hK9, hB9, hb9, ho9, hi9⟩ := hi_step (h := MX) HN.out hgz hgw hgo hK8 hB8 hb8 ho8 hi8.out
          have hi9' := Lib.hid hi9
          have bX9 : Blk (Z8.setCell ⟨go, N * 4 + 1, none⟩ (iv (MX : Int))) Bx 126 #[iv y.at_, .slice y.A y.old.length y.c, .slice y.A' y.new.length y.c'] := bX8.far (p := ⟨go, N * 4 + 1, none⟩) (fun e => by
            unfold Blk at bX8 hcs9
            rw [e, hcs9] at bX8
            injection bX8 with h9
            injection h9 with _ h9 _
            exact absurd h9 (by decide)) _
          have hz9 : w.heap.size + 5 < (Z8.setCell ⟨go, N * 4 + 1, none⟩ (iv (MX : Int))).heap.size := by simpa [World.setCell] using hz8
          refine hK.out _ _ (hb9.cell 0) (fun _ => ?_)
          clear hK K hi9
          generalize Z8.setCell ⟨go, N * 4 + 1, none⟩ (iv (MX : Int)) = Z9 at *
          try simp only [Act.put, List.setIfInBounds_toArray, List.set_cons_zero, List.set_cons_succ]
          refine wpAnyH_done (by kernel_rfl) ?_ _
          have x0 := bX9.cell 0
          have x1 := bX9.cell 1
          have x2 := bX9.cell 2
          rw [hlo] at x0
          have w0 := hb9.cell 0
          gi_wp2_with fail
          have hS0 : ∀ z : World, Below Z9.heap.size Z9 z → z.cell? ⟨g, 0, none⟩ = some (.slice (some ⟨go, 0, none⟩) (N + 1) cv) ∧ z.cell? ⟨Bx, 0, none⟩ = some (iv (lo : Int)) ∧ z.cell? ⟨Bx, 1, none⟩ = some (.slice y.A y.old.length y.c) ∧ z.cell? ⟨Bx, 2, none⟩ = some (.slice y.A' y.new.length y.c') := fun z h => ⟨(hb9.under h).cell 0, by have := (bX9.under h).cell 0; rw [hlo] at this; exact this, (bX9.under h).cell 1, (bX9.under h).cell 2⟩
          refine wpIn_round_held (S := fun z => z.cell? ⟨g, 0, none⟩ = some (.slice (some ⟨go, 0, none⟩) (N + 1) cv) ∧ z.cell? ⟨Bx, 0, none⟩ = some (iv (lo : Int)) ∧ z.cell? ⟨Bx, 1, none⟩ = some (.slice y.A y.old.length y.c) ∧ z.cell? ⟨Bx, 2, none⟩ = some (.slice y.A' y.new.length y.c')) (by kernel_rfl) (by kernel_rfl) (by rintro ⟨_, _, h⟩; exact h) (hS0 _ (Below.refl _ _).drew) (fun hHeld => ?_)
          have hqd : Below Z9.heap.size Z9 Z9.drew := (Below.refl _ _).drew
          have bXd := bX9.under hqd
          have hbd := hb9.under hqd
          have hod := ho9.below hqd
          have hid : Hid (Ins (w.heap.size + 6) Z9.drew (pre ++ [{ last with hi := MX }])) := Lib.hid (hi9'.out.keep (EdsK.of_below hqd))
          have hBd : Below w.heap.size w Z9.drew := hB9.next hqd (Nat.le_refl _)
          have hKd : KeptBut (w.heap.size + 6) g X Z9.drew := hK9.trans (KeptBut.of_below hqd (by omega))
          have hzd : w.heap.size + 5 < Z9.drew.heap.size := hz9
          generalize Z9.drew = Zd at *
          obtain ⟨M, hmM, hMZ, hold, hla⟩ := hid.out _ _ rfl
          have hxM : (pre ++ [({ last with hi := MX } : BlV)])[N]? = some { last with hi := MX } := by rw [HN.out]; simp
          have mI : Zd.cell? ⟨go, N * 4 + 2 + 1, none⟩ = some last.v1 := Own.cellAt hod hxM (j := 2 + 1) rfl
          obtain ⟨csd, hcsd⟩ := Own.blkOf hod (by simp)
          have gld := hcsd.lt
          have hlI : Hid (last.e1.length + 1 ≤ big) := Lib.hid (by have := (hr.out.high last (by simp)).2; have h9 := (List.getElem?_eq_some_iff.1 hp).1; unfold big; omega)
          have HLI := hlI
          refine wpAnyH_take (i := 0) (v := .slice (some ⟨go, 0, none⟩) (N + 1) cv) rfl (by kernel_rfl) (by kernel_rfl) (by kernel_rfl) (fun _ _ _ h => h) (Or.inl ⟨by rfl, fun z hz => ?_⟩) hHeld ?_
          · obtain ⟨f0, f1, f2, f3⟩ := hz
            go_simp
          try simp only [Act.put, List.setIfInBounds_toArray, List.set_cons_zero, List.set_cons_succ]
          refine wpAnyH_take (i := 1) (v := iv (N : Int)) rfl (by kernel_rfl) (by kernel_rfl) (by kernel_rfl) (fun _ _ _ h => h) (Or.inl ⟨by rfl, fun z hz => ?_⟩) hHeld ?_
          · skip
            go_simp
          try simp only [Act.put, List.setIfInBounds_toArray, List.set_cons_zero, List.set_cons_succ]
          refine wpAnyH_take (i := 2) (v := iv 1) rfl (by kernel_rfl) (by kernel_rfl) (by kernel_rfl) (fun _ _ _ h => h) (Or.inl ⟨by rfl, fun z hz => ?_⟩) hHeld ?_
          · skip
            go_simp
          try simp only [Act.put, List.setIfInBounds_toArray, List.set_cons_zero, List.set_cons_succ]
          refine wpAnyH_take (i := 3) (v := .slice (some ⟨go, 0, none⟩) (N + 1) cv) rfl (by kernel_rfl) (by kernel_rfl) (by kernel_rfl) (fun _ _ _ h => h) (Or.inl ⟨by rfl, fun z hz => ?_⟩) hHeld ?_
          · obtain ⟨f0, f1, f2, f3⟩ := hz
            go_simp
          try simp only [Act.put, List.setIfInBounds_toArray, List.set_cons_zero, List.set_cons_succ]
          refine wpAnyH_take (i := 4) (v := iv (N : Int)) rfl (by kernel_rfl) (by kernel_rfl) (by kernel_rfl) (fun _ _ _ h => h) (Or.inl ⟨by rfl, fun z hz => ?_⟩) hHeld ?_
          · skip
            go_simp
          try simp only [Act.put, List.setIfInBounds_toArray, List.set_cons_zero, List.set_cons_succ]
          refine wpAnyH_take (i := 5) (v := iv 1) rfl (by kernel_rfl) (by kernel_rfl) (by kernel_rfl) (fun _ _ _ h => h) (Or.inl ⟨by rfl, fun z hz => ?_⟩) hHeld ?_
          · skip
            go_simp
          try simp only [Act.put, List.setIfInBounds_toArray, List.set_cons_zero, List.set_cons_succ]
          refine wpAnyH_take (i := 6) (v := .pointer (some ⟨go, N * 4, none⟩)) rfl (by kernel_rfl) (by kernel_rfl) (by kernel_rfl) (fun _ _ _ h => h) (Or.inl ⟨by rfl, fun z hz => ?_⟩) hHeld ?_
          · skip
            go_simp
          try simp only [Act.put, List.setIfInBounds_toArray, List.set_cons_zero, List.set_cons_succ]
          refine wpAnyH_take (i := 7) (v := .pointer (some ⟨go, N * 4 + 2, none⟩)) rfl (by kernel_rfl) (by kernel_rfl) (by kernel_rfl) (fun _ _ _ h => h) (Or.inl ⟨by rfl, fun z hz => ?_⟩) hHeld ?_
          · skip
            go_simp
          try simp only [Act.put, List.setIfInBounds_toArray, List.set_cons_zero, List.set_cons_succ]
          refine wpAnyH_take (i := 8) (v := .pointer (some ⟨go, N * 4 + 2 + 1, none⟩)) rfl (by kernel_rfl) (by kernel_rfl) (by kernel_rfl) (fun _ _ _ h => h) (Or.inl ⟨by rfl, fun z hz => ?_⟩) hHeld ?_
          · skip
            go_simp
          try simp only [Act.put, List.setIfInBounds_toArray, List.set_cons_zero, List.set_cons_succ]
          refine wpAnyH_take (i := 10) (v := .agg #[iv (lo : Int), .slice y.A y.old.length y.c, .slice y.A' y.new.length y.c']) rfl (by kernel_rfl) (by kernel_rfl) (by kernel_rfl) (fun _ _ _ h => h) (Or.inl ⟨by rfl, fun z hz => ?_⟩) hHeld ?_
          · obtain ⟨f0, f1, f2, f3⟩ := hz
            go_simp
          try simp only [Act.put, List.setIfInBounds_toArray, List.set_cons_zero, List.set_cons_succ]
          refine wpAnyH_take (i := 13) (v := .pointer (some ⟨go, N * 4, none⟩)) rfl (by kernel_rfl) (by kernel_rfl) (by kernel_rfl) (fun _ _ _ h => h) (Or.inl ⟨by rfl, fun z hz => ?_⟩) hHeld ?_
          · skip
            go_simp
          try simp only [Act.put, List.setIfInBounds_toArray, List.set_cons_zero, List.set_cons_succ]
          refine wpAnyH_take (i := 14) (v := .pointer (some ⟨go, N * 4 + 2, none⟩)) rfl (by kernel_rfl) (by kernel_rfl) (by kernel_rfl) (fun _ _ _ h => h) (Or.inl ⟨by rfl, fun z hz => ?_⟩) hHeld ?_
          · skip
            go_simp
          try simp only [Act.put, List.setIfInBounds_toArray, List.set_cons_zero, List.set_cons_succ]
          have HBA : Hid (Below Zd.heap.size Zd (Zd.alloc (.cells #[iv (lo : Int), .slice y.A y.old.length y.c, .slice y.A' y.new.length y.c'] 126))) := Lib.hid ((Below.refl _ _).alloc (Nat.le_refl _) _)
          have hSA : ∀ z : World, Below Zd.heap.size Zd z → z.cell? ⟨g, 0, none⟩ = some (.slice (some ⟨go, 0, none⟩) (N + 1) cv) ∧ z.cell? ⟨Bx, 0, none⟩ = some (iv (lo : Int)) ∧ z.cell? ⟨Bx, 1, none⟩ = some (.slice y.A y.old.length y.c) ∧ z.cell? ⟨Bx, 2, none⟩ = some (.slice y.A' y.new.length y.c') := fun z h => ⟨(hbd.under h).cell 0, by have := (bXd.under h).cell 0; rw [hlo] at this; exact this, (bXd.under h).cell 1, (bXd.under h).cell 2⟩
          have HSL : Hid (Sl edE (Zd.alloc (.cells #[iv (lo : Int), .slice y.A y.old.length y.c, .slice y.A' y.new.length y.c'] 126)) (some ⟨Zd.heap.size, 0, none⟩) [y]) := Lib.hid (Sl.fresh edE Zd 126 #[iv (lo : Int), .slice y.A y.old.length y.c, .slice y.A' y.new.length y.c'] [y] (by simp [edE, hlo]) (by simp [maxLen]))
          have HOI : Hid (Own edE 126 M (Zd.alloc (.cells #[iv (lo : Int), .slice y.A y.old.length y.c, .slice y.A' y.new.length y.c'] 126)) last.v1 last.e1) := Lib.hid (Own.below hla.o1 HBA.out)
          have HZA : Hid (M ≤ (Zd.alloc (.cells #[iv (lo : Int), .slice y.A y.old.length y.c, .slice y.A' y.new.length y.c'] 126)).heap.size) := Lib.hid (Nat.le_trans hMZ HBA.out.size)
          have mA : (Zd.alloc (.cells #[iv (lo : Int), .slice y.A y.old.length y.c, .slice y.A' y.new.length y.c'] 126)).cell? ⟨go, N * 4 + 2 + 1, none⟩ = some last.v1 := (HBA.out.cell (p := ⟨go, _, none⟩) gld).trans mI
          have hne : last.v1.ownBlock ≠ some Bx := fun e => (hXB last (by simp)).2 e
          refine wpAnyH_ready (rs := [9, 11]) (by kernel_rfl) (by simp) (AllReadyH.cons rfl (fun K hK => ?_) (AllReadyH.cons rfl (fun K hK => ?_) AllReadyH.nil))
          · rw [if_pos (by rfl)]
            go_simp
            refine hK.out _ _ hHeld (fun _ => ?_)
            clear hK K
            try simp only [Act.put, List.setIfInBounds_toArray, List.set_cons_zero, List.set_cons_succ]
            refine wpAnyH_ready (rs := [11]) (by kernel_rfl) (by simp) (AllReadyH.cons rfl (fun K hK => ?_) AllReadyH.nil)
            rw [if_pos (by rfl)]
            go_simp
            refine hK.out _ _ (hSA _ HBA.out) (fun hHeld => ?_)
            clear hK K
            try simp only [Act.put, List.setIfInBounds_toArray, List.set_cons_zero, List.set_cons_succ]
            refine wpAnyH_ready (rs := [12]) (by kernel_rfl) (by simp) (AllReadyH.cons rfl (fun K hK => ?_) AllReadyH.nil)
            refine stepApp1At edE tyEds (by rfl) _ _ (by rfl) HOI.out HSL.out (by rfl) (by rfl) HZA.out HLI.out ?_
            intro v2 Y ho2 hb2 hk2 hat2
            obtain ⟨A2, c2, hv2, _, _⟩ := ho2.form
            rw [List.length_append, List.length_singleton] at hv2
            subst hv2
            have hbA := HBA.out
            have hYg : Blk Y g 75 #[.slice (some ⟨go, 0, none⟩) (N + 1) cv] := (hbd.under hbA).below hb2 (by omega)
            have hoA := hod.below hbA
            have hYo : Own blE 81 (w.heap.size + 6) Y (.slice (some ⟨go, 0, none⟩) (N + 1) cv) (pre ++ [{ last with hi := MX }]) := hoA.keep hb2.size fun b hb => hk2 b (hoA.lt b hb).2 (Own.two hoA HOI.out (by decide) hb)
            have hYX : Blk Y Bx 126 #[iv y.at_, .slice y.A y.old.length y.c, .slice y.A' y.new.length y.c'] := (hk2 Bx (bXd.under hbA).lt hne).trans (bXd.under hbA)
            have hYX0 := hYX.cell 0
            rw [hlo] at hYX0
            obtain ⟨csY, hcsY⟩ := Own.blkOf hYo (by simp)
            have fY := hcsY.frozen (N * 4 + 2 + 1)
            have lY := hcsY.lt
            have mY : Y.cell? ⟨go, N * 4 + 2 + 1, none⟩ = some last.v1 := Own.cellAt hYo hxM (j := 2 + 1) rfl
            have hrel0 : BRel xs xe (k + 1) (pre ++ [({ last with hi := MX, A1 := A2, c1 := c2, e1 := last.e1 ++ [y] } : BlV)]) := brel_add (last := last) hr.out hg hp HXE2.out (by rw [hlo]; simpa using hnear) (by simp [BlV.b, File.Block.add, EdV.ed, File.Edit.hi, hlo, HTO.out, HMX.out]) (memGrow1 last y) (by have h1 := (hr.out.high last (by simp)).1; have h2 := HTO.out; have h3 := HMX.out; show MX ≤ 48; omega) (by simp)
            have hfin := grow1 (k := k) (xs := xs) (xe := xe) (X := X) (w := w) HN.out hgz hgw (by omega) hKd hBd hbd hgo hod hmM hMZ hold hla hbA ho2 hb2 hk2 hat2 hrel0
            refine hK.out _ _ ⟨hYg.cell 0, hYX0, hYX.cell 1, hYX.cell 2⟩ (fun hHeld => ?_)
            clear hK K
            try simp only [Act.put, List.setIfInBounds_toArray, List.set_cons_zero, List.set_cons_succ]
            refine wpAnyH_take (i := 15) (v := .pointer (some ⟨go, N * 4 + 2 + 1, none⟩)) rfl (by kernel_rfl) (by kernel_rfl) (by kernel_rfl) (fun _ _ _ h => h) (Or.inl ⟨by rfl, fun z hz => ?_⟩) hHeld ?_
            · skip
              go_simp
            try simp only [Act.put, List.setIfInBounds_toArray, List.set_cons_zero, List.set_cons_succ]
            refine wpAnyH_ready (rs := [16]) (by kernel_rfl) (by simp) (AllReadyH.cons rfl (fun K hK => ?_) AllReadyH.nil)
            rw [if_pos (by rfl)]
            go_simp
            have hF0 : (Y.setCell ⟨go, N * 4 + 2 + 1, none⟩ (.slice A2 (last.e1.length + 1) c2)).cell? ⟨g, 0, none⟩ = some (.slice (some ⟨go, 0, none⟩) (N + 1) cv) := (hYg.far (p := ⟨go, _, none⟩) (show g ≠ go by omega) _).cell 0
            have hBg : Bx ≠ go := fun e => by
              unfold Blk at hYX hcsY
              rw [e, hcsY] at hYX
              injection hYX with h9
              injection h9 with _ h9 _
              exact absurd h9 (by decide)
            have hFX := hYX.far (p := ⟨go, N * 4 + 2 + 1, none⟩) hBg (.slice A2 (last.e1.length + 1) c2)
            have hFX0 := hFX.cell 0
            rw [hlo] at hFX0
            refine hK.out _ _ ⟨hF0, hFX0, hFX.cell 1, hFX.cell 2⟩ (fun _ => ?_)
            clear hK K
            try simp only [Act.put, List.setIfInBounds_toArray, List.set_cons_zero, List.set_cons_succ]
            refine wpAnyH_done (by kernel_rfl) ?_ _
            have HFIN := Lib.hid hfin
            clear hfin
            gi_wp2_with fail
            obtain ⟨q1, q2, q3, q4, q5, q6, q7, q8⟩ := HFIN.out
            exact ⟨q1, q2, q4, q3, q5, q6, q7, q8⟩
          · rw [if_pos (by rfl)]
            go_simp
            refine hK.out _ _ (hSA _ HBA.out) (fun hHeld => ?_)
            clear hK K
            try simp only [Act.put, List.setIfInBounds_toArray, List.set_cons_zero, List.set_cons_succ]
            refine wpAnyH_ready (rs := [9]) (by kernel_rfl) (by simp) (AllReadyH.cons rfl (fun K hK => ?_) AllReadyH.nil)
            rw [if_pos (by rfl)]
            go_simp
            refine hK.out _ _ hHeld (fun _ => ?_)
            clear hK K
            try simp only [Act.put, List.setIfInBounds_toArray, List.set_cons_zero, List.set_cons_succ]
            refine wpAnyH_ready (rs := [12]) (by kernel_rfl) (by simp) (AllReadyH.cons rfl (fun K hK => ?_) AllReadyH.nil)
            refine stepApp1At edE tyEds (by rfl) _ _ (by rfl) HOI.out HSL.out (by rfl) (by rfl) HZA.out HLI.out ?_
            intro v2 Y ho2 hb2 hk2 hat2
            obtain ⟨A2, c2, hv2, _, _⟩ := ho2.form
            rw [List.length_append, List.length_singleton] at hv2
            subst hv2
            have hbA := HBA.out
            have hYg : Blk Y g 75 #[.slice (some ⟨go, 0, none⟩) (N + 1) cv] := (hbd.under hbA).below hb2 (by omega)
            have hoA := hod.below hbA
            have hYo : Own blE 81 (w.heap.size + 6) Y (.slice (some ⟨go, 0, none⟩) (N + 1) cv) (pre ++ [{ last with hi := MX }]) := hoA.keep hb2.size fun b hb => hk2 b (hoA.lt b hb).2 (Own.two hoA HOI.out (by decide) hb)
            have hYX : Blk Y Bx 126 #[iv y.at_, .slice y.A y.old.length y.c, .slice y.A' y.new.length y.c'] := (hk2 Bx (bXd.under hbA).lt hne).trans (bXd.under hbA)
            have hYX0 := hYX.cell 0
            rw [hlo] at hYX0
            obtain ⟨csY, hcsY⟩ := Own.blkOf hYo (by simp)
            have fY := hcsY.frozen (N * 4 + 2 + 1)
            have lY := hcsY.lt
            have mY : Y.cell? ⟨go, N * 4 + 2 + 1, none⟩ = some last.v1 := Own.cellAt hYo hxM (j := 2 + 1) rfl
            have hrel0 : BRel xs xe (k + 1) (pre ++ [({ last with hi := MX, A1 := A2, c1 := c2, e1 := last.e1 ++ [y] } : BlV)]) := brel_add (last := last) hr.out hg hp HXE2.out (by rw [hlo]; simpa using hnear) (by simp [BlV.b, File.Block.add, EdV.ed, File.Edit.hi, hlo, HTO.out, HMX.out]) (memGrow1 last y) (by have h1 := (hr.out.high last (by simp)).1; have h2 := HTO.out; have h3 := HMX.out; show MX ≤ 48; omega) (by simp)
            have hfin := grow1 (k := k) (xs := xs) (xe := xe) (X := X) (w := w) HN.out hgz hgw (by omega) hKd hBd hbd hgo hod hmM hMZ hold hla hbA ho2 hb2 hk2 hat2 hrel0
            refine hK.out _ _ ⟨hYg.cell 0, hYX0, hYX.cell 1, hYX.cell 2⟩ (fun hHeld => ?_)
            clear hK K
            try simp only [Act.put, List.setIfInBounds_toArray, List.set_cons_zero, List.set_cons_succ]
            refine wpAnyH_take (i := 15) (v := .pointer (some ⟨go, N * 4 + 2 + 1, none⟩)) rfl (by kernel_rfl) (by kernel_rfl) (by kernel_rfl) (fun _ _ _ h => h) (Or.inl ⟨by rfl, fun z hz => ?_⟩) hHeld ?_
            · skip
              go_simp
            try simp only [Act.put, List.setIfInBounds_toArray, List.set_cons_zero, List.set_cons_succ]
            refine wpAnyH_ready (rs := [16]) (by kernel_rfl) (by simp) (AllReadyH.cons rfl (fun K hK => ?_) AllReadyH.nil)
            rw [if_pos (by rfl)]
            go_simp
            have hF0 : (Y.setCell ⟨go, N * 4 + 2 + 1, none⟩ (.slice A2 (last.e1.length + 1) c2)).cell? ⟨g, 0, none⟩ = some (.slice (some ⟨go, 0, none⟩) (N + 1) cv) := (hYg.far (p := ⟨go, _, none⟩) (show g ≠ go by omega) _).cell 0
            have hBg : Bx ≠ go := fun e => by
              unfold Blk at hYX hcsY
              rw [e, hcsY] at hYX
              injection hYX with h9
              injection h9 with _ h9 _
              exact absurd h9 (by decide)
            have hFX := hYX.far (p := ⟨go, N * 4 + 2 + 1, none⟩) hBg (.slice A2 (last.e1.length + 1) c2)
            have hFX0 := hFX.cell 0
            rw [hlo] at hFX0
            refine hK.out _ _ ⟨hF0, hFX0, hFX.cell 1, hFX.cell 2⟩ (fun _ => ?_)
            clear hK K
            try simp only [Act.put, List.setIfInBounds_toArray, List.set_cons_zero, List.set_cons_succ]
            refine wpAnyH_done (by kernel_rfl) ?_ _
            have HFIN := Lib.hid hfin
            clear hfin
            gi_wp2_with fail
            obtain ⟨q1, q2, q3, q4, q5, q6, q7, q8⟩ := HFIN.out
            exact ⟨q1, q2, q4, q3, q5, q6, q7, q8⟩
        · have hni : ¬ (lo : Int) ≤ (last.hi : Int) := by omega
          gi_wp2_with fail
          refine wpIn_round_quiet (by kernel_rfl) (by kernel_rfl) (by kernel_rfl) (by rintro ⟨_, _, h⟩; exact h) ?_
          repeat (go_big_quiet_step (fail))
          refine wpQuiet_nil ?_
          intro _ hw'
          obtain ⟨nq, hw''⟩ := hw'
          subst hw''
          have hq : Below X.heap.size X (X.drewN nq) := ⟨rfl, rfl, rfl, Nat.le_refl _, fun _ _ => rfl⟩
          have bZ := bX.under hq
          have hbZ := hb.under hq
          have hoZ := ho.below hq
          have hiZ : Hid (Ins (w.heap.size + 6) (X.drewN nq) _) := Lib.hid (hi.out.keep (EdsK.of_below hq))
          have hBZ : Below w.heap.size w (X.drewN nq) := hB.next hq (Nat.le_refl _)
          have hKZ : KeptBut (w.heap.size + 6) g X (X.drewN nq) := KeptBut.of_below hq (by omega)
          have hzZ : w.heap.size + 5 < (X.drewN nq).heap.size := hz
          generalize X.drewN nq = Z at *
          have z0 := bZ.cell 0
          have z1 := bZ.cell 1
          have z2 := bZ.cell 2
          have zl := bZ.lt
          have y0 := hbZ.cell 0
          have yl := hbZ.lt
          have yn : ¬ g = Z.heap.size := by omega
          rw [hlo] at z0
          obtain ⟨Xs, hXs⟩ : ∃ Xs, Xs = (Z.alloc (.cells #[iv (lo : Int), iv (to_ : Int), .slice none 0 0, .slice (some ⟨Z.heap.size + 1, 0, none⟩) 1 1] 81)).alloc (.cells #[iv (lo : Int), .slice y.A y.old.length y.c, .slice y.A' y.new.length y.c'] 126) := ⟨_, rfl⟩
          have hbS : Below Z.heap.size Z Xs := by rw [hXs]; exact ((Below.refl _ Z).alloc (Nat.le_refl _) _).alloc (by simp) _
          have hGe : Blk Xs (Z.heap.size + 1) 126 #[iv (lo : Int), .slice y.A y.old.length y.c, .slice y.A' y.new.length y.c'] := by
            rw [hXs]
            exact Blk.new_ _ _ _ (by simp)
          have hoS := Lib.hid (hoZ.below hbS)
          have hzS : Hid (w.heap.size + 6 ≤ Xs.heap.size) := Lib.hid (by have := hbS.size; omega)
          have hlen : Hid (((pre ++ [last]) : List BlV).length + 1 ≤ big) := Lib.hid (by have := hr.out.many; have h9 := (List.getElem?_eq_some_iff.1 hp).1; unfold big; omega)
          rw [hXs] at hoS hzS
          gi_wp2_with (gi_at_builtin; refine wpApp1In blE tyBlocks rfl _ _ rfl hoS.out (⟨lo, to_, none, 0, [], some ⟨Z.heap.size + 1, 0, none⟩, 1, [y]⟩ : BlV) rfl rfl (G := Z.heap.size + 1 + 1) (by simp) rfl hzS.out hlen.out ?_; intro v1 Y hoY hbY hkY; obtain ⟨Av1, cv1, hv1, _, _⟩ := hoY.form; (try rw [show (((pre ++ [last])) ++ [(⟨lo, to_, none, 0, [], some ⟨Z.heap.size + 1, 0, none⟩, 1, [y]⟩ : BlV)]).length = (N + 2) from (by (rw [List.length_append, HNL.out]; rfl))] at hv1); subst hv1; have hY1 := (hbZ.under hbS).below (hXs ▸ hbY) (by omega); have e0 := hY1.cell 0; have ef := hY1.frozen 0; have el := hY1.lt)
          have hbY2 : Below (w.heap.size + 6) Xs Y := by rw [hXs]; exact hbY
          have hkY2 : ∀ b, b < Xs.heap.size → Value.ownBlock (.slice (some ⟨go, 0, none⟩) (N + 1) cv) ≠ some b → Y.heap[b]? = Xs.heap[b]? := by rw [hXs]; exact hkY
          have hfin := open_step (k := k) (xs := xs) (xe := xe) hgz hgw (by omega) hKZ hBZ hbZ hoZ hiZ.out hbS hGe (fun W hW => ⟨Own.nil, Own.ofBlk (E := edE) (xs := [y]) (by simpa [edE, hlo] using hW) (Nat.le_succ _) (by simp [maxLen]), fun b h => by cases h⟩) hoY hbY2 hkY2 (brel_open hr.out hp HXE2.out (fun pre' last' e => by (obtain ⟨_, e2⟩ := List.append_inj' e rfl; injection e2 with e2; subst e2; rw [hlo]; simp; omega)) (by simp [BlV.b, File.Block.new, EdV.ed, File.Edit.lo, File.Edit.hi, hlo, HTO.out]) (by simp) (by have := HTO.out; show to_ ≤ 48; omega) (by simp))
          rw [hsz]
          exact hfin
  case done =>
    rintro W ⟨v, rs, hb, ho, hr, hi, hB⟩ hD
    have g0 := hb.cell 0
    have gl := hb.lt
    have hoi := hi.out.old
    have hXL : xe.length = xs.length := by rw [HXE2.out, List.length_map]
    have hbl : rs.map BlV.b = File.blocks (vs0.map EdV.ed) (vs1.map EdV.ed) := by
      unfold File.blocks
      rw [← HXE.out, ← HXE2.out]
      rcases hr.out.way with ⟨h1, rfl⟩ | ⟨pre, last, rfl, h1⟩
      · have : xe = [] := List.eq_nil_of_length_eq_zero (by omega)
        rw [this]
        rfl
      · rw [← h1, List.drop_of_length_le (by omega)]
        simp [File.grow]
    have hmm : ∀ r ∈ rs, ∀ x, x ∈ r.e0 ∨ x ∈ r.e1 → x ∈ vs0 ∨ x ∈ vs1 := fun r hr' x hx => by
      obtain ⟨p, hp, rfl⟩ := hr.out.mem r hr' x hx
      exact HMEM.out p hp
    have hput : ∀ b, b ≠ W0.heap.size → (W.putObj W0.heap.size (.deferred none)).heap[b]? = W.heap[b]? := fun b hb => World.putObj_heap_other hb
    gi_wp2
    refine ⟨by simp, .inl ⟨_, _, rfl, run_takeDeferred hD, ?_⟩⟩
    refine ⟨_, results_tmp rfl _ _ _, v, rs, rfl, (ho.keep (by simp) fun b hb => hput b (by have := (ho.lt b hb).1; omega)).base (by omega), hbl, fun r hr' => ⟨((hoi r hr').o0.keep (by simp) fun b hb => hput b (by have := ((hoi r hr').o0.lt b hb).1; omega)).base (by omega), ((hoi r hr').o1.keep (by simp) fun b hb => hput b (by have := ((hoi r hr').o1.lt b hb).1; omega)).base (by omega), hmm r hr'⟩, hB.grown (grown_putObj _ _ _) hB.size fun j e => by cases e; omega⟩
end Fl
end Go.Proofs.YtlpoiggdjggkiaaGreatDoor
end
section
namespace Go.Proofs.YtlpoiggdjggkiaaGreatDoor
namespace Fl
open Go.RowKit Go.Shelf
set_option maxRecDepth 100000
theorem take_ne' {α : Type} {l l' : List α} {k : Nat} {p q : α} (hp : l[k]? = some p) (hq : l'[k]? = some q) (h : p ≠ q) : l ≠ l' := by
  rintro rfl
  rw [hp] at hq
  exact h (Option.some.inj hq)
set_option maxHeartbeats 1000000 in
theorem equalS (A : Option Addr) (xs : List ByteArray) (c : Nat) (A' : Option Addr) (ys : List ByteArray) (c' : Nat) (w : World) (hm : xs.length ≤ big) (hs : Sl strE w A xs) (hm' : ys.length ≤ big) (hs' : Sl strE w A' ys) :
    Calls Tryz.prog 11 #[.slice A xs.length c, .slice A' ys.length c'] w fun e w' => e = .returned (.bool (decide (xs = ys))) ∧ Below w.heap.size w w' := by
  unfold big at hm hm'
  by_cases hl : xs.length = ys.length
  · have hl' : ((xs.length : Int) != (ys.length : Int)) = false := by simp [hl]
    have HL := Lib.hid hl
    clear hl
    go_enter Tryz.func11, Tryz.ntmps11
    go_wp2
    go_loopw [5, 13] (fun _ i wr => ∃ (k : Nat), k ≤ xs.length ∧ i = iv k ∧ Hid (xs.take k = ys.take k) ∧ Below w.heap.size w wr) (fun _ i _ => xs.length - (intOf i).toNat)
    case atStart => exact ⟨0, by omega, rfl, rfl, Below.refl _ _⟩
    case round =>
      obtain ⟨k, hk, rfl, hf, hbw⟩ := hrel
      by_cases hlt : k < xs.length
      · obtain ⟨b, off, p, rfl, hb, hp, hp0⟩ := Sl.atS (hs.below hbw) hlt
        obtain ⟨b', off', q, rfl, hb', hq, hq0⟩ := Sl.atS (hs'.below hbw) (by have := HL.out; omega : k < ys.length)
        have hly : (k : Int) < (ys.length : Int) := by have := HL.out; omega
        have hlx : (k : Int) < (xs.length : Int) := by omega
        have HP := Lib.hid hp
        have HQ := Lib.hid hq
        clear hp hq hs hs'
        have hsq := str_eq p q
        by_cases hpq : p = q
        · rw [decide_eq_true hpq] at hsq
          have HPQ := Lib.hid hpq
          clear hpq
          go_wp2
          go_quiet (fail)
          have hqd : Below w.heap.size w (wr.drewN nq) := ⟨hbw.os, hbw.tape, hbw.output, hbw.size, hbw.block⟩
          generalize wr.drewN nq = wq at *
          go_wp2
          go_roundw
          case rel => exact ⟨k + 1, by omega, by go_num, by
            show xs.take (k + 1) = ys.take (k + 1)
            rw [List.take_add_one, List.take_add_one, HP.out, HQ.out, HPQ.out, hf.out], hqd⟩
          case measure => simp [intOf]; omega
        · rw [decide_eq_false hpq] at hsq
          have HPQ := Lib.hid hpq
          clear hpq
          go_wp2
          go_quiet (fail)
          have hqd : Below w.heap.size w (wr.drewN nq) := ⟨hbw.os, hbw.tape, hbw.output, hbw.size, hbw.block⟩
          generalize wr.drewN nq = wq at *
          go_wp2
          go_ret
          exact ⟨ret_eq (by rw [decide_eq_false (take_ne' HP.out HQ.out HPQ.out)]; rfl), hqd⟩
      · have he : xs = ys := by
          have := hf.out
          rwa [List.take_of_length_le (by omega), List.take_of_length_le (by have := HL.out; omega)] at this
        have HE := Lib.hid he
        clear he
        go_wp2
        go_ret
        exact ⟨ret_eq (by rw [decide_eq_true HE.out]; rfl), (by first | exact hbw | exact hbw.drew)⟩
  · have hl' : ((xs.length : Int) != (ys.length : Int)) = true := by simp; omega
    go_enter Tryz.func11, Tryz.ntmps11
    go_wp2
    go_ret
    exact ⟨ret_eq (by rw [decide_eq_false (fun h => hl (by rw [h]))]; rfl), Below.refl _ _⟩
end Fl
end Go.Proofs.YtlpoiggdjggkiaaGreatDoor
end
section
namespace Go.Proofs.YtlpoiggdjggkiaaGreatDoor
namespace File
/-- What Join answers: a number, lines, conflicts. -/
def joinAns (base a b : List ByteArray) : Int × List ByteArray × List (Nat × Nat) :=
  if check base ≠ 0 then (check base, [], [])
  else if Fl.errOf a b ≠ 0 then (Fl.errOf a b, [], [])
  else if 24 < (join base a b).1.length then (2, [], []) else (0, (join base a b).1, (join base a b).2)
end File
namespace Fl
open Go.RowKit Go.ChangeShapes
set_option maxRecDepth 100000
theorem tySpans : SlTy Tryz.prog 45 37 2 := slTy_of (z := .agg #[iv 0, iv 0]) (bytes := 16) Tryz.underlying45 (by kernel_rfl) rfl (by decide)
theorem ownNeBlk {α : Type} {E : Enc α} {e t : TypeId} {B : Nat} {w : World} {v : Value} {xs : List α} {g : Nat} {cs : Array Value} (h : Own E e B w v xs) (hb : Blk w g t cs) (ht : t ≠ e) : v.ownBlock ≠ some g := fun hv => by
  rcases h.2 with ⟨rfl, _⟩ | ⟨g', cap, cur, rfl, _, hg, _⟩
  · cases hv
  · have hg' : g' = g := by simpa [Value.ownBlock] using hv
    unfold Blk at hb
    rw [hg', hb] at hg
    injection hg with hg
    injection hg with _ h2 _
    exact ht h2
theorem cut_run {A : Option Addr} {base : List ByteArray} {c i x : Nat} {w : World} (hc : base.length ≤ c) (hi : i ≤ x) (hx : x ≤ base.length) (hs : Sl strE w A base) :
    ∃ (X : Option Addr) (n : Nat) (ys : List ByteArray), ys = File.cut base i x ∧ ys.length ≤ base.length ∧ Sl strE w X ys ∧ ∀ W : World, (Instr.slice 43 (.slice A base.length c) (some (iv (i : Int))) (some (iv (x : Int))) none).run Tryz.prog W = .ok (.slice X ys.length n) W := by
  refine ⟨cutA A c i 1, c - i, File.cut base i x, rfl, File.cut_len _ _ _, Sl.cut hs hc hi hx, ?_⟩
  have h1 := run_cut strE tyStrs A base.length c i x hi (Nat.le_trans hx hc)
  rw [File.cut_length hx hi]
  exact h1
theorem cut_from {A : Option Addr} {base : List ByteArray} {c i : Nat} {w : World} (hc : base.length ≤ c) (hi : i ≤ base.length) (hs : Sl strE w A base) :
    ∃ (X : Option Addr) (n : Nat) (ys : List ByteArray), ys = base.drop i ∧ ys.length ≤ base.length ∧ Sl strE w X ys ∧ ∀ W : World, (Instr.slice 43 (.slice A base.length c) (some (iv (i : Int))) none none).run Tryz.prog W = .ok (.slice X ys.length n) W := by
  have he : File.cut base i base.length = base.drop i := by unfold File.cut; exact List.take_of_length_le (by rw [List.length_drop]; exact Nat.le_refl _)
  refine ⟨cutA A c i 1, c - i, base.drop i, rfl, by rw [List.length_drop]; omega, he ▸ Sl.cut hs hc hi (Nat.le_refl _), ?_⟩
  have h1 := run_cutFrom strE tyStrs A base.length c i hi
  rw [List.length_drop]
  exact h1
theorem Sl.atBl {w : World} {A : Option Addr} {vs : List BlV} {k : Nat} (h : Sl blE w A vs) (hk : k < vs.length) :
    ∃ b off x, A = some ⟨b, off, none⟩ ∧ b < w.heap.size ∧ vs[k]? = some x ∧ w.cell? ⟨b, off + k * 4, none⟩ = some (iv (x.lo : Int)) ∧ w.cell? ⟨b, off + k * 4 + 1, none⟩ = some (iv (x.hi : Int)) ∧ w.cell? ⟨b, off + k * 4 + 2, none⟩ = some (.slice x.A0 x.e0.length x.c0) ∧ w.cell? ⟨b, off + k * 4 + 3, none⟩ = some (.slice x.A1 x.e1.length x.c1) := by
  obtain ⟨b, off, x, hA, hb, hx, hc⟩ := h.at_ hk
  exact ⟨b, off, x, hA, hb, hx, by simpa [blE] using hc 0 (iv (x.lo : Int)) rfl, by simpa [blE] using hc 1 _ rfl, by simpa [blE, BlV.v0] using hc 2 _ rfl, by simpa [blE, BlV.v1] using hc 3 _ rfl⟩
theorem diffGo_small {a b : List ByteArray} : ∀ (l : List (Nat × Nat)) (i j : Nat), ∀ x ∈ File.diffGo a b i j l, x.old.length ≤ a.length ∧ x.new.length ≤ b.length
  | [], _, _, _, h => by cases h
  | p :: r, i, j, x, h => by
    unfold File.diffGo at h
    rcases List.mem_append.1 h with h | h
    · split at h
      · cases h
      · rw [List.mem_singleton.1 h]
        exact ⟨File.cut_len _ _ _, File.cut_len _ _ _⟩
    · exact diffGo_small r _ _ x h
theorem smallC_diff {a b : List ByteArray} (ha : a.length ≤ 24) (hb : b.length ≤ 24) : SmallC (File.diff a b) := by
  have hl := File.diff_len a b
  refine ⟨by omega, fun x hx => ?_, fun x hx => ?_⟩
  · have := (diffGo_small _ _ _ x hx).1; omega
  · have := (diffGo_small _ _ _ x hx).2; omega
set_option maxHeartbeats 4000000 in
theorem joined_spec (Ab : Option Addr) (base : List ByteArray) (cb : Nat) (A : Option Addr) (a : List ByteArray) (c : Nat) (A' : Option Addr) (b : List ByteArray) (c' : Nat) (w : World) (gB : Good base) (ga : Good a) (gb : Good b) (hB0 : File.check base = 0) (hE0 : errOf a b = 0)
    (hcB : base.length ≤ cb) (hca : a.length ≤ c) (hcb : b.length ≤ c') (hsB : Sl strE w Ab base) (hsa : Sl strE w A a) (hsb : Sl strE w A' b) :
    Calls Tryz.prog 10 #[.slice Ab base.length cb, .slice A a.length c, .slice A' b.length c'] w fun e w' => ∃ v0 v1, e = .returned (.tuple #[v0, v1, iv (File.joinAns base a b).1]) ∧ Own strE 9 w.heap.size w' v0 (File.joinAns base a b).2.1 ∧ Own pairE 37 w.heap.size w' v1 (File.joinAns base a b).2.2 ∧ Below w.heap.size w w' := by
  have m0 := gB.many
  have m1 := ga.many
  have m2 := gb.many
  have HC : Hid (Calls Tryz.prog 25 #[.slice Ab base.length cb] w fun e w' => e = .returned (iv 0) ∧ Below w.heap.size w w') := Lib.hid (by
    have := check_spec Ab base cb w (by unfold big; omega) hsB
    rwa [hB0] at this)
  have HBo : ∀ W, Below w.heap.size w W → Hid (Calls Tryz.prog 26 #[.slice A a.length c, .slice A' b.length c'] W fun e w' => e = .returned (iv 0) ∧ Below W.heap.size W w') := fun W hW => Lib.hid (err_zero hE0 (both_spec A a c A' b c' W (by unfold big; omega) (by unfold big; omega) (hsa.below hW) (hsb.below hW)))
  have HANS : Hid (File.joinAns base a b = if 24 < (File.join base a b).1.length then (2, [], []) else (0, (File.join base a b).1, (File.join base a b).2)) := Lib.hid (by unfold File.joinAns; rw [if_neg (by simp [hB0]), if_neg (by simp [hE0])])
  generalize File.joinAns base a b = ans at *
  clear hB0 hE0
  go_enter Tryz.func10, Tryz.ntmps10
  go_wp2_with fail
  refine HC.out.mono ?_
  rintro e w1 ⟨rfl, hb1⟩
  go_wp2_with fail
  refine (HBo w1 hb1).out.mono ?_
  rintro e w2 ⟨rfl, hb2⟩
  have hb02 := hb1.next hb2 (Nat.le_refl _)
  clear HC HBo hb1 hb2
  go_wp2_with fail
  refine (diff_spec Ab base cb A a c w2 gB ga hcB hca (hsB.below hb02) (hsa.below hb02)).mono ?_
  rintro e w3 ⟨v0, rs0, rfl, hv0, hr0, hb3⟩
  have hb03 := hb02.next hb3 (Nat.le_refl _)
  go_wp2_with fail
  refine (diff_spec Ab base cb A' b c' w3 gB gb hcB hcb (hsB.below hb03) (hsb.below hb03)).mono ?_
  rintro e w4 ⟨v1, rs1, rfl, hv1, hr1, hb4⟩
  have hb04 := hb03.next hb4 (Nat.le_refl _)
  obtain ⟨vs0, hq0, hk0, hfc0, hln0⟩ := eds_of hr0
  obtain ⟨vs1, hq1, hk1, hfc1, hln1⟩ := eds_of hr1
  have ho0 := (own_eds hv0 hfc0 hln0).below hb4
  have ho1 := own_eds hv1 hfc1 hln1
  obtain ⟨C0, d0, rfl, hd0, _⟩ := ho0.form
  obtain ⟨C1, d1, rfl, hd1, _⟩ := ho1.form
  have hk0' : ∀ r ∈ vs0, EdOk w4 r := fun r hr => (hk0 r hr).below hb4
  have sm0 : SmallC (vs0.map EdV.ed) := by rw [hq0]; exact smallC_diff m0 m1
  have sm1 : SmallC (vs1.map EdV.ed) := by rw [hq1]; exact smallC_diff m0 m2
  have hat : ∀ vs : List EdV, File.Chain 0 (vs.map EdV.ed) → File.Within base.length (vs.map EdV.ed) → ∀ x ∈ vs, 0 ≤ x.at_ ∧ x.at_ ≤ 24 := fun vs h1 h2 x hx => by
    have hm : x.ed ∈ vs.map EdV.ed := List.mem_map_of_mem hx
    have k1 : ((0 : Nat) : Int) ≤ x.at_ := h1.pos _ hm
    have k2 : x.at_.toNat + x.old.length ≤ base.length := h2 _ hm
    omega
  have q0 := hat vs0 (by rw [hq0]; exact File.chain_diff _ _) (by rw [hq0]; exact File.within_diff _ _)
  have q1 := hat vs1 (by rw [hq1]; exact File.chain_diff _ _) (by rw [hq1]; exact File.within_diff _ _)
  have HOKE : Hid (File.BlocksOk base.length 0 (File.blocks (vs0.map EdV.ed) (vs1.map EdV.ed))) := Lib.hid (by rw [hq0, hq1]; exact File.blocks_ok (File.chain_diff _ _) (File.chain_diff _ _) (File.within_diff _ _) (File.within_diff _ _))
  have HJ : Hid (File.joinGo base 0 (File.blocks (vs0.map EdV.ed) (vs1.map EdV.ed)) = File.join base a b) := Lib.hid (by rw [hq0, hq1]; rfl)
  have HSM : Hid (∀ bl ∈ File.blocks (vs0.map EdV.ed) (vs1.map EdV.ed), SmallC bl.e0 ∧ SmallC bl.e1) := Lib.hid fun bl hbl => by
    obtain ⟨u0, u1⟩ := File.mem_block0 hbl
    exact ⟨⟨Nat.le_trans u0.length_le sm0.many, fun x hx => sm0.old x (u0.subset hx), fun x hx => sm0.new x (u0.subset hx)⟩, ⟨Nat.le_trans u1.length_le sm1.many, fun x hx => sm1.old x (u1.subset hx), fun x hx => sm1.new x (u1.subset hx)⟩⟩
  have HFL := Lib.hid (File.blocks_flat (vs0.map EdV.ed) (vs1.map EdV.ed)).2.2
  have HBL := Lib.hid (blocks_spec C0 d0 C1 d1 vs0 vs1 w4 ho0.sl ho1.sl sm0 sm1 q0 q1)
  have HL50 : Hid ((vs0.map EdV.ed).length + (vs1.map EdV.ed).length ≤ 50) := Lib.hid (by have h1 := sm0.many; have h2 := sm1.many; omega)
  have HK : Hid (∀ x, x ∈ vs0 ∨ x ∈ vs1 → EdOk w4 x) := Lib.hid fun x hx => hx.elim (hk0' x) (hk1 x)
  clear hat q0 q1 sm0 sm1 hk0 hk1 hk0' ho0 ho1 hv0 hv1 hr0 hr1 hfc0 hfc1 hln0 hln1 hq0 hq1 hb3 hb4 hb02 hb03 hd0 hd1
  go_wp2_with fail
  refine HBL.out.mono ?_
  rintro e w5 ⟨v, rs, rfl, hvr, hrb, hin, hb5⟩
  have hb05 := hb04.next hb5 (Nat.le_refl _)
  obtain ⟨C, d, rfl, hd, _⟩ := hvr.form
  have hrl : rs.length ≤ 50 := by
    have h1 := congrArg List.length hrb
    rw [List.length_map] at h1
    have h2 := HFL.out
    have h3 := HL50.out
    omega
  rw [← hrb] at HOKE HJ HSM
  have HIN : Hid (∀ r ∈ rs, Own edE 126 w4.heap.size w5 r.v0 r.e0 ∧ Own edE 126 w4.heap.size w5 r.v1 r.e1 ∧ ∀ x, x ∈ r.e0 ∨ x ∈ r.e1 → EdOk w5 x) := Lib.hid fun r hr => ⟨(hin r hr).1, (hin r hr).2.1, fun x hx => (HK.out x ((hin r hr).2.2 x hx)).below hb5⟩
  have HVR := Lib.hid hvr.sl
  have HB05 := Lib.hid hb05
  have HSB := Lib.hid (hsB.below hb05)
  clear hvr hrb hin hb5 hb04 hb05 HBL HFL HL50 HK hd hsB hsa hsb ga gb gB hca hcb m1 m2
  generalize File.join base a b = J at *
  go_wp2_with fail
  go_loopw [11, 12, 13, 37] (fun vo vc at_ i wr => ∃ (k q : Nat) (out : List ByteArray) (cf : List (Nat × Nat)), k ≤ rs.length ∧ i = iv k ∧ at_ = iv q ∧ q ≤ base.length ∧ Hid (Own strE 9 w5.heap.size wr vo out) ∧ Hid (Own pairE 37 w5.heap.size wr vc cf) ∧ out.length ≤ k * 5000 ∧ cf.length ≤ k ∧
    Hid (File.BlocksOk base.length q ((rs.map BlV.b).drop k)) ∧ Hid (out ++ (File.joinGo base q ((rs.map BlV.b).drop k)).1 = J.1 ∧ cf ++ (File.joinGo base q ((rs.map BlV.b).drop k)).2 = J.2) ∧ Below w5.heap.size w5 wr) (fun _ _ _ i _ => rs.length - (intOf i).toNat)
  case atStart => exact ⟨0, 0, [], [], by omega, rfl, rfl, Nat.zero_le _, Own.nil, Own.nil, by simp, by simp, HOKE.out, by rw [List.drop_zero, HJ.out]; exact ⟨rfl, rfl⟩, Below.refl _ _⟩
  case round =>
    obtain ⟨k, q, out, cf, hk, rfl, rfl, hq, HO, HCF, hol, hcl, HOK, HREL, hbr⟩ := hrel
    by_cases hlt : k < rs.length
    · obtain ⟨bx, ox, x, rfl, hbx, hx, hc0, hc1, hc2, hc3⟩ := Sl.atBl (HVR.out.below hbr) hlt
      have hxm := mem_at hx
      have hdx : (rs.map BlV.b).drop k = x.b :: (rs.map BlV.b).drop (k + 1) := drop_at (by rw [List.getElem?_map, hx]; rfl)
      have hok := HOK.out
      rw [hdx] at hok
      obtain ⟨p1, p2, p3, p4, p5, p6, p7, p8⟩ := hok
      have hrel := HREL.out
      rw [hdx] at hrel
      obtain ⟨sq0, sq1⟩ := HSM.out x.b (List.mem_map_of_mem hxm)
      obtain ⟨i0, i1, i2⟩ := HIN.out x hxm
      obtain ⟨lo, hi, B0, f0, e0, B1, f1, e1⟩ := x
      simp only [BlV.v0, BlV.v1] at hc0 hc1 hc2 hc3 i0 i1 i2
      simp only [BlV.b] at p1 p2 p3 p4 p5 p6 p7 p8 hrel sq0 sq1
      obtain ⟨X, n, ys, hys, hyl, hsy, RC⟩ := cut_run hcB p1 (Nat.le_trans p2 p3) (HSB.out.below hbr)
      have HM : Below wr.heap.size wr (wr.alloc (.cells #[iv (lo : Int), iv (hi : Int), .slice B0 e0.length f0, .slice B1 e1.length f1] 81)) := (Below.refl _ _).alloc (Nat.le_refl _) _
      have hM1 : Blk (wr.alloc (.cells #[iv (lo : Int), iv (hi : Int), .slice B0 e0.length f0, .slice B1 e1.length f1] 81)) wr.heap.size 81 #[iv (lo : Int), iv (hi : Int), .slice B0 e0.length f0, .slice B1 e1.length f1] := Blk.new _ _ _
      have HYS := Lib.hid hys
      have HRL := Lib.hid hrel
      have HP8 := Lib.hid p8
      have hlr : (k : Int) < (rs.length : Int) := by omega
      clear hx hxm hdx HOK HREL hys hrel p8
      go_upto_region 13 with fail
      generalize wr.alloc (.cells #[iv (lo : Int), iv (hi : Int), .slice B0 e0.length f0, .slice B1 e1.length f1] 81) = w6 at *
      have hO6 := HO.out.below HM
      obtain ⟨A6, c6, rfl, hc6, _⟩ := hO6.form
      have hsz := (hbr.trans (HM.mono hbr.size)).size
      have hneO : ∀ b, (Value.slice A6 out.length c6).ownBlock = some b → b < wr.heap.size := fun b hb => (HO.out.lt b hb).2
      have hlob : lo ≤ hi ∧ hi ≤ base.length := ⟨p2, p3⟩
      have m0 := hM1.cell 0
      have m1 := hM1.cell 1
      have m2 := hM1.cell 2
      have m3 := hM1.cell 3
      have ml := hM1.lt
      clear HO
      go_upto_region 15 with (at_builtin; refine wpAppS strE tyStrs rfl _ _ rfl hO6 (hsy.below HM) rfl rfl hsz (by unfold big; omega) ?_; intro v7 w7 hown7 hb7 hk7; have hM7 : Blk w7 wr.heap.size 81 #[iv (lo : Int), iv (hi : Int), .slice B0 e0.length f0, .slice B1 e1.length f1] := (hk7 _ hM1.lt (fun hv => Nat.lt_irrefl _ (hneO _ hv))).trans hM1; have n0 := hM7.cell 0; have n1 := hM7.cell 1; have nl := hM7.lt; clear m0 m1 m2 m3)
      have HCF7 := Lib.hid (HCF.out.below HM |>.keep hb7.size fun b hb => hk7 b ((HCF.out.below HM).lt b hb).2 (Own.two (HCF.out.below HM) hO6 (by decide) hb))
      have hbr7 : Below w5.heap.size w5 w7 := (hbr.trans (HM.mono hbr.size)).trans hb7
      obtain ⟨O7, hO7⟩ : ∃ O7, O7 = out ++ File.cut base q lo := ⟨_, rfl⟩
      have HO7 : Hid (Own strE 9 w5.heap.size w7 v7 O7) := Lib.hid (by rw [hO7, ← HYS.out]; exact hown7)
      have hO7l : O7.length ≤ k * 5000 + 24 := by rw [hO7, ← HYS.out, List.length_append]; omega
      obtain ⟨R, hRR⟩ : ∃ R, R = (rs.map BlV.b).drop (k + 1) := ⟨_, rfl⟩
      rw [← hRR] at HRL HP8
      clear hown7 hO6 hneO hb7 hk7 HM hM1 HCF hsy RC hc6
      obtain ⟨H0, hH0⟩ : ∃ H0, H0 = File.hasGo base hi lo (e0.map EdV.ed) := ⟨_, rfl⟩
      obtain ⟨H1, hH1⟩ : ∃ H1, H1 = File.hasGo base hi lo (e1.map EdV.ed) := ⟨_, rfl⟩
      have HH0 : Hid (∀ x, Below w7.heap.size w7 x → Calls Tryz.prog 29 #[.agg #[iv (lo : Int), iv (hi : Int), .slice B0 e0.length f0, .slice B1 e1.length f1], .slice Ab base.length cb, iv 0] x fun e w' => ∃ v, e = .returned v ∧ Own strE 9 x.heap.size w' v H0 ∧ Below x.heap.size x w') := Lib.hid fun x hx => by
        rw [hH0]
        have hb := hbr7.next hx (Nat.le_refl _)
        exact has0_spec lo hi _ _ _ Ab base cb e0 B0 f0 x (by assumption) hcB p2 p3 sq0 p4 p5 (HSB.out.below hb) ((i0.below hb).sl) (fun r hr => (i2 r (.inl hr)).below hb)
      have HH1 : Hid (∀ x, Below w7.heap.size w7 x → Calls Tryz.prog 29 #[.agg #[iv (lo : Int), iv (hi : Int), .slice B0 e0.length f0, .slice B1 e1.length f1], .slice Ab base.length cb, iv 1] x fun e w' => ∃ v, e = .returned v ∧ Own strE 9 x.heap.size w' v H1 ∧ Below x.heap.size x w') := Lib.hid fun x hx => by
        rw [hH1]
        have hb := hbr7.next hx (Nat.le_refl _)
        exact has1_spec lo hi _ _ _ Ab base cb e1 B1 f1 x (by assumption) hcB p2 p3 sq1 p6 p7 (HSB.out.below hb) ((i1.below hb).sl) (fun r hr => (i2 r (.inr hr)).below hb)
      have hHl : H0.length ≤ 1300 ∧ H1.length ≤ 1300 := by
        have hb24 : base.length ≤ 24 := by assumption
        rw [hH0, hH1]
        have go : ∀ c : List (File.Edit ByteArray), SmallC c → (File.hasGo base hi lo c).length ≤ 1300 := fun c hc => by
          have h1 := File.hasGo_len (base := base) (hi := hi) (M := 24) (c := c) (at_ := lo) hc.new
          have h3 : c.length * (base.length + 24) ≤ 25 * 48 := Nat.mul_le_mul hc.many (by omega)
          omega
        exact ⟨go _ sq0, go _ sq1⟩
      have hmn : ∀ l : List EdV, l.map EdV.ed = [] ↔ l = [] := fun l => by simp
      have HJA : Hid ((e1 = [] ∨ H0 = H1) → (O7 ++ H0) ++ (File.joinGo base hi R).1 = J.1 ∧ cf ++ (File.joinGo base hi R).2 = J.2) := Lib.hid fun hh => by
        have h1 := HRL.out
        unfold File.joinGo at h1
        simp only [← hH0, ← hH1, hmn] at h1
        rw [if_pos hh] at h1
        simpa [hO7, List.append_assoc] using h1
      have HJB : Hid (¬ (e1 = [] ∨ H0 = H1) → e0 = [] → (O7 ++ H1) ++ (File.joinGo base hi R).1 = J.1 ∧ cf ++ (File.joinGo base hi R).2 = J.2) := Lib.hid fun hh hh2 => by
        have h1 := HRL.out
        unfold File.joinGo at h1
        simp only [← hH0, ← hH1, hmn] at h1
        rw [if_neg hh, if_pos hh2] at h1
        simpa [hO7, List.append_assoc] using h1
      have HJC : Hid (¬ (e1 = [] ∨ H0 = H1) → ¬ e0 = [] → (O7 ++ File.cut base lo hi) ++ (File.joinGo base hi R).1 = J.1 ∧ (cf ++ [(lo, hi)]) ++ (File.joinGo base hi R).2 = J.2) := Lib.hid fun hh hh2 => by
        have h1 := HRL.out
        unfold File.joinGo at h1
        simp only [← hH0, ← hH1, hmn] at h1
        rw [if_neg hh, if_neg hh2] at h1
        simpa [hO7, List.append_assoc] using h1
      have HOK9 : Hid (File.BlocksOk base.length hi R) := Lib.hid (HP8.out.weaken (Nat.le_succ _))
      have HRR := Lib.hid hRR
      clear hmn hO7 HRL HP8 HYS hRR
      clear hH0 hH1 i0 i1 i2 sq0 sq1 p4 p5 p6 p7
      refine wp_free_lit (by kernel_rfl) 8 (by kernel_rfl) (by kernel_rfl) (by decide) (fun _ x => Below w7.heap.size w7 x) (fun x x' => Below x.heap.size x x')
        [fun _ u _ => u = .agg #[iv (lo : Int), iv (hi : Int), .slice B0 e0.length f0, .slice B1 e1.length f1],
         fun _ u _ => u = .slice Ab base.length cb,
         fun _ u x => Own strE 9 w7.heap.size x u H0,
         fun _ u _ => u = .agg #[iv (lo : Int), iv (hi : Int), .slice B0 e0.length f0, .slice B1 e1.length f1],
         fun _ u _ => u = .slice Ab base.length cb,
         fun _ u x => Own strE 9 w7.heap.size x u H1,
         fun v u _ => u = .agg #[v 2, v 5],
         fun _ u x => ∃ gb, u = .pointer (some ⟨gb, 0, none⟩) ∧ w7.heap.size ≤ gb ∧ Blk x gb 83 #[.slice none 0 0, .slice none 0 0]]
        (Below.refl _ w7).drew ?_ ?_
      · simp only [List.take_succ_cons, List.take_zero, HopL]
        refine ⟨?_, ?_, ?_, ?_, ?_, ?_, ?_, ?_, trivial⟩
        · refine ⟨fun _ _ _ _ _ h => h, fun _ _ _ _ h _ => h, fun v n x hn hR hk => ?_⟩
          have hMx := hM7.under hR
          have n0 := hMx.cell 0
          have n1 := hMx.cell 1
          have n2 := hMx.cell 2
          have n3 := hMx.cell 3
          have nl := hMx.lt
          simp only [List.take_succ_cons, List.take_zero, frameF, Act.put, List.setIfInBounds_toArray, List.set_cons_zero, List.set_cons_succ]
          exact stepF_val (by rfl) (by go_simp) ⟨rfl, Below.refl _ _, hR⟩
        · refine ⟨fun _ _ _ _ _ h => h, fun _ _ _ _ h _ => h, fun v n x hn hR hk => ?_⟩
          simp only [List.take_succ_cons, List.take_zero, frameF, Act.put, List.setIfInBounds_toArray, List.set_cons_zero, List.set_cons_succ]
          exact stepF_val (by rfl) (by go_simp) ⟨rfl, Below.refl _ _, hR⟩
        · refine ⟨fun _ _ _ _ _ h => h, fun _ _ _ _ h hS => h.below hS, fun v n x hn hR hk => ?_⟩
          have h0 : v 0 = .agg #[iv (lo : Int), iv (hi : Int), .slice B0 e0.length f0, .slice B1 e1.length f1] := hk 0 (by kernel_rfl)
          have h1 : v 1 = .slice Ab base.length cb := hk 1 (by kernel_rfl)
          simp only [List.take_succ_cons, List.take_zero, frameF, Act.put, List.setIfInBounds_toArray, List.set_cons_zero, List.set_cons_succ]
          refine stepF_call (by rfl) (by go_simp) (HH0.out x hR) ?_
          rintro e x' ⟨r, rfl, ho, hb⟩
          exact ⟨_, rfl, ho.base hR.size, hb, hR.next hb (Nat.le_refl _)⟩
        · refine ⟨fun _ _ _ _ _ h => h, fun _ _ _ _ h _ => h, fun v n x hn hR hk => ?_⟩
          have hMx := hM7.under hR
          have n0 := hMx.cell 0
          have n1 := hMx.cell 1
          have n2 := hMx.cell 2
          have n3 := hMx.cell 3
          have nl := hMx.lt
          simp only [List.take_succ_cons, List.take_zero, frameF, Act.put, List.setIfInBounds_toArray, List.set_cons_zero, List.set_cons_succ]
          exact stepF_val (by rfl) (by go_simp) ⟨rfl, Below.refl _ _, hR⟩
        · refine ⟨fun _ _ _ _ _ h => h, fun _ _ _ _ h _ => h, fun v n x hn hR hk => ?_⟩
          simp only [List.take_succ_cons, List.take_zero, frameF, Act.put, List.setIfInBounds_toArray, List.set_cons_zero, List.set_cons_succ]
          exact stepF_val (by rfl) (by go_simp) ⟨rfl, Below.refl _ _, hR⟩
        · refine ⟨fun _ _ _ _ _ h => h, fun _ _ _ _ h hS => h.below hS, fun v n x hn hR hk => ?_⟩
          have h0 : v 3 = .agg #[iv (lo : Int), iv (hi : Int), .slice B0 e0.length f0, .slice B1 e1.length f1] := hk 3 (by kernel_rfl)
          have h1 : v 4 = .slice Ab base.length cb := hk 4 (by kernel_rfl)
          simp only [List.take_succ_cons, List.take_zero, frameF, Act.put, List.setIfInBounds_toArray, List.set_cons_zero, List.set_cons_succ]
          refine stepF_call (by rfl) (by go_simp) (HH1.out x hR) ?_
          rintro e x' ⟨r, rfl, ho, hb⟩
          exact ⟨_, rfl, ho.base hR.size, hb, hR.next hb (Nat.le_refl _)⟩
        · refine ⟨fun v v' u x h hs => ?_, fun _ _ _ _ h _ => h, fun v n x hn hR hk => ?_⟩
          · show u = .agg #[v' 2, v' 5]
            rw [← h 2 (by kernel_rfl), ← h 5 (by kernel_rfl)]
            exact hs
          · have h2 : Own strE 9 w7.heap.size x (v 2) H0 := hk 2 (by kernel_rfl)
            have h5 : Own strE 9 w7.heap.size x (v 5) H1 := hk 5 (by kernel_rfl)
            obtain ⟨X2, k2, e2, _, _⟩ := h2.form
            obtain ⟨X5, k5, e5, _, _⟩ := h5.form
            simp only [List.take_succ_cons, List.take_zero, frameF, Act.put, List.setIfInBounds_toArray, List.set_cons_zero, List.set_cons_succ]
            exact stepF_val (u := .agg #[.slice X2 H0.length k2, .slice X5 H1.length k5]) (by rfl) (by go_simp) ⟨by show _ = Value.agg #[v 2, v 5]; rw [e2, e5], Below.refl _ _, hR⟩
        · refine ⟨fun _ _ _ _ _ h => h, fun v u x x' h hS => ?_, fun v n x hn hR hk => ?_⟩
          · obtain ⟨gb, h1, h2, h3⟩ := h
            exact ⟨gb, h1, h2, h3.under hS⟩
          · simp only [List.take_succ_cons, List.take_zero, frameF, Act.put, List.setIfInBounds_toArray, List.set_cons_zero, List.set_cons_succ]
            exact stepF_new (u := .pointer (some ⟨x.heap.size, 0, none⟩)) (w' := x.alloc (.cells #[.slice none 0 0, .slice none 0 0] 83)) (by rfl) (by go_simp) ⟨⟨x.heap.size, rfl, hR.size, Blk.new _ _ _⟩, (Below.refl _ _).alloc (Nat.le_refl _) _, hR.alloc hR.size _⟩
      · intro v n x hn hR hall
        have h2 : Own strE 9 w7.heap.size x (v 2) H0 := hall 2 (by decide)
        have h5 : Own strE 9 w7.heap.size x (v 5) H1 := hall 5 (by decide)
        have h6 : v 6 = .agg #[v 2, v 5] := hall 6 (by decide)
        have h7 : ∃ gb, v 7 = .pointer (some ⟨gb, 0, none⟩) ∧ w7.heap.size ≤ gb ∧ Blk x gb 83 #[.slice none 0 0, .slice none 0 0] := hall 7 (by decide)
        obtain ⟨gb, h7, hgb, hBx⟩ := h7
        obtain ⟨X2, k2, e2, hk2, _⟩ := h2.form
        obtain ⟨X5, k5, e5, hk5, _⟩ := h5.form
        rw [e2, e5] at h6
        rw [e2] at h2
        rw [e5] at h5
        clear hall
        simp only [List.drop_succ_cons, List.drop_zero, List.take_succ_cons, List.take_zero, frameF, Act.put, List.setIfInBounds_toArray, List.set_cons_zero, List.set_cons_succ, h6, h7]
        clear h6 h7 e2 e5
        have z0 := hBx.cell 0
        have z1 := hBx.cell 1
        have zl := hBx.lt
        have y0 := hBx.frozen 0
        have y1 := hBx.frozen 1
        go_upto_region 18 with fail
        have hbS : Below w7.heap.size w7 ((x.setCell ⟨gb, 0, none⟩ (.slice X2 H0.length k2)).setCell ⟨gb, 1, none⟩ (.slice X5 H1.length k5)) := (hR.setCell (p := ⟨gb, 0, none⟩) hgb _).setCell (p := ⟨gb, 1, none⟩) hgb _
        have hBS : Blk ((x.setCell ⟨gb, 0, none⟩ (.slice X2 H0.length k2)).setCell ⟨gb, 1, none⟩ (.slice X5 H1.length k5)) gb 83 #[.slice X2 H0.length k2, .slice X5 H1.length k5] := (hBx.set_ 0 _).set_ 1 _
        have ho2 := Sl.below (Own.sl (h2.keep (w' := (x.setCell ⟨gb, 0, none⟩ (.slice X2 H0.length k2)).setCell ⟨gb, 1, none⟩ (.slice X5 H1.length k5)) (by simp [World.setCell]) fun b hb => by rw [Below.heap_setCell _ _ _ b (fun e => ownNeBlk h2 hBx (by decide) (by rw [hb, e])), Below.heap_setCell _ _ _ b (fun e => ownNeBlk h2 hBx (by decide) (by rw [hb, e]))])) (Below.refl _ _)
        have ho5 := Sl.below (Own.sl (h5.keep (w' := (x.setCell ⟨gb, 0, none⟩ (.slice X2 H0.length k2)).setCell ⟨gb, 1, none⟩ (.slice X5 H1.length k5)) (by simp [World.setCell]) fun b hb => by rw [Below.heap_setCell _ _ _ b (fun e => ownNeBlk h5 hBx (by decide) (by rw [hb, e])), Below.heap_setCell _ _ _ b (fun e => ownNeBlk h5 hBx (by decide) (by rw [hb, e]))])) (Below.refl _ _)
        generalize (x.setCell ⟨gb, 0, none⟩ (.slice X2 H0.length k2)).setCell ⟨gb, 1, none⟩ (.slice X5 H1.length k5) = wS at *
        have hMS := hM7.under hbS
        have hOS := HO7.out.below hbS
        have hCS := HCF7.out.below hbS
        have hbrS := hbr7.next hbS (Nat.le_refl _)
        clear h2 h5 hBx hR z0 z1 zl y0 y1 n0 n1 nl HO7 HCF7 hbS HH0 HH1 hM7 hgb
        rcases Nat.eq_zero_or_pos e1.length with hz1 | hz1
        · have he1 : e1 = [] := List.eq_nil_of_length_eq_zero hz1
          have HFIN := Lib.hid (HJA.out (.inl he1))
          have s0 := hMS.cell 0
          have s1 := hMS.cell 1
          have s2 := hMS.cell 2
          have s3 := hMS.cell 3
          have sl := hMS.lt
          have t0 := hBS.cell 0
          have t1 := hBS.cell 1
          have tl := hBS.lt
          rw [hz1] at s3
          clear hz1 he1 HJA HJB HJC
          have hsz := hbrS.size
          obtain ⟨A8, c8, rfl, hc8, _⟩ := hOS.form
          go_wp2_with (at_builtin; refine wpAppS strE tyStrs rfl _ _ rfl hOS ho2 rfl rfl hsz (by unfold big; omega) ?_; intro v8 w8 hown8 hb8 hk8)
          go_roundw
          case rel => exact ⟨k + 1, hi, O7 ++ H0, cf, by omega, by go_num, rfl, p3, hown8, hCS.keep hb8.size fun b hb => hk8 b (hCS.lt b hb).2 (Own.two hCS hOS (by decide) hb), by rw [List.length_append]; omega, by omega, by rw [← HRR.out]; exact HOK9.out, by rw [← HRR.out]; exact HFIN.out, hbrS.trans hb8⟩
          case measure => simp [intOf]; omega
        · have he1 : ¬ e1 = [] := fun h => by rw [h] at hz1; exact absurd hz1 (by simp)
          have s0 := hMS.cell 0
          have s1 := hMS.cell 1
          have s2 := hMS.cell 2
          have s3 := hMS.cell 3
          have sl := hMS.lt
          have t0 := hBS.cell 0
          have t1 := hBS.cell 1
          have tl := hBS.lt
          obtain ⟨n1, hn1⟩ : ∃ n1, e1.length = n1 + 1 := ⟨e1.length - 1, by omega⟩
          rw [hn1] at s3
          have HEQ := Lib.hid (equalS X2 H0 k2 X5 H1 k5 wS (by unfold big; omega) ho2 (by unfold big; omega) ho5)
          clear hz1
          have hn1i : (((n1 + 1 : Nat) : Int) == 0) = false := by simp; omega
          by_cases hH : H0 = H1
          · have HFIN := Lib.hid (HJA.out (.inr hH))
            rw [decide_eq_true hH] at HEQ
            clear hH HJA HJB HJC
            go_upto_region 19 with (go_at_call 11; refine HEQ.out.mono ?_; rintro e wE ⟨rfl, hbE⟩)
            have hbrE := hbrS.next hbE (Nat.le_refl _)
            have hOE := hOS.below hbE
            have hCE := hCS.below hbE
            have hoE := ho2.below hbE
            have hME := hMS.under hbE
            have hBE := hBS.under hbE
            clear s0 s1 s2 s3 sl t0 t1 tl
            have s0 := hME.cell 0
            have s1 := hME.cell 1
            have s2 := hME.cell 2
            have s3 := hME.cell 3
            have sl := hME.lt
            have t0 := hBE.cell 0
            have t1 := hBE.cell 1
            have tl := hBE.lt
            have hsz := hbrE.size
            obtain ⟨A8, c8, rfl, hc8, _⟩ := hOE.form
            go_wp2_with (at_builtin; refine wpAppS strE tyStrs rfl _ _ rfl hOE hoE rfl rfl hsz (by unfold big; omega) ?_; intro v8 w8 hown8 hb8 hk8)
            go_roundw
            case rel => exact ⟨k + 1, hi, O7 ++ H0, cf, by omega, by go_num, rfl, p3, hown8, hCE.keep hb8.size fun b hb => hk8 b (hCE.lt b hb).2 (Own.two hCE hOE (by decide) hb), by rw [List.length_append]; omega, by omega, by rw [← HRR.out]; exact HOK9.out, by rw [← HRR.out]; exact HFIN.out, hbrE.trans hb8⟩
            case measure => simp [intOf]; omega
          · have hno : ¬ (e1 = [] ∨ H0 = H1) := fun h => h.elim he1 hH
            rw [decide_eq_false hH] at HEQ
            have HJB2 := Lib.hid (HJB.out hno)
            have HJC2 := Lib.hid (HJC.out hno)
            clear hH HJA HJB HJC hno
            go_upto_region 20 with (go_at_call 11; refine HEQ.out.mono ?_; rintro e wE ⟨rfl, hbE⟩)
            have hbrE := hbrS.next hbE (Nat.le_refl _)
            have hOE := hOS.below hbE
            have hCE := hCS.below hbE
            have hoE := ho5.below hbE
            have hME := hMS.under hbE
            have hBE := hBS.under hbE
            clear s0 s1 s2 s3 sl t0 t1 tl
            have s0 := hME.cell 0
            have s1 := hME.cell 1
            have s2 := hME.cell 2
            have s3 := hME.cell 3
            have sl := hME.lt
            have t0 := hBE.cell 0
            have t1 := hBE.cell 1
            have tl := hBE.lt
            rcases Nat.eq_zero_or_pos e0.length with hz0 | hz0
            · have he0 : e0 = [] := List.eq_nil_of_length_eq_zero hz0
              have HFIN := Lib.hid (HJB2.out he0)
              rw [hz0] at s2
              clear hz0 he0 HJB2 HJC2
              have hsz := hbrE.size
              obtain ⟨A8, c8, rfl, hc8, _⟩ := hOE.form
              go_wp2_with (at_builtin; refine wpAppS strE tyStrs rfl _ _ rfl hOE hoE rfl rfl hsz (by unfold big; omega) ?_; intro v8 w8 hown8 hb8 hk8)
              go_roundw
              case rel => exact ⟨k + 1, hi, O7 ++ H1, cf, by omega, by go_num, rfl, p3, hown8, hCE.keep hb8.size fun b hb => hk8 b (hCE.lt b hb).2 (Own.two hCE hOE (by decide) hb), by rw [List.length_append]; omega, by omega, by rw [← HRR.out]; exact HOK9.out, by rw [← HRR.out]; exact HFIN.out, hbrE.trans hb8⟩
              case measure => simp [intOf]; omega
            · have he0 : ¬ e0 = [] := fun h => by rw [h] at hz0; exact absurd hz0 (by simp)
              obtain ⟨n0, hn0⟩ : ∃ n0, e0.length = n0 + 1 := ⟨e0.length - 1, by omega⟩
              have HFIN := Lib.hid (HJC2.out he0)
              rw [hn0] at s2
              have hn0i : (((n0 + 1 : Nat) : Int) == 0) = false := by simp; omega
              clear hz0 he0 HJB2 HJC2
              obtain ⟨X4, n4, y4, hy4, hyl4, hsy4, RC4⟩ := cut_run hcB p2 p3 (HSB.out.below hbrE)
              rw [← hy4] at HFIN
              clear hy4
              have hsz := hbrE.size
              obtain ⟨A8, c8, rfl, hc8, _⟩ := hOE.form
              go_upto_region 17 with (at_builtin; refine wpAppS strE tyStrs rfl _ _ rfl hOE hsy4 rfl rfl hsz (by unfold big; omega) ?_; intro v8 w8 hown8 hb8 hk8)
              have hC8 := hCE.keep hb8.size fun b hb => hk8 b (hCE.lt b hb).2 (Own.two hCE hOE (by decide) hb)
              have hM8 : Blk w8 wr.heap.size 81 #[iv (lo : Int), iv (hi : Int), .slice B0 e0.length f0, .slice B1 e1.length f1] := (hk8 _ hME.lt (ownNeBlk hOE hME (by decide))).trans hME
              have hbr8 := hbrE.trans hb8
              have hsz8 := hbr8.size
              have HO8 := Lib.hid hown8
              clear s0 s1 s2 s3 sl t0 t1 tl hown8 hb8 hk8 hCE hOE hME hBE hoE hn0 hn1 hn0i hn1i
              have s0 := hM8.cell 0
              have s1 := hM8.cell 1
              have sl := hM8.lt
              have hcl9 : cf.length + 1 ≤ big := by unfold big; omega
              go_wp2_with (at_builtin; refine wpApp1 pairE tySpans rfl _ _ rfl hC8 (lo, hi) rfl rfl rfl hsz8 hcl9 ?_; intro v9 w9 hown9 hb9 hk9)
              go_roundw
              case rel => exact ⟨k + 1, hi, O7 ++ y4, cf ++ [(lo, hi)], by omega, by go_num, rfl, p3, HO8.out.keep hb9.size fun b hb => hk9 b (HO8.out.lt b hb).2 (Own.two HO8.out hC8 (by decide) hb), hown9, by rw [List.length_append]; omega, by rw [List.length_append]; simp; omega, by rw [← HRR.out]; exact HOK9.out, by rw [← HRR.out]; exact HFIN.out, hbr8.trans hb9⟩
              case measure => simp [intOf]; omega
    · obtain rfl : k = rs.length := by omega
      have hd := HREL.out
      rw [List.drop_of_length_le (by rw [List.length_map]; exact Nat.le_refl _)] at hd
      simp only [File.joinGo, List.append_nil] at hd
      obtain ⟨X, n, ys, hys, hyl, hsy, RC⟩ := cut_from hcB hq (HSB.out.below hbr)
      have HYS := Lib.hid hys
      have HD := Lib.hid hd
      have HO2 := HO.out
      obtain ⟨A6, c6, rfl, hc6, _⟩ := HO2.form
      have hsz := hbr.size
      clear hys hd HOK HREL
      have htot : out ++ ys = J.1 := by rw [HYS.out]; exact HD.out.1
      have hcf : cf = J.2 := HD.out.2
      have hjl : J.1.length ≤ 1000000 := by rw [← htot, List.length_append]; omega
      subst hcf
      have HTOT := Lib.hid htot
      clear htot HD
      by_cases h24 : 24 < J.1.length
      · have h24i : (24 : Int) < (J.1.length : Int) := by omega
        have HA : Hid (ans = (2, [], [])) := Lib.hid (by rw [HANS.out, if_pos h24])
        clear h24
        go_wp2_with (at_builtin; refine wpAppS strE tyStrs rfl _ _ rfl HO2 hsy rfl rfl hsz (by unfold big; omega) ?_; intro v7 w7 hown7 hb7 hk7; rw [HTOT.out] at hown7; obtain ⟨A7, c7, rfl, hc7, _⟩ := hown7.form)
        go_ret3
        exact ⟨_, _, by rw [HA.out]; rfl, by rw [HA.out]; exact Own.nil, by rw [HA.out]; exact Own.nil, HB05.out.next (hbr.trans hb7) (Nat.le_refl _)⟩
      · have h24i : ¬ (24 : Int) < (J.1.length : Int) := by omega
        have HA : Hid (ans = (0, J.1, J.2)) := Lib.hid (by rw [HANS.out, if_neg h24])
        clear h24
        go_wp2_with (at_builtin; refine wpAppS strE tyStrs rfl _ _ rfl HO2 hsy rfl rfl hsz (by unfold big; omega) ?_; intro v7 w7 hown7 hb7 hk7; rw [HTOT.out] at hown7; obtain ⟨A7, c7, rfl, hc7, _⟩ := hown7.form)
        go_ret3
        exact ⟨_, _, by rw [HA.out]; rfl, by rw [HA.out]; exact hown7.base HB05.out.size, by rw [HA.out]; exact Own.base (HCF.out.keep hb7.size fun b hb => hk7 b (HCF.out.lt b hb).2 (Own.two HCF.out HO2 (by decide) hb)) HB05.out.size, HB05.out.next (hbr.trans hb7) (Nat.le_refl _)⟩
end Fl
end Go.Proofs.YtlpoiggdjggkiaaGreatDoor
end
section
namespace Go.Proofs.YtlpoiggdjggkiaaGreatDoor
namespace Fl
open Go.RowKit Go.ChangeShapes
set_option maxRecDepth 100000
theorem len2 {α : Type} (l : List α) (h : l.length = 2) : ∃ a b, l = [a, b] := by
  match l, h with
  | [a, b], _ => exact ⟨a, b, rfl⟩
theorem fieldsSpan : ((Tryz.prog).fieldsOf 37).toList.map (fun f => (f.name, f.type, f.offset)) = [("Lo", 3, 0), ("Hi", 3, 1)] := by kernel_rfl
theorem eqSpan (a b c d : Int) (w : World) : (Op.equalIn 10000 37 (.agg #[iv a, iv b]) (.agg #[iv c, iv d])).run Tryz.prog w = .ok (a == c && b == d) w := by
  have hh := run_equalIn_agg (P := Tryz.prog) w 9999 37 #[iv a, iv b] #[iv c, iv d] (by kernel_rfl) (by kernel_rfl)
  rw [hh]
  have h3 : ∀ (x y : Int) (d : Nat), (Op.equalIn (d + 1) 3 (iv x) (iv y)).run Tryz.prog w = .ok (x == y) w := fun x y d => run_equalIn_int w d _ _ _ _ _ Tryz.underlying3
  have hf := fieldsSpan
  have hlen : ((Tryz.prog).fieldsOf 37).toList.length = 2 := by have := congrArg List.length hf; simpa using this
  obtain ⟨f0, f1, hl⟩ := len2 _ hlen
  rw [hl] at hf ⊢
  simp only [List.map_cons, List.map_nil, List.cons.injEq, Prod.mk.injEq, and_true] at hf
  obtain ⟨⟨n0, t0, o0⟩, ⟨n1, t1, o1⟩⟩ := hf
  have hp0 : ∀ a b : Int, (part 3 #[iv a, iv b] 0).run Tryz.prog w = .ok (iv a) w := fun _ _ => by kernel_rfl
  have hp1 : ∀ a b : Int, (part 3 #[iv a, iv b] 1).run Tryz.prog w = .ok (iv b) w := fun _ _ => by kernel_rfl
  simp only [Op.eqFields, n0, n1, t0, t1, o0, o1]
  by_cases h1 : a = c <;> by_cases h2 : b = d <;>
    simp [hp0, hp1, h3, Result.andThen, h1, h2, Sem.run_bind]
end Fl
end Go.Proofs.YtlpoiggdjggkiaaGreatDoor
end
section
namespace Go.Proofs.YtlpoiggdjggkiaaGreatDoor
namespace Fl
open Go.RowKit Go.ChangeShapes
set_option maxRecDepth 100000
def three : List ByteArray := [⟨#[114, 101, 100, 32, 51]⟩, ⟨#[98, 108, 117, 101, 32, 50]⟩, ⟨#[103, 111, 108, 100]⟩]
end Fl
end Go.Proofs.YtlpoiggdjggkiaaGreatDoor
end
section
namespace Go.Proofs.YtlpoiggdjggkiaaGreatDoor
open Go.ChangeShapes Go.WideShapes Go.RowKit
theorem keptBut_below {W W' : World} (h : Below W.heap.size W W') (may : MemPlace → Prop) : W.keptBut W' may := by
  refine ⟨h.os, h.output, fun i hi => ?_⟩
  rw [h.block i hi]
  cases W.heap[i]? with
  | none => rfl
  | some o => cases o with
    | cells c t fr => exact ⟨rfl, rfl, rfl, fun _ _ => rfl⟩
    | map es clock => exact .inr ⟨rfl, rfl⟩
    | _ => rfl
/-- A call that returns v and leaves what was there as it was pays the row's post. -/
theorem post_of_below {H : Type} {enc : TypeId × Value → H} {P : Program} {f : Func} {s : ChangeSpec} {apart fresh handsOn again : Bool} {W W' : World} {args : Array Value} {v : Value} {ds gs : List (DataW H)} {before pa pv : List MemPlace}
    (hW : DataW.Whole enc P f.params.toList s.vars apart W args.toList ds gs before) (hb : Below W.heap.size W W') (hps : before = pa ++ pv)
    (hres : ∀ (b : Nat) (sp : Nat → Bool) (hd : Bool), DataW.TrodAll enc P W' b sp hd f.resultTypes.toList (v.resultList f.resultTypes.size) (s.fn H (ds ++ gs)).results [])
    (hargs : ∀ sp : Nat → Bool, (∀ p ∈ before, sp p.block = true) → DataW.TrodAll enc P W' 0 sp true f.params.toList args.toList (s.fn H (ds ++ gs)).args pa)
    (hvars : ∀ sp : Nat → Bool, (∀ p ∈ before, sp p.block = true) → DataW.TrodVars enc P W' sp s.vars (s.fn H (ds ++ gs)).vars pv)
    (hok : ∀ (j : Nat) (t : TypeId) (r : Value), f.resultTypes[j]? = some t → (v.resultList f.resultTypes.size)[j]? = some r → Value.okWide P W' .any 0 t r) :
    s.post enc P f apart fresh handsOn again W args v W' := by
  have hlt : ∀ p ∈ before, p.block < W.heap.size := fun p hp => hW.lt p hp
  have hin : ∀ p ∈ before, decide (p.block < W.heap.size) = true := fun p hp => decide_eq_true (hlt p hp)
  have hW0 := hW
  obtain ⟨_, _, _, _, _, hz, hn⟩ := hW0
  have hsub : ∀ p ∈ before, p ∈ before ∧ (p ∈ ([] : List MemPlace) ∨ p ∈ pa ∨ p ∈ pv) := fun p hp => ⟨hp, .inr (List.mem_append.1 (hps ▸ hp))⟩
  have hall : ([] ++ pa) ++ pv = before := by rw [List.nil_append, hps]
  refine ⟨ds, gs, before, [], pa, pv, hW, hres _ _ _, hargs (fun b => decide (b < W.heap.size)) hin, hvars (fun b => decide (b < W.heap.size)) hin, World.keptBut_mono hsub (keptBut_below hb _), fun _ => ⟨hok, _, _, ([] ++ pa) ++ pv, ⟨[] ++ pa, pv, trodAll_append (hargs _ fun _ _ => rfl) (hres _ _ _), hvars _ fun _ _ => rfl, rfl, ?_, ?_⟩, ?_⟩⟩
  · intro b off hp
    rw [hall] at hp
    rw [hb.frozen (p := ⟨b, off, none⟩) (hlt _ hp)]
    exact hz b off hp
  · rw [hall]; exact hn
  · rw [hall]; exact fun p hp _ => hp
theorem law_kids : Kids Tryz.prog (· < (Tryz.prog).types.size) := kids_rows (by kernel_rfl) (by kernel_rfl)
theorem law_full : ∀ t e, t < (Tryz.prog).types.size → (Tryz.prog).underlying t = some (.slice e) → 0 < (Tryz.prog).cellsOf e := slices_full_of Tryz.prog (by kernel_rfl)
theorem trodAll_below {H : Type} {enc : TypeId × Value → H} {P : Program} {W W' : World} {base : Nat} {spare : Nat → Bool} {held : Bool} (hs : ∀ p : MemPlace, p.block < W.heap.size → W.sameAt W' p) : ∀ {ts : List TypeId} {vs : List Value} {ds : List (DataW H)} {ps : List MemPlace},
    DataW.TrodAll enc P W base spare held ts vs ds ps → (∀ p ∈ ps, p.block < W.heap.size) → DataW.TrodAll enc P W' base spare held ts vs ds ps
  | [], [], [], _, h, _ => h
  | _ :: ts, _ :: vs, _ :: ds, _, ⟨p, q, ⟨n, h⟩, hr, e⟩, hl => by
    subst e
    exact ⟨p, q, ⟨n, DataW.trod_carry n _ _ _ h fun x hx => hs x (hl x (List.mem_append.2 (.inl hx)))⟩, trodAll_below hs hr fun x hx => hl x (List.mem_append.2 (.inr hx)), rfl⟩
set_option maxRecDepth 100000 in
/-- Every law: whatever its parameters, if it returns true and leaves what was there as it was. -/
theorem law_post {H : Type} {enc : TypeId × Value → H} {f : Func} {s : ChangeSpec} {apart fresh handsOn again : Bool} {W W' : World} {args : Array Value} {ds gs : List (DataW H)} {before : List MemPlace} {tb : TypeId}
    (hT : ∀ t ∈ f.params.toList, t < (Tryz.prog).types.size) (hv : s.vars = []) (hrt : f.resultTypes = #[tb]) (hu : (Tryz.prog).underlying tb = some .bool)
    (hW : DataW.Whole enc Tryz.prog f.params.toList s.vars apart W args.toList ds gs before) (hb : Below W.heap.size W W')
    (hr : (s.fn H (ds ++ gs)).results = [.lit (.bool true)]) (ha : (s.fn H (ds ++ gs)).args = ds) (hvs : (s.fn H (ds ++ gs)).vars = []) :
    s.post enc Tryz.prog f apart fresh handsOn again W args (.bool true) W' := by
  have hW0 := hW
  obtain ⟨p, q, hA, hV, he, _, _⟩ := hW0
  have hV' := hV
  rw [hv] at hV'
  obtain ⟨_, rfl⟩ := trodVars_none hV'
  have hlt : ∀ x ∈ before, x.block < W.heap.size := fun x hx => hW.lt x hx
  refine post_of_below hW hb he ?_ ?_ ?_ (ok_one (by rw [hrt]) (by rfl) (okWide_bool_mk hu true))
  · intro b sp hd
    rw [hr, hrt]
    exact trodAll_cons_mk (shut_bool hu true) trodAll_mk0
  · intro sp hsp
    rw [ha]
    exact trodAll_below (fun x hx => hb.same hx) (DataW.TrodAll.respare law_kids law_full hT hA fun x hx => hsp x (by rw [he]; exact List.mem_append.2 (.inl hx))) fun x hx => hlt x (by rw [he]; exact List.mem_append.2 (.inl hx))
  · intro sp _
    rw [hv, hvs]
    rfl
end Go.Proofs.YtlpoiggdjggkiaaGreatDoor
namespace Go.Proofs.YtlpoiggdjggkiaaGreatDoor
open Go.ChangeShapes Go.WideShapes Go.RowKit
theorem cellsU8 : (Tryz.prog).cellsOf 5 = 1 := by kernel_rfl
def byteEnc : Enc Int := ⟨fun x => [.int .u8 x], 1, fun _ => rfl, fun _ u h => by simp at h; subst h; rfl, by decide⟩
set_option maxRecDepth 100000 in
theorem openBytes {H : Type} {enc : TypeId × Value → H} {W : World} {base : Nat} {v : Value} {d : DataW H} {ps : List MemPlace} (hval : Value.okWide Tryz.prog W .any base 22 v) (h : DataW.Trod enc Tryz.prog W 0 (fun _ => true) true 22 v d ps) :
    ∃ A bs c, v = .slice A bs.length c ∧ bs.length ≤ c ∧ bs.length ≤ maxLen ∧ Sl byteEnc W A bs := by
  obtain ⟨A, len, cap, rfl⟩ := okWide_slice Tryz.underlying22 hval
  obtain ⟨fuel, hf⟩ := h
  rcases open_ints Tryz.underlying22 Tryz.underlying5 cellsU8 hf with ⟨hcs, _⟩ | ⟨a, len', cap', zs, hcs, _, hl, hm, hz, _, hcell, _⟩
  · simp [Value.cells] at hcs
    obtain ⟨rfl, rfl, rfl⟩ := hcs
    exact ⟨none, [], 0, rfl, Nat.le_refl _, Nat.zero_le _, fun h => absurd rfl h⟩
  · simp [Value.cells] at hcs
    obtain ⟨rfl, rfl, rfl⟩ := hcs
    simp only [if_true] at hz
    refine ⟨some a, zs.take len, cap, by simp; omega, by simp; omega, by simp; omega, fun hne => ?_⟩
    obtain ⟨ab, ao, spot⟩ := a
    have h0 : 0 < zs.length := by
      cases zs with
      | nil => simp at hne
      | cons _ _ => simp
    have hspot : spot = none := by simpa [Addr.add] using World.cell?_spot (hcell 0 h0)
    subst hspot
    refine ⟨ab, ao, rfl, ?_, fun i x hi j u hu => ?_⟩
    · have := hcell 0 h0
      rw [Addr.add_lit] at this
      by_cases hlt : ab < W.heap.size
      · exact hlt
      · simp [World.cell?, Array.getElem?_eq_none (Nat.le_of_not_lt hlt)] at this
    · have hu' : j = 0 ∧ u = .int .u8 x := by
        match j, hu with
        | 0, hu => exact ⟨rfl, by simpa [byteEnc] using hu.symm⟩
        | j + 1, hu => simp [byteEnc] at hu
      obtain ⟨rfl, rfl⟩ := hu'
      have hil : i < zs.length := by have := (List.getElem?_eq_some_iff.1 hi).1; simp at this; omega
      have := hcell i hil
      rw [Addr.add_lit] at this
      have hx : zs.getD i 0 = x := by
        rw [List.getElem?_take] at hi
        split at hi
        · simp [List.getD_eq_getElem?_getD, hi]
        · cases hi
      rw [hx] at this
      simpa [byteEnc] using this
theorem own : ownKnob Tryz.prog.godebug = none := by kernel_rfl
theorem g0 : Tryz.prog.globalNamed "internal/strconv.uint64pow10" = some 4 := by kernel_rfl
theorem g0ty : (Tryz.prog.globals[4]?).map (·.type) = some 206 := by kernel_rfl
theorem cells20 : Tryz.prog.cellsOf 206 = 20 := by kernel_rfl
theorem cellsU64 : Tryz.prog.cellsOf 58 = 1 := by kernel_rfl
end Go.Proofs.YtlpoiggdjggkiaaGreatDoor
end
