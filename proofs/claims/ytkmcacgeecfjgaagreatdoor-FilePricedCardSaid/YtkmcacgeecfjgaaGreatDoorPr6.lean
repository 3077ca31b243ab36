/- What the proof of the claim's theorem uses, part 6. The conditions stand in each statement. -/
import Derived.WalkKit
import Derived.WalkSpells
import Derived.WalkLawsBesides
import Derived.WalkSmall
import Derived.Lib.Hide
import Derived.Laws.OwnMore
import Derived.Laws.CopyOwn
import Derived.Deep.Draws
import Derived.Laws.AppendOwnNone
import Derived.Test.YtkmcacgeecfjgaaGreatDoorProg
import Derived.Outline
import Derived.BigQuiet
import Derived.Deep.QuietTactic
import Derived.Lib.OthersKept
import Derived.Laws.EntriesVeiled
import Derived.Shelf.Strings.Builder1
import Derived.Shelf.LaysM
import Derived.Shelf.Strconv.Itoa3
import Derived.Orders
import Derived.RegionTactic
import Derived.BigRegion
import Derived.Deep.DeepCutAuto
import Derived.Maps.OwnRows
import Derived.Maps.GroupsBeside
import Derived.Deep.RegionHeld3
import Derived.Lib.SliceRun
import Derived.RangeFuncNested
import Derived.RangeFuncBound
import Derived.RangeFuncCalls
import Derived.RangeFuncLeaves
import Derived.Shelf.Abstract
import Derived.Shelf.RegionOpen
import Derived.OwnWalkIn
import Derived.TacticsInMore
import Derived.LoopNIn
import Derived.LoopIn
import Derived.Sort.QuietIn
import Derived.Deep.Quiet
import Derived.Maps.AppendAt
import Derived.Test.YtkmcacgeecfjgaaGreatDoorCards
import Derived.Test.YtkmcacgeecfjgaaGreatDoorTie
import Derived.ProofKit
import Derived.Deep.DeepHandedRow
import Derived.Lib.LaidTab
import Derived.Stop.LaidErr
import Derived.ChangeSame
import Derived.RowKit3
import Derived.ReadAgain
import Derived.OpenShut
import Derived.ChangeSlices
import Derived.Shelf.Bits.Mul64
import Derived.ArgAppend
import Derived.WalkMore
import Derived.Laws.BytesArg
import Derived.Laws.IdiomStrings
import Derived.Shelf.Spec.SlicesInsert
import Derived.Shelf.Spec.SlicesInsertGrow
import Derived.Deep.RegionLaw
import Derived.Maps.Own
import Derived.Maps.OwnOps
import Derived.Maps.OwnSet
import Derived.ChangeKeysEq
import Derived.Test.YtkmcacgeecfjgaaGreatDoorPr5
set_option linter.unusedVariables false
set_option linter.unusedSimpArgs false
section
namespace Go.Proofs.YtkmcacgeecfjgaaGreatDoor
namespace Fl
open Go.RowKit Go.ChangeShapes Go.Shelf
set_option maxRecDepth 100000
attribute [local go_sem] Oper.semAt_some
/-- A block: what its cells hold, and the edits that lie there. -/
structure BlV where
  lo : Nat
  hi : Nat
  A0 : Option Addr
  c0 : Nat
  e0 : List EdV
  A1 : Option Addr
  c1 : Nat
  e1 : List EdV
def BlV.v0 (r : BlV) : Value := .slice r.A0 r.e0.length r.c0
def BlV.v1 (r : BlV) : Value := .slice r.A1 r.e1.length r.c1
def BlV.b (r : BlV) : File.Block ByteArray := ⟨r.lo, r.hi, r.e0.map EdV.ed, r.e1.map EdV.ed⟩
def blE : Enc BlV := ⟨fun r => [iv (r.lo : Int), iv (r.hi : Int), r.v0, r.v1], 4, fun _ => rfl, fun _ u h => by simp at h; rcases h with rfl | rfl | rfl | rfl <;> rfl, by decide⟩
theorem tyBlocks : SlTy Tryz.prog 185 189 4 := slTy_of (z := .agg #[iv 0, iv 0, .slice none 0 0, .slice none 0 0]) (bytes := 64) Tryz.underlying185 (by kernel_rfl) rfl (by decide)
theorem flat_set {α : Type} (E : Enc α) : ∀ (xs : List α) (k j : Nat) (x y : α) (u : Value), xs[k]? = some x → E.cells y = (E.cells x).set j u → j < E.sz → (xs.set k y).flatMap E.cells = (xs.flatMap E.cells).set (k * E.sz + j) u := by
  intro xs
  induction xs with
  | nil => intro k j x y u h; simp at h
  | cons z xs ih =>
    intro k j x y u h hc hj
    have hl := E.len z
    cases k with
    | zero =>
      simp at h
      subst h
      simp only [List.set_cons_zero, List.flatMap_cons, hc, Nat.zero_mul, Nat.zero_add]
      rw [List.set_append_left _ _ (by omega)]
    | succ k =>
      simp only [List.getElem?_cons_succ] at h
      simp only [List.set_cons_succ, List.flatMap_cons, ih k j x y u h hc hj]
      rw [List.set_append_right _ _ (by rw [hl, Nat.add_mul]; omega), hl]
      congr 2
      rw [Nat.add_mul]
      omega
/-- One cell of an element of one's own slice is written. -/
theorem Own.setAt {α : Type} {E : Enc α} {e : TypeId} {B : Nat} {w : World} {g n c : Nat} {xs : List α} (h : Own E e B w (.slice (some ⟨g, 0, none⟩) n c) xs) {k j : Nat} {x y : α} {u : Value} (hx : xs[k]? = some x) (hc : E.cells y = (E.cells x).set j u) (hj : j < E.sz) :
    Own E e B (w.setCell ⟨g, k * E.sz + j, none⟩ u) (.slice (some ⟨g, 0, none⟩) n c) (xs.set k y) := by
  refine ⟨by rw [flat_length, List.length_set], ?_⟩
  rcases h.2 with ⟨hv, _⟩ | ⟨g', cap, cur, hv, hb, hg, hn, hm, hs, ht⟩
  · cases hv
  · injection hv with h1 h2 h3
    injection h1 with h1
    injection h1 with h1
    subst h1 h3
    refine .inr ⟨g, c, cur.setIfInBounds (k * E.sz + j) u, by rw [List.length_set, h2], hb, ?_, by rw [List.length_set]; exact hn, hm, by rw [Array.size_setIfInBounds]; exact hs, ?_⟩
    · have hB : Blk w g e cur := hg
      exact hB.set_ _ _
    · rw [flat_set E xs k j x y u hx hc hj, ← ht, List.length_set]
      rw [Array.toList_setIfInBounds, List.take_set]
/-- What leaves the blocks of edits from m up to M as they were. -/
def EdsK (m M : Nat) (w w' : World) : Prop := w.heap.size ≤ w'.heap.size ∧ ∀ g cs fr, m ≤ g → g < M → w.heap[g]? = some (.cells cs 43 fr) → w'.heap[g]? = w.heap[g]?
theorem EdsK.own {m M B : Nat} {w w' : World} {v : Value} {xs : List EdV} (h : EdsK m M w w') (ho : Own edE 43 B w v xs) (hm : m ≤ B) (hM : ∀ b, v.ownBlock = some b → b < M) : Own edE 43 B w' v xs :=
  ho.keep h.1 fun b hb => by
    have hl := ho.lt b hb
    rcases ho.2 with ⟨rfl, _⟩ | ⟨g, cap, cur, rfl, hg, hc, _⟩
    · cases hb
    · simp only [Value.ownBlock, Option.some.injEq] at hb
      subst hb
      exact h.2 _ _ _ (by omega) (hM _ rfl) hc
/-- A block that is not written any more. -/
structure Old (m M : Nat) (w : World) (r : BlV) : Prop where
  o0 : Own edE 43 m w r.v0 r.e0
  o1 : Own edE 43 m w r.v1 r.e1
  l0 : ∀ b, r.v0.ownBlock = some b → b < M
  l1 : ∀ b, r.v1.ownBlock = some b → b < M
/-- The last block. -/
structure Last (M : Nat) (w : World) (r : BlV) : Prop where
  o0 : Own edE 43 M w r.v0 r.e0
  o1 : Own edE 43 M w r.v1 r.e1
  ap : ∀ b, r.v0.ownBlock = some b → r.v1.ownBlock ≠ some b
theorem Old.keep {m M : Nat} {w w' : World} {r : BlV} (h : Old m M w r) (hk : EdsK m M w w') : Old m M w' r := ⟨hk.own h.o0 (Nat.le_refl _) h.l0, hk.own h.o1 (Nat.le_refl _) h.l1, h.l0, h.l1⟩
theorem Last.old {m M : Nat} {w : World} {r : BlV} (h : Last M w r) (hm : m ≤ M) : Old m w.heap.size w r := ⟨h.o0.base hm, h.o1.base hm, fun b hb => (h.o0.lt b hb).2, fun b hb => (h.o1.lt b hb).2⟩
theorem Last.keep {m M : Nat} {w w' : World} {r : BlV} (h : Last M w r) (hm : m ≤ M) (hk : EdsK m w.heap.size w w') : Last M w' r := ⟨hk.own h.o0 hm fun b hb => (h.o0.lt b hb).2, hk.own h.o1 hm fun b hb => (h.o1.lt b hb).2, h.ap⟩
theorem Old.mono {m M M' : Nat} {w : World} {r : BlV} (h : Old m M w r) (hM : M ≤ M') : Old m M' w r := ⟨h.o0, h.o1, fun b hb => Nat.lt_of_lt_of_le (h.l0 b hb) hM, fun b hb => Nat.lt_of_lt_of_le (h.l1 b hb) hM⟩
theorem EdsK.of_below {m M : Nat} {w w' : World} (h : Below w.heap.size w w') : EdsK m M w w' := ⟨h.size, fun g cs fr _ _ hg => h.block g (Array.getElem?_eq_some_iff.1 hg).1⟩
theorem EdsK.trans {m M : Nat} {a b c : World} (h : EdsK m M a b) (k : EdsK m M b c) : EdsK m M a c := ⟨Nat.le_trans h.1 k.1, fun g cs fr hm hg hc => (k.2 g cs fr hm hg ((h.2 g cs fr hm hg hc).trans hc)).trans (h.2 g cs fr hm hg hc)⟩
theorem EdsK.less {m M M' : Nat} {a b : World} (h : EdsK m M a b) (hM : M' ≤ M) : EdsK m M' a b := ⟨h.1, fun g cs fr hm hg hc => h.2 g cs fr hm (Nat.lt_of_lt_of_le hg hM) hc⟩
theorem EdsK.set_ {m M : Nat} {w : World} {g : Nat} {t : TypeId} {cs : Array Value} {fr : Nat × Nat} (h : w.heap[g]? = some (.cells cs t fr)) (ht : t ≠ 43) (o : Nat) (u : Value) : EdsK m M w (w.setCell ⟨g, o, none⟩ u) :=
  ⟨by simp [World.setCell], fun b cs' fr' _ _ hb => Below.heap_setCell w ⟨g, o, none⟩ u b (fun e => by
    have e2 : b = g := e
    subst e2
    rw [h] at hb
    injection hb with hb
    injection hb with _ h2 _
    exact ht h2)⟩
theorem EdsK.app {m M B : Nat} {w w' : World} {v : Value} {rs : List BlV} (hown : Own blE 189 B w v rs) (hsz : w.heap.size ≤ w'.heap.size) (hk : ∀ b, b < w.heap.size → v.ownBlock ≠ some b → w'.heap[b]? = w.heap[b]?) : EdsK m M w w' :=
  ⟨hsz, fun g cs fr _ _ hc => hk g (Array.getElem?_eq_some_iff.1 hc).1 fun hv => by
    rcases hown.2 with ⟨rfl, _⟩ | ⟨g', cap, cur, rfl, _, hg, _⟩
    · cases hv
    · have e1 : g' = g := by simpa [Value.ownBlock] using hv
      subst e1
      rw [hc] at hg
      injection hg with hg
      injection hg with _ h2 _
      exact absurd h2 (by decide)⟩
/-- What the blocks hold. -/
def Ins (m : Nat) (w : World) (rs : List BlV) : Prop := ∀ pre last, rs = pre ++ [last] → ∃ M, m ≤ M ∧ M ≤ w.heap.size ∧ (∀ r ∈ pre, Old m M w r) ∧ Last M w last
theorem Ins.keep {m : Nat} {w w' : World} {rs : List BlV} (h : Ins m w rs) (hk : EdsK m w.heap.size w w') : Ins m w' rs := fun pre last e => by
  obtain ⟨M, h1, h2, h3, h4⟩ := h pre last e
  exact ⟨M, h1, Nat.le_trans h2 hk.1, fun r hr => (h3 r hr).keep (hk.less h2), h4.keep h1 hk⟩
theorem Ins.old {m : Nat} {w : World} {rs : List BlV} (h : Ins m w rs) : ∀ r ∈ rs, Old m w.heap.size w r := fun r hr => by
  have hne : rs ≠ [] := by intro e; subst e; cases hr
  obtain ⟨M, h1, h2, h3, h4⟩ := h _ _ (List.dropLast_concat_getLast hne).symm
  rw [← List.dropLast_concat_getLast hne] at hr
  rcases List.mem_append.1 hr with hr | hr
  · exact (h3 r hr).mono h2
  · rw [List.mem_singleton.1 hr]; exact h4.old h1
/-- How far the blocks are. -/
structure BRel (xs : List (Bool × EdV)) (xe : List (Bool × File.Edit ByteArray)) (k : Nat) (rs : List BlV) : Prop where
  way : (k = 0 ∧ rs = []) ∨ ∃ pre last, rs = pre ++ [last] ∧ pre.map BlV.b ++ File.grow last.b (xe.drop k) = File.blocksOf xe
  many : rs.length ≤ k
  mem : ∀ r ∈ rs, ∀ x, x ∈ r.e0 ∨ x ∈ r.e1 → ∃ p ∈ xs, p.2 = x
  high : ∀ r ∈ rs, r.hi ≤ 48 ∧ r.e0.length ≤ k ∧ r.e1.length ≤ k
theorem mergeV_mem : ∀ (n : Nat) (c d : List EdV), ∀ p ∈ mergeV n c d, p.2 ∈ c ∨ p.2 ∈ d := by
  intro n
  induction n with
  | zero => intro c d p hp; cases hp
  | succ n ih =>
    intro c d p hp
    cases c with
    | nil =>
      cases d with
      | nil => cases hp
      | cons y d =>
        simp only [mergeV] at hp
        rcases List.mem_cons.1 hp with rfl | hp
        · exact .inr List.mem_cons_self
        · exact (ih [] d p hp).imp id (List.mem_cons_of_mem _)
    | cons x c =>
      cases d with
      | nil =>
        simp only [mergeV] at hp
        rcases List.mem_cons.1 hp with rfl | hp
        · exact .inl List.mem_cons_self
        · exact (ih c [] p hp).imp (List.mem_cons_of_mem _) id
      | cons y d =>
        simp only [mergeV] at hp
        split at hp
        · rcases List.mem_cons.1 hp with rfl | hp
          · exact .inr List.mem_cons_self
          · exact (ih (x :: c) d p hp).imp id (List.mem_cons_of_mem _)
        · rcases List.mem_cons.1 hp with rfl | hp
          · exact .inl List.mem_cons_self
          · exact (ih c (y :: d) p hp).imp (List.mem_cons_of_mem _) id
theorem edits_in (n : Nat) (A0 : Option Addr) (n0 c0 : Nat) (A1 : Option Addr) (n1 c1 : Nat) (w : World) : CallsIn Fence.wide n Tryz.prog 165 #[.agg #[.slice A0 n0 c0, .slice A1 n1 c1]] w fun e w' => e = .returned (.func (.func 180) #[] #[.pointer (some ⟨w.heap.size, 0, none⟩)]) ∧ w' = w.alloc (.cells #[.slice A0 n0 c0, .slice A1 n1 c1] 187) := by
  refine callsIn_wide.2 ?_
  have hmf : ∀ (fn : Fn) (first cap : Array Value) (w : World), (Instr.makeFunc fn first cap).run Tryz.prog w = .ok (.func fn first cap) w := fun _ _ _ _ => rfl
  go_enter Tryz.func165, Tryz.ntmps165
  go_wp2
  go_ret
  exact ⟨rfl, rfl⟩
theorem Own.at0 {α : Type} {E : Enc α} {e : TypeId} {B : Nat} {w : World} {v : Value} {xs : List α} (h : Own E e B w v xs) (hne : xs ≠ []) : ∃ g c, v = .slice (some ⟨g, 0, none⟩) xs.length c ∧ B ≤ g ∧ ∃ cs, Blk w g e cs := by
  rcases h.2 with ⟨_, hn⟩ | ⟨g, cap, cur, rfl, hb, hg, _⟩
  · exact absurd (List.eq_nil_of_length_eq_zero hn) hne
  · exact ⟨g, cap, rfl, hb, cur, hg⟩
theorem Own.two {α β : Type} {E : Enc α} {E2 : Enc β} {e e2 : TypeId} {B B2 : Nat} {w : World} {v v2 : Value} {xs : List α} {ys : List β} (h : Own E e B w v xs) (h2 : Own E2 e2 B2 w v2 ys) (hne : e ≠ e2) {b : Nat} (hb : v.ownBlock = some b) : v2.ownBlock ≠ some b := fun hv => by
  rcases h.2 with ⟨rfl, _⟩ | ⟨g, cap, cur, rfl, _, hg, _⟩
  · cases hb
  · rcases h2.2 with ⟨rfl, _⟩ | ⟨g', cap', cur', rfl, _, hg', _⟩
    · cases hv
    · have e1 : g = b := by simpa [Value.ownBlock] using hb
      have e3 : g' = b := by simpa [Value.ownBlock] using hv
      rw [e1] at hg
      rw [e3, hg] at hg'
      injection hg' with hg'
      injection hg' with _ h3 _
      exact hne h3
theorem brel_open {xs : List (Bool × EdV)} {xe : List (Bool × File.Edit ByteArray)} {k : Nat} {rs : List BlV} {cp : Bool} {y : EdV} {r : BlV} (h : BRel xs xe k rs) (hp : xs[k]? = some (cp, y)) (hxe : xe = xs.map (fun p => (p.1, p.2.ed)))
    (hfar : ∀ pre last, rs = pre ++ [last] → last.hi < y.at_.toNat) (hb : r.b = File.Block.new cp y.ed) (hmem : ∀ x, x ∈ r.e0 ∨ x ∈ r.e1 → x = y) (hhi : r.hi ≤ 48) (he : r.e0.length ≤ 1 ∧ r.e1.length ≤ 1) : BRel xs xe (k + 1) (rs ++ [r]) := by
  have hd : xe.drop k = (cp, y.ed) :: xe.drop (k + 1) := drop_at (by rw [hxe, List.getElem?_map, hp]; rfl)
  refine ⟨.inr ⟨rs, r, rfl, ?_⟩, by have := h.many; simp; omega, fun r' hr' x hx => ?_, fun r' hr' => ?_⟩
  · rcases h.way with ⟨rfl, rfl⟩ | ⟨pre, last, rfl, hg⟩
    · rw [List.drop_zero] at hd
      rw [hb, hd]
      simp [File.blocksOf]
    · rw [hd] at hg
      simp only [File.grow] at hg
      rw [if_neg (by have := hfar pre last rfl; show ¬ y.at_.toNat ≤ last.hi; omega)] at hg
      rw [hb, ← hg]
      simp
  · rcases List.mem_append.1 hr' with hr' | hr'
    · exact h.mem r' hr' x hx
    · rw [List.mem_singleton.1 hr'] at hx
      exact ⟨_, mem_at hp, (hmem x hx).symm⟩
  · rcases List.mem_append.1 hr' with hr' | hr'
    · obtain ⟨h1, h2, h3⟩ := h.high r' hr'
      exact ⟨h1, by omega, by omega⟩
    · rw [List.mem_singleton.1 hr']
      exact ⟨hhi, by omega, by omega⟩
theorem brel_add {xs : List (Bool × EdV)} {xe : List (Bool × File.Edit ByteArray)} {k : Nat} {pre : List BlV} {last : BlV} {cp : Bool} {y : EdV} {r : BlV} (h : BRel xs xe k (pre ++ [last])) (hg : pre.map BlV.b ++ File.grow last.b (xe.drop k) = File.blocksOf xe) (hp : xs[k]? = some (cp, y)) (hxe : xe = xs.map (fun p => (p.1, p.2.ed)))
    (hnear : y.at_.toNat ≤ last.hi) (hb : r.b = last.b.add cp y.ed) (hmem : ∀ x, x ∈ r.e0 ∨ x ∈ r.e1 → (x ∈ last.e0 ∨ x ∈ last.e1) ∨ x = y) (hhi : r.hi ≤ 48) (he : r.e0.length ≤ last.e0.length + 1 ∧ r.e1.length ≤ last.e1.length + 1) : BRel xs xe (k + 1) (pre ++ [r]) := by
  have hd : xe.drop k = (cp, y.ed) :: xe.drop (k + 1) := drop_at (by rw [hxe, List.getElem?_map, hp]; rfl)
  refine ⟨.inr ⟨pre, r, rfl, ?_⟩, by have := h.many; simp at this ⊢; omega, fun r' hr' x hx => ?_, fun r' hr' => ?_⟩
  · rw [hd] at hg
    simp only [File.grow] at hg
    rw [if_pos (show y.ed.lo ≤ last.b.hi from hnear)] at hg
    rw [hb, ← hg]
  · rcases List.mem_append.1 hr' with hr' | hr'
    · exact h.mem r' (List.mem_append_left _ hr') x hx
    · rw [List.mem_singleton.1 hr'] at hx
      rcases hmem x hx with h1 | rfl
      · exact h.mem last (by simp) x h1
      · exact ⟨_, mem_at hp, rfl⟩
  · rcases List.mem_append.1 hr' with hr' | hr'
    · obtain ⟨h1, h2, h3⟩ := h.high r' (List.mem_append_left _ hr')
      exact ⟨h1, by omega, by omega⟩
    · rw [List.mem_singleton.1 hr']
      obtain ⟨h1, h2, h3⟩ := h.high last (by simp)
      exact ⟨hhi, by omega, by omega⟩
/-- A block more. -/
theorem open_step {w X Z Xs Y : World} {g m k : Nat} {xs : List (Bool × EdV)} {xe : List (Bool × File.Edit ByteArray)} {v v1 : Value} {rs : List BlV} {r : BlV} {ec : Array Value} (hgm : g < m) (hgw : w.heap.size ≤ g) (hmz : m ≤ Z.heap.size)
    (hKZ : KeptBut m g X Z) (hBZ : Below w.heap.size w Z) (hbZ : Blk Z g 185 #[v]) (hoZ : Own blE 189 m Z v rs) (hiZ : Ins m Z rs) (hbS : Below Z.heap.size Z Xs) (hGe : Blk Xs (Z.heap.size + 1) 43 ec)
    (hlast : ∀ W, Blk W (Z.heap.size + 1) 43 ec → Last Z.heap.size W r) (hoY : Own blE 189 m Y v1 (rs ++ [r])) (hbY : Below m Xs Y) (hkY : ∀ b, b < Xs.heap.size → v.ownBlock ≠ some b → Y.heap[b]? = Xs.heap[b]?) (hrel : BRel xs xe (k + 1) (rs ++ [r])) :
    KeptBut m g X (Y.setCell ⟨g, 0, none⟩ v1) ∧ ∃ v rs, Blk (Y.setCell ⟨g, 0, none⟩ v1) g 185 #[v] ∧ Own blE 189 m (Y.setCell ⟨g, 0, none⟩ v1) v rs ∧ Hid (BRel xs xe (k + 1) rs) ∧ Hid (Ins m (Y.setCell ⟨g, 0, none⟩ v1) rs) ∧ Below w.heap.size w (Y.setCell ⟨g, 0, none⟩ v1) := by
  have hzs := hbS.size
  have hYg : Blk Y g 185 #[v] := (hbZ.under hbS).below hbY hgm
  have hoX : Own blE 189 m Xs v rs := hoZ.below hbS
  have hE1 : EdsK m Z.heap.size Z Xs := EdsK.of_below hbS
  have hE2 : EdsK m Z.heap.size Xs Y := EdsK.app hoX hbY.size hkY
  have hE3 : EdsK m Z.heap.size Y (Y.setCell ⟨g, 0, none⟩ v1) := EdsK.set_ hYg (by decide) 0 v1
  have hE := (hE1.trans hE2).trans hE3
  refine ⟨(hKZ.trans (KeptBut.of_below hbS hmz)).trans (KeptBut.trans ⟨hbY.size, fun b hb _ => hbY.block b hb⟩ (KeptBut.set_ (g := g) ⟨g, 0, none⟩ (.inl rfl) _)), v1, rs ++ [r], by simpa using hYg.set_ 0 v1, hoY.setCell hgm v1, Lib.hid hrel, Lib.hid fun pre last e => ?_, ?_⟩
  · obtain ⟨rfl, e2⟩ := List.append_inj' e rfl
    have e3 : r = last := by injection e2
    subst e3
    have hGY0 : Blk Y (Z.heap.size + 1) 43 ec := (hkY _ hGe.lt (fun hv => by have := (hoZ.lt _ hv).2; omega)).trans hGe
    have hGY : Blk (Y.setCell ⟨g, 0, none⟩ v1) (Z.heap.size + 1) 43 ec := hGY0.far (p := ⟨g, 0, none⟩) (show Z.heap.size + 1 ≠ g by omega) v1
    exact ⟨Z.heap.size, hmz, hE.1, fun r' hr' => (hiZ.old r' hr').keep hE, hlast _ hGY⟩
  · exact ((hBZ.next hbS (Nat.le_refl _)).trans (hbY.mono (by omega))).setCell (p := ⟨g, 0, none⟩) hgw v1
theorem grow0 {w X Z Za Y : World} {g go m k N cv : Nat} {xs : List (Bool × EdV)} {xe : List (Bool × File.Edit ByteArray)} {pre : List BlV} {last : BlV} {y : EdV} {A2 : Option Addr} {c2 : Nat} (hN : N = pre.length) (hgm : g < m) (hgw : w.heap.size ≤ g) (hmz : m ≤ Z.heap.size)
    (hKZ : KeptBut m g X Z) (hBZ : Below w.heap.size w Z) (hbZ : Blk Z g 185 #[.slice (some ⟨go, 0, none⟩) (N + 1) cv]) (hgo : m ≤ go) (hoZ : Own blE 189 m Z (.slice (some ⟨go, 0, none⟩) (N + 1) cv) (pre ++ [last])) {M : Nat} (hmM : m ≤ M) (hMZ : M ≤ Z.heap.size) (hold : ∀ r ∈ pre, Old m M Z r) (hla : Last M Z last)
    (hbA : Below Z.heap.size Z Za) (ho2 : Own edE 43 M Y (.slice A2 (last.e0.length + 1) c2) (last.e0 ++ [y])) (hb2 : Below M Za Y) (hk2 : ∀ b, b < Za.heap.size → last.v0.ownBlock ≠ some b → Y.heap[b]? = Za.heap[b]?) (hat2 : (Value.slice A2 (last.e0.length + 1) c2).ownBlock = last.v0.ownBlock ∨ (Value.slice A2 (last.e0.length + 1) c2).ownBlock = some Za.heap.size)
    (hrel : BRel xs xe (k + 1) (pre ++ [{ last with A0 := A2, c0 := c2, e0 := last.e0 ++ [y] }])) :
    KeptBut m g X (Y.setCell ⟨go, N * 4 + 2 + 0, none⟩ (.slice A2 (last.e0.length + 1) c2)) ∧ ∃ v rs, Blk (Y.setCell ⟨go, N * 4 + 2 + 0, none⟩ (.slice A2 (last.e0.length + 1) c2)) g 185 #[v] ∧ Own blE 189 m (Y.setCell ⟨go, N * 4 + 2 + 0, none⟩ (.slice A2 (last.e0.length + 1) c2)) v rs ∧ Hid (BRel xs xe (k + 1) rs) ∧ Hid (Ins m (Y.setCell ⟨go, N * 4 + 2 + 0, none⟩ (.slice A2 (last.e0.length + 1) c2)) rs) ∧ Below w.heap.size w (Y.setCell ⟨go, N * 4 + 2 + 0, none⟩ (.slice A2 (last.e0.length + 1) c2)) := by
  have hza := hbA.size
  have hgoZ := (hoZ.lt go rfl).2
  have hoA := hoZ.below hbA
  have hlaA := hla.keep hmM (EdsK.of_below hbA)
  have hoY : Own blE 189 m Y (.slice (some ⟨go, 0, none⟩) (N + 1) cv) (pre ++ [last]) := hoA.keep hb2.size fun b hb => hk2 b (by have := (hoA.lt b hb).2; exact this) (Own.two hoA hlaA.o0 (by decide) hb)
  have hgY : ∃ cs, Blk Y go 189 cs := by
    obtain ⟨g', c', e, _, cs, hcs⟩ := Own.at0 hoY (by simp)
    injection e with e1 _ _
    injection e1 with e1
    injection e1 with e1 _
    subst e1
    exact ⟨cs, hcs⟩
  obtain ⟨cs, hcs⟩ := hgY
  have hE1 : EdsK m M Z Za := (EdsK.of_below hbA)
  have hE2 : EdsK m M Za Y := ⟨hb2.size, fun b cs fr _ hb _ => hb2.block b hb⟩
  have hE3 : ∀ M', EdsK m M' Y (Y.setCell ⟨go, N * 4 + 2 + 0, none⟩ (.slice A2 (last.e0.length + 1) c2)) := fun M' => EdsK.set_ hcs (by decide) _ _
  have hE := (hE1.trans hE2).trans (hE3 M)
  have hoth : Own edE 43 M Y last.v1 last.e1 := hlaA.o1.keep hb2.size fun b hb => hk2 b (hlaA.o1.lt b hb).2 (fun e => hlaA.ap b e hb)
  refine ⟨(hKZ.trans (KeptBut.of_below hbA hmz)).trans (KeptBut.trans ⟨hb2.size, fun b hb _ => hb2.block b (by omega)⟩ (KeptBut.set_ (g := g) ⟨go, _, none⟩ (.inr hgo) _)), .slice (some ⟨go, 0, none⟩) (N + 1) cv, pre ++ [{ last with A0 := A2, c0 := c2, e0 := last.e0 ++ [y] }], ((hbZ.under hbA).below hb2 (by omega)).far (p := ⟨go, N * 4 + 2 + 0, none⟩) (show g ≠ go by omega) _, ?_, Lib.hid hrel, Lib.hid fun pre' last' e => ?_, ?_⟩
  · have h9 := Own.setAt (k := N) (j := 2 + 0) (x := last) (y := { last with A0 := A2, c0 := c2, e0 := last.e0 ++ [y] }) (u := .slice A2 (last.e0.length + 1) c2) hoY (by rw [hN]; simp) (by simp [blE, BlV.v0, BlV.v1]) (by decide)
    have h10 : (pre ++ [last]).set N { last with A0 := A2, c0 := c2, e0 := last.e0 ++ [y] } = pre ++ [{ last with A0 := A2, c0 := c2, e0 := last.e0 ++ [y] }] := by rw [hN, List.set_append_right _ _ (Nat.le_refl _)]; simp
    rw [h10] at h9
    exact h9
  · obtain ⟨rfl, e2⟩ := List.append_inj' e rfl
    injection e2 with e3
    subst e3
    refine ⟨M, hmM, Nat.le_trans (Nat.le_trans hMZ hza) (Nat.le_trans hb2.size (hE3 0).1), fun r' hr' => (hold r' hr').keep hE, ?_⟩
    have hn2 : Own edE 43 M (Y.setCell ⟨go, N * 4 + 2 + 0, none⟩ (.slice A2 (last.e0.length + 1) c2)) (.slice A2 (last.e0 ++ [y]).length c2) (last.e0 ++ [y]) := by
      rw [List.length_append]
      exact (hE3 Y.heap.size).own ho2 hmM fun b hb => (ho2.lt b hb).2
    have ho9 := (hE3 Y.heap.size).own hoth hmM fun b hb => (hoth.lt b hb).2
    have hap : ∀ b, (Value.slice A2 (last.e0.length + 1) c2).ownBlock = some b → last.v1.ownBlock ≠ some b := fun b hb hb' => by
      rcases hat2 with h | h
      · rw [h] at hb
        exact hlaA.ap b hb hb'
      · rw [h] at hb
        injection hb with hb
        have := (hlaA.o1.lt b hb').2
        omega
    exact ⟨hn2, ho9, fun b hb => hap b (by simpa [BlV.v0, Value.ownBlock] using hb)⟩
  · exact ((hBZ.next hbA (Nat.le_refl _)).trans (hb2.mono (by omega))).setCell (p := ⟨go, N * 4 + 2 + 0, none⟩) (show w.heap.size ≤ go by omega) _
theorem grow1 {w X Z Za Y : World} {g go m k N cv : Nat} {xs : List (Bool × EdV)} {xe : List (Bool × File.Edit ByteArray)} {pre : List BlV} {last : BlV} {y : EdV} {A2 : Option Addr} {c2 : Nat} (hN : N = pre.length) (hgm : g < m) (hgw : w.heap.size ≤ g) (hmz : m ≤ Z.heap.size)
    (hKZ : KeptBut m g X Z) (hBZ : Below w.heap.size w Z) (hbZ : Blk Z g 185 #[.slice (some ⟨go, 0, none⟩) (N + 1) cv]) (hgo : m ≤ go) (hoZ : Own blE 189 m Z (.slice (some ⟨go, 0, none⟩) (N + 1) cv) (pre ++ [last])) {M : Nat} (hmM : m ≤ M) (hMZ : M ≤ Z.heap.size) (hold : ∀ r ∈ pre, Old m M Z r) (hla : Last M Z last)
    (hbA : Below Z.heap.size Z Za) (ho2 : Own edE 43 M Y (.slice A2 (last.e1.length + 1) c2) (last.e1 ++ [y])) (hb2 : Below M Za Y) (hk2 : ∀ b, b < Za.heap.size → last.v1.ownBlock ≠ some b → Y.heap[b]? = Za.heap[b]?) (hat2 : (Value.slice A2 (last.e1.length + 1) c2).ownBlock = last.v1.ownBlock ∨ (Value.slice A2 (last.e1.length + 1) c2).ownBlock = some Za.heap.size)
    (hrel : BRel xs xe (k + 1) (pre ++ [{ last with A1 := A2, c1 := c2, e1 := last.e1 ++ [y] }])) :
    KeptBut m g X (Y.setCell ⟨go, N * 4 + 2 + 1, none⟩ (.slice A2 (last.e1.length + 1) c2)) ∧ ∃ v rs, Blk (Y.setCell ⟨go, N * 4 + 2 + 1, none⟩ (.slice A2 (last.e1.length + 1) c2)) g 185 #[v] ∧ Own blE 189 m (Y.setCell ⟨go, N * 4 + 2 + 1, none⟩ (.slice A2 (last.e1.length + 1) c2)) v rs ∧ Hid (BRel xs xe (k + 1) rs) ∧ Hid (Ins m (Y.setCell ⟨go, N * 4 + 2 + 1, none⟩ (.slice A2 (last.e1.length + 1) c2)) rs) ∧ Below w.heap.size w (Y.setCell ⟨go, N * 4 + 2 + 1, none⟩ (.slice A2 (last.e1.length + 1) c2)) := by
  have hza := hbA.size
  have hgoZ := (hoZ.lt go rfl).2
  have hoA := hoZ.below hbA
  have hlaA := hla.keep hmM (EdsK.of_below hbA)
  have hoY : Own blE 189 m Y (.slice (some ⟨go, 0, none⟩) (N + 1) cv) (pre ++ [last]) := hoA.keep hb2.size fun b hb => hk2 b (by have := (hoA.lt b hb).2; exact this) (Own.two hoA hlaA.o1 (by decide) hb)
  have hgY : ∃ cs, Blk Y go 189 cs := by
    obtain ⟨g', c', e, _, cs, hcs⟩ := Own.at0 hoY (by simp)
    injection e with e1 _ _
    injection e1 with e1
    injection e1 with e1 _
    subst e1
    exact ⟨cs, hcs⟩
  obtain ⟨cs, hcs⟩ := hgY
  have hE1 : EdsK m M Z Za := (EdsK.of_below hbA)
  have hE2 : EdsK m M Za Y := ⟨hb2.size, fun b cs fr _ hb _ => hb2.block b hb⟩
  have hE3 : ∀ M', EdsK m M' Y (Y.setCell ⟨go, N * 4 + 2 + 1, none⟩ (.slice A2 (last.e1.length + 1) c2)) := fun M' => EdsK.set_ hcs (by decide) _ _
  have hE := (hE1.trans hE2).trans (hE3 M)
  have hoth : Own edE 43 M Y last.v0 last.e0 := hlaA.o0.keep hb2.size fun b hb => hk2 b (hlaA.o0.lt b hb).2 (fun e => hlaA.ap b hb e)
  refine ⟨(hKZ.trans (KeptBut.of_below hbA hmz)).trans (KeptBut.trans ⟨hb2.size, fun b hb _ => hb2.block b (by omega)⟩ (KeptBut.set_ (g := g) ⟨go, _, none⟩ (.inr hgo) _)), .slice (some ⟨go, 0, none⟩) (N + 1) cv, pre ++ [{ last with A1 := A2, c1 := c2, e1 := last.e1 ++ [y] }], ((hbZ.under hbA).below hb2 (by omega)).far (p := ⟨go, N * 4 + 2 + 1, none⟩) (show g ≠ go by omega) _, ?_, Lib.hid hrel, Lib.hid fun pre' last' e => ?_, ?_⟩
  · have h9 := Own.setAt (k := N) (j := 2 + 1) (x := last) (y := { last with A1 := A2, c1 := c2, e1 := last.e1 ++ [y] }) (u := .slice A2 (last.e1.length + 1) c2) hoY (by rw [hN]; simp) (by simp [blE, BlV.v0, BlV.v1]) (by decide)
    have h10 : (pre ++ [last]).set N { last with A1 := A2, c1 := c2, e1 := last.e1 ++ [y] } = pre ++ [{ last with A1 := A2, c1 := c2, e1 := last.e1 ++ [y] }] := by rw [hN, List.set_append_right _ _ (Nat.le_refl _)]; simp
    rw [h10] at h9
    exact h9
  · obtain ⟨rfl, e2⟩ := List.append_inj' e rfl
    injection e2 with e3
    subst e3
    refine ⟨M, hmM, Nat.le_trans (Nat.le_trans hMZ hza) (Nat.le_trans hb2.size (hE3 0).1), fun r' hr' => (hold r' hr').keep hE, ?_⟩
    have hn2 : Own edE 43 M (Y.setCell ⟨go, N * 4 + 2 + 1, none⟩ (.slice A2 (last.e1.length + 1) c2)) (.slice A2 (last.e1 ++ [y]).length c2) (last.e1 ++ [y]) := by
      rw [List.length_append]
      exact (hE3 Y.heap.size).own ho2 hmM fun b hb => (ho2.lt b hb).2
    have ho9 := (hE3 Y.heap.size).own hoth hmM fun b hb => (hoth.lt b hb).2
    have hap : ∀ b, (Value.slice A2 (last.e1.length + 1) c2).ownBlock = some b → last.v0.ownBlock ≠ some b := fun b hb hb' => by
      rcases hat2 with h | h
      · rw [h] at hb
        exact hlaA.ap b hb' hb
      · rw [h] at hb
        injection hb with hb
        have := (hlaA.o0.lt b hb').2
        omega
    exact ⟨ho9, hn2, fun b hb hb' => hap b (by simpa [BlV.v1, Value.ownBlock] using hb') hb⟩
  · exact ((hBZ.next hbA (Nat.le_refl _)).trans (hb2.mono (by omega))).setCell (p := ⟨go, N * 4 + 2 + 1, none⟩) (show w.heap.size ≤ go by omega) _
/-- The cell of an element. -/
theorem Own.cellAt {α : Type} {E : Enc α} {e : TypeId} {B : Nat} {w : World} {g n c : Nat} {xs : List α} (h : Own E e B w (.slice (some ⟨g, 0, none⟩) n c) xs) {k : Nat} {x : α} (hx : xs[k]? = some x) {j : Nat} {u : Value} (hu : (E.cells x)[j]? = some u) : w.cell? ⟨g, k * E.sz + j, none⟩ = some u := by
  obtain ⟨b, off, hA, _, hc⟩ := h.sl (by intro e; subst e; simp at hx)
  injection hA with hA
  injection hA with e1 e2
  subst e1 e2
  have := hc k x hx j u hu
  rwa [Nat.zero_add] at this
theorem Own.blkOf {α : Type} {E : Enc α} {e : TypeId} {B : Nat} {w : World} {g n c : Nat} {xs : List α} (h : Own E e B w (.slice (some ⟨g, 0, none⟩) n c) xs) (hne : xs ≠ []) : ∃ cs, Blk w g e cs := by
  obtain ⟨g', c', e1, _, cs, hcs⟩ := Own.at0 h hne
  injection e1 with e1 _ _
  injection e1 with e1
  injection e1 with e1 _
  subst e1
  exact ⟨cs, hcs⟩
theorem hi_step {w X Z : World} {g go m N cv h : Nat} {pre : List BlV} {last : BlV} (hN : N = pre.length) (hgm : g < m) (hgw : w.heap.size ≤ g) (hgo : m ≤ go) (hKZ : KeptBut m g X Z) (hBZ : Below w.heap.size w Z) (hbZ : Blk Z g 185 #[.slice (some ⟨go, 0, none⟩) (N + 1) cv]) (hoZ : Own blE 189 m Z (.slice (some ⟨go, 0, none⟩) (N + 1) cv) (pre ++ [last])) (hiZ : Ins m Z (pre ++ [last])) :
    KeptBut m g X (Z.setCell ⟨go, N * 4 + 1, none⟩ (iv (h : Int))) ∧ Below w.heap.size w (Z.setCell ⟨go, N * 4 + 1, none⟩ (iv (h : Int))) ∧ Blk (Z.setCell ⟨go, N * 4 + 1, none⟩ (iv (h : Int))) g 185 #[.slice (some ⟨go, 0, none⟩) (N + 1) cv] ∧ Own blE 189 m (Z.setCell ⟨go, N * 4 + 1, none⟩ (iv (h : Int))) (.slice (some ⟨go, 0, none⟩) (N + 1) cv) (pre ++ [{ last with hi := h }]) ∧ Ins m (Z.setCell ⟨go, N * 4 + 1, none⟩ (iv (h : Int))) (pre ++ [{ last with hi := h }]) := by
  obtain ⟨g', c', e, _, cs, hcs⟩ := Own.at0 hoZ (by simp)
  injection e with e1 _ _
  injection e1 with e1
  injection e1 with e1 _
  subst e1
  have hE : ∀ M', EdsK m M' Z (Z.setCell ⟨go, N * 4 + 1, none⟩ (iv (h : Int))) := fun M' => EdsK.set_ hcs (by decide) _ _
  refine ⟨hKZ.trans (KeptBut.set_ (g := g) ⟨go, _, none⟩ (.inr hgo) _), hBZ.setCell (p := ⟨go, N * 4 + 1, none⟩) (show w.heap.size ≤ go by omega) _, hbZ.far (p := ⟨go, N * 4 + 1, none⟩) (show g ≠ go by omega) _, ?_, fun pre' last' e => ?_⟩
  · have h9 := Own.setAt (k := N) (j := 1) (x := last) (y := { last with hi := h }) (u := iv (h : Int)) hoZ (by rw [hN]; simp) (by simp [blE, BlV.v0, BlV.v1]) (by decide)
    have h10 : (pre ++ [last]).set N { last with hi := h } = pre ++ [{ last with hi := h }] := by rw [hN, List.set_append_right _ _ (Nat.le_refl _)]; simp
    rw [h10] at h9
    exact h9
  · obtain ⟨rfl, e2⟩ := List.append_inj' e rfl
    injection e2 with e3
    subst e3
    obtain ⟨M, h1, h2, h3, h4⟩ := hiZ _ _ rfl
    have h5 := h4.keep h1 (hE Z.heap.size)
    exact ⟨M, h1, Nat.le_trans h2 (hE 0).1, fun r hr => (h3 r hr).keep (hE M), ⟨h5.o0, h5.o1, h5.ap⟩⟩
theorem memGrow0 (last : BlV) (y : EdV) : ∀ x, x ∈ last.e0 ++ [y] ∨ x ∈ last.e1 → (x ∈ last.e0 ∨ x ∈ last.e1) ∨ x = y := fun x h => by
  rcases h with h | h
  · rcases List.mem_append.1 h with h | h
    · exact .inl (.inl h)
    · exact .inr (List.mem_singleton.1 h)
  · exact .inl (.inr h)
theorem memGrow1 (last : BlV) (y : EdV) : ∀ x, x ∈ last.e0 ∨ x ∈ last.e1 ++ [y] → (x ∈ last.e0 ∨ x ∈ last.e1) ∨ x = y := fun x h => by
  rcases h with h | h
  · exact .inl (.inl h)
  · rcases List.mem_append.1 h with h | h
    · exact .inl (.inr h)
    · exact .inr (List.mem_singleton.1 h)
set_option maxHeartbeats 4000000 in
theorem blocks_spec (A0 : Option Addr) (c0 : Nat) (A1 : Option Addr) (c1 : Nat) (vs0 vs1 : List EdV) (w : World) (h0 : Sl edE w A0 vs0) (h1 : Sl edE w A1 vs1) (s0 : SmallC (vs0.map EdV.ed)) (s1 : SmallC (vs1.map EdV.ed)) (q0 : ∀ x ∈ vs0, 0 ≤ x.at_ ∧ x.at_ ≤ 24) (q1 : ∀ x ∈ vs1, 0 ≤ x.at_ ∧ x.at_ ≤ 24) :
    Calls Tryz.prog 118 #[.agg #[.slice A0 vs0.length c0, .slice A1 vs1.length c1]] w fun e w' => ∃ v rs, e = .returned v ∧ Own blE 189 w.heap.size w' v rs ∧ rs.map BlV.b = File.blocks (vs0.map EdV.ed) (vs1.map EdV.ed) ∧ (∀ r ∈ rs, Own edE 43 w.heap.size w' r.v0 r.e0 ∧ Own edE 43 w.heap.size w' r.v1 r.e1 ∧ ∀ x, x ∈ r.e0 ∨ x ∈ r.e1 → x ∈ vs0 ∨ x ∈ vs1) ∧ Below w.heap.size w w' := by
  obtain ⟨xs, hxs⟩ : ∃ xs, xs = mergeV (vs0.length + vs1.length) vs0 vs1 := ⟨_, rfl⟩
  have HXE : Hid (xs.map (fun p => (p.1, p.2.ed)) = File.merge (vs0.map EdV.ed) (vs1.map EdV.ed)) := Lib.hid (by rw [hxs, mergeV_map]; simp [File.merge])
  have hl0 : vs0.length ≤ 25 := by have := s0.many; rwa [List.length_map] at this
  have hl1 : vs1.length ≤ 25 := by have := s1.many; rwa [List.length_map] at this
  have hxl : xs.length ≤ 50 := by rw [hxs, mergeV_length _ _ _ rfl]; omega
  have HMEM : Hid (∀ p ∈ xs, p.2 ∈ vs0 ∨ p.2 ∈ vs1) := Lib.hid (by rw [hxs]; exact mergeV_mem _ _ _)
  have HPOS : Hid (∀ p ∈ xs, 0 ≤ p.2.at_ ∧ p.2.at_ ≤ 24 ∧ p.2.old.length ≤ 24) := Lib.hid fun p hp => by
    rcases HMEM.out p hp with h | h
    · exact ⟨(q0 _ h).1, (q0 _ h).2, s0.old _ (List.mem_map_of_mem h)⟩
    · exact ⟨(q1 _ h).1, (q1 _ h).2, s1.old _ (List.mem_map_of_mem h)⟩
  obtain ⟨xe, hxe⟩ : ∃ xe, xe = xs.map (fun p => (p.1, p.2.ed)) := ⟨_, rfl⟩
  have HXE2 := Lib.hid hxe
  refine (callsIn_wide (n := 20)).1 ?_
  refine callsIn_of_wp_marks Tryz.func118 rfl trivial ?_ rfl
  simp only [Tryz.ntmps118, List.size_toArray, List.length_cons, List.length_nil, Nat.reduceAdd, Nat.reduceSub, Array.replicate_succ, Array.replicate_zero, List.push_toArray, List.append_toArray, List.nil_append, List.cons_append]
  gi_wp2_with (refine ⟨trivial, ?_⟩; gi_at_call 165; refine (edits_in _ _ _ _ _ _ _ _).mono ?_; rintro e w' ⟨rfl, rfl⟩)
  have k1 : Blk (((w.alloc (.cells #[.slice A0 vs0.length c0, .slice A1 vs1.length c1] 187)).alloc (.cells #[.slice none 0 0] 185)).alloc (.cells #[.slice A0 vs0.length c0, .slice A1 vs1.length c1] 187)) (w.heap.size + 1) 185 #[.slice none 0 0] := (Blk.new_ _ _ _ (by simp)).alloc _
  have k2 : Blk (((w.alloc (.cells #[.slice A0 vs0.length c0, .slice A1 vs1.length c1] 187)).alloc (.cells #[.slice none 0 0] 185)).alloc (.cells #[.slice A0 vs0.length c0, .slice A1 vs1.length c1] 187)) (w.heap.size + 2) 187 #[.slice A0 vs0.length c0, .slice A1 vs1.length c1] := Blk.new_ _ _ _ (by simp)
  have hB0 : Below w.heap.size w (((w.alloc (.cells #[.slice A0 vs0.length c0, .slice A1 vs1.length c1] 187)).alloc (.cells #[.slice none 0 0] 185)).alloc (.cells #[.slice A0 vs0.length c0, .slice A1 vs1.length c1] 187)) := (((Below.refl _ w).alloc (Nat.le_refl _) _).alloc (by simp) _).alloc (by simp; omega) _
  have hsz : (((w.alloc (.cells #[.slice A0 vs0.length c0, .slice A1 vs1.length c1] 187)).alloc (.cells #[.slice none 0 0] 185)).alloc (.cells #[.slice A0 vs0.length c0, .slice A1 vs1.length c1] 187)).heap.size = w.heap.size + 3 := by simp
  generalize ((w.alloc (.cells #[.slice A0 vs0.length c0, .slice A1 vs1.length c1] 187)).alloc (.cells #[.slice none 0 0] 185)).alloc (.cells #[.slice A0 vs0.length c0, .slice A1 vs1.length c1] 187) = W0 at *
  have hed : ∀ (A : Option Addr) (vs : List EdV), Sl edE w A vs → Edits W0 A vs (w.heap.size + 1) := fun A vs h => ⟨h.below hB0, fun hne b off e => by
    obtain ⟨b', off', e', hb', _⟩ := h hne
    rw [e] at e'
    injection e' with e'
    injection e' with e1 _
    omega⟩
  have hseq : SeqAll Fence.wide (20 - 1) Tryz.prog 180 #[.pointer (some ⟨w.heap.size + 2, 0, none⟩)] encP xs (w.heap.size + 1) W0 := by
    rw [hxs]
    exact edits1_all (20 - 1) (by omega) (w.heap.size + 2) A0 c0 A1 c1 vs0 vs1 (w.heap.size + 1) W0 k2 (by omega) (hed _ _ h0) (hed _ _ h1) (by omega) (by omega)
  clear hxe hxs
  refine wpIn_rangeAll (F := Fence.wide) rfl (by omega) (gf := 180) (lb := #[.pointer (some ⟨w.heap.size + 2, 0, none⟩)]) rfl trivial (enters_of Tryz.func180 (by kernel_rfl) rfl) (encs := encP) (xs := xs) (g := w.heap.size + 1) (by omega) hseq (fun _ => rfl)
    (fun k W => ∃ v rs, Blk W (w.heap.size + 1) 185 #[v] ∧ Own blE 189 (w.heap.size + 6) W v rs ∧ Hid (BRel xs xe k rs) ∧ Hid (Ins (w.heap.size + 6) W rs) ∧ Below w.heap.size w W)
    ?hI ⟨.slice none 0 0, [], k1, Own.nil, ⟨.inl ⟨rfl, rfl⟩, Nat.le_refl _, (fun _ h => by cases h), (fun _ h => by cases h)⟩, (fun pre last e => by simp at e), hB0⟩
    (fun k a' W => ∃ p Bx v rs, xs[k]? = some p ∧ w.heap.size + 6 ≤ Bx ∧ Blk W Bx 43 #[iv p.2.at_, .slice p.2.A p.2.old.length p.2.c, .slice p.2.A' p.2.new.length p.2.c'] ∧ Blk W (w.heap.size + 1) 185 #[v] ∧ Own blE 189 (w.heap.size + 6) W v rs ∧ Hid (BRel xs xe k rs) ∧ Hid (Ins (w.heap.size + 6) W rs) ∧ Below w.heap.size w W ∧ (∀ r ∈ rs, r.v0.ownBlock ≠ some Bx ∧ r.v1.ownBlock ≠ some Bx) ∧ a' = { tmps := #[.agg #[.slice A0 vs0.length c0, .slice A1 vs1.length c1], .pointer (some ⟨w.heap.size, 0, none⟩), .slice none 0 0, .pointer (some ⟨w.heap.size + 1, 0, none⟩), iv (if p.1 then 1 else 0), .pointer (some ⟨Bx, 0, none⟩), undef, undef, undef, .agg #[.slice A0 vs0.length c0, .slice A1 vs1.length c1], .func (.func 180) #[] #[.pointer (some ⟨w.heap.size + 1 + 1, 0, none⟩)], iv (if p.1 then 1 else 0), .agg #[iv p.2.at_, .slice p.2.A p.2.old.length p.2.c, .slice p.2.A' p.2.new.length p.2.c'], undef, undef, undef, undef, undef, undef, undef, undef, undef, undef, undef, undef, undef, undef, undef, undef, undef, undef, undef, undef, undef, undef, undef, undef, undef, undef, undef, undef, undef, undef, undef, undef, undef, undef, undef, undef, undef, undef, undef, undef, undef, undef, undef, undef, undef, undef, undef, undef, undef, undef, undef, undef, undef, undef, undef, undef, undef, undef, undef, undef, undef, undef], defers := [] })
    ?hAx ?assign ?body ?done
  case hI =>
    rintro k X Y row ⟨v, rs, hb, ho, hr, hi, hB⟩ hg hrow
    rw [hsz] at hrow
    have hk : EdsK (w.heap.size + 6) X.heap.size X Y := ⟨hg.size, fun g cs fr hm _ hc => hg.block g (Array.getElem?_eq_some_iff.1 hc).1 (fun e => by have := hrow g e.symm; omega)⟩
    exact ⟨v, rs, (hg.block _ hb.lt (fun e => by have := hrow _ e.symm; omega)).trans hb, ho.keep hg.size fun b hb => hg.block b (ho.lt b hb).2 (fun e => by have := hrow _ e.symm; have := (ho.lt b hb).1; omega), hr, Lib.hid (hi.out.keep hk), hB.grown hg hB.size fun j e => by have := hrow j e; omega⟩
  case hAx =>
    rintro k a' X Y row ⟨p, Bx, v, rs, hp, hBx, bX, hb, ho, hr, hi, hB, hXB, rfl⟩ hg hrow
    rw [hsz] at hrow
    have hk : EdsK (w.heap.size + 6) X.heap.size X Y := ⟨hg.size, fun g cs fr hm _ hc => hg.block g (Array.getElem?_eq_some_iff.1 hc).1 (fun e => by have := hrow g e.symm; omega)⟩
    exact ⟨p, Bx, v, rs, hp, hBx, (hg.block _ bX.lt (fun e => by have := hrow _ e.symm; omega)).trans bX, (hg.block _ hb.lt (fun e => by have := hrow _ e.symm; omega)).trans hb, ho.keep hg.size fun b hb => hg.block b (ho.lt b hb).2 (fun e => by have := hrow _ e.symm; have := (ho.lt b hb).1; omega), hr, Lib.hid (hi.out.keep hk), hB.grown hg hB.size (fun j e => by have := hrow j e; omega), hXB, rfl⟩
  case assign =>
    rintro l k p X K hp ⟨v, rs, hb, ho, hr, hi, hB⟩ hz hK
    rw [hsz] at hz
    simp only [encP, EdV.v]
    have hbX : Below X.heap.size X (X.alloc (.cells #[iv p.2.at_, .slice p.2.A p.2.old.length p.2.c, .slice p.2.A' p.2.new.length p.2.c'] 43)) := (Below.refl _ _).alloc (Nat.le_refl _) _
    obtain ⟨cp, y⟩ := p
    cases cp
    all_goals
      gi_wp2
      exact hK _ _ (KeptBut.alloc _ _ _ _ (by omega)) ⟨_, X.heap.size, v, rs, hp, by omega, Blk.new _ _ _, hb.alloc _, ho.alloc _, hr, Lib.hid (hi.out.keep (EdsK.of_below hbX)), hB.alloc hB.size _, (fun r hr' => ⟨fun e => Nat.lt_irrefl _ ((hi.out.old r hr').l0 _ e), fun e => Nat.lt_irrefl _ ((hi.out.old r hr').l1 _ e)⟩), rfl⟩
  case body =>
    rintro l k x a' X hx ⟨⟨cp, y⟩, Bx, v, rs, hp, hBx, bX, hb, ho, hr, hi, hB, hXB, rfl⟩ hz
    rw [hsz] at hz
    have c0' := bX.cell 0
    have c1' := bX.cell 1
    have c2' := bX.cell 2
    have cl' := bX.lt
    have g0 := hb.cell 0
    have gl := hb.lt
    have gf := hb.frozen 0
    obtain ⟨hy0, hy1, hy2⟩ := HPOS.out _ (mem_at hp)
    obtain ⟨lo, hlo⟩ : ∃ lo : Nat, y.at_ = (lo : Int) := ⟨y.at_.toNat, by simp only at hy0; omega⟩
    simp only at hy0 hy1 hy2 c0' c1' c2'
    rw [hlo] at c0' hy1
    have hlo24 : lo ≤ 24 := by omega
    obtain ⟨to_, hto⟩ : ∃ to_, to_ = lo + y.old.length := ⟨_, rfl⟩
    have ew1 : IntKind.i64.wrap ((lo : Int) + (y.old.length : Int)) = (to_ : Int) := by rw [hto]; exact IntWalk.i64_in _ (by omega)
    have HTO := Lib.hid hto
    clear hto
    simp only [hlo]
    obtain ⟨g, hgd⟩ : ∃ g, g = w.heap.size + 1 := ⟨_, rfl⟩
    rw [← hgd] at hb g0 gl gf ⊢
    have hgz : g < w.heap.size + 6 := by omega
    have hgw : w.heap.size ≤ g := by omega
    have HGD := Lib.hid hgd
    clear hgd
    cases cp
    · simp only [reduceIte, Bool.false_eq_true]
      rcases hr.out.way with ⟨hk0, hrs⟩ | ⟨pre, last, hrs, hg⟩
      · subst hrs
        obtain ⟨Av, cv, rfl, _, _⟩ := ho.form
        have ew2 : IntKind.i64.wrap (((([] : List BlV).length : Nat) : Int) - 1) = -1 := rfl
        gi_wp2_with fail
        refine wpIn_round_quiet (by kernel_rfl) (by kernel_rfl) (by kernel_rfl) (by rintro ⟨_, _, h⟩; exact h) ?_
        repeat (go_big_quiet_step (fail))
        refine wpQuiet_nil ?_
        intro _ hw'
        obtain ⟨nq, hw''⟩ := hw'
        subst hw''
        have hq : Below X.heap.size X (X.drewN nq) := ⟨rfl, rfl, rfl, Nat.le_refl _, fun _ _ => rfl⟩
        have bZ := bX.under hq
        have hbZ := hb.under hq
        have hoZ := ho.below hq
        have hiZ : Hid (Ins (w.heap.size + 6) (X.drewN nq) _) := Lib.hid (hi.out.keep (EdsK.of_below hq))
        have hBZ : Below w.heap.size w (X.drewN nq) := hB.next hq (Nat.le_refl _)
        have hKZ : KeptBut (w.heap.size + 6) g X (X.drewN nq) := KeptBut.of_below hq (by omega)
        have hzZ : w.heap.size + 5 < (X.drewN nq).heap.size := hz
        generalize X.drewN nq = Z at *
        have z0 := bZ.cell 0
        have z1 := bZ.cell 1
        have z2 := bZ.cell 2
        have zl := bZ.lt
        have y0 := hbZ.cell 0
        have yl := hbZ.lt
        have yn : ¬ g = Z.heap.size := by omega
        rw [hlo] at z0
        obtain ⟨Xs, hXs⟩ : ∃ Xs, Xs = (Z.alloc (.cells #[iv (lo : Int), iv (to_ : Int), .slice (some ⟨Z.heap.size + 1, 0, none⟩) 1 1, .slice none 0 0] 189)).alloc (.cells #[iv (lo : Int), .slice y.A y.old.length y.c, .slice y.A' y.new.length y.c'] 43) := ⟨_, rfl⟩
        have hbS : Below Z.heap.size Z Xs := by rw [hXs]; exact ((Below.refl _ Z).alloc (Nat.le_refl _) _).alloc (by simp) _
        have hGe : Blk Xs (Z.heap.size + 1) 43 #[iv (lo : Int), .slice y.A y.old.length y.c, .slice y.A' y.new.length y.c'] := by
          rw [hXs]
          exact Blk.new_ _ _ _ (by simp)
        have hoS := Lib.hid (hoZ.below hbS)
        have hzS : Hid (w.heap.size + 6 ≤ Xs.heap.size) := Lib.hid (by have := hbS.size; omega)
        have hlen : Hid (([] : List BlV).length + 1 ≤ big) := Lib.hid (by have := hr.out.many; have h9 := (List.getElem?_eq_some_iff.1 hp).1; unfold big; omega)
        rw [hXs] at hoS hzS
        gi_wp2_with (gi_at_builtin; refine wpApp1In blE tyBlocks rfl _ _ rfl hoS.out (⟨lo, to_, some ⟨Z.heap.size + 1, 0, none⟩, 1, [y], none, 0, []⟩ : BlV) rfl rfl (G := Z.heap.size + 1 + 1) (by simp) rfl hzS.out hlen.out ?_; intro v1 Y hoY hbY hkY; obtain ⟨Av1, cv1, hv1, _, _⟩ := hoY.form; (try rw [show (([]) ++ [(⟨lo, to_, some ⟨Z.heap.size + 1, 0, none⟩, 1, [y], none, 0, []⟩ : BlV)]).length = 1 from (by (rw [List.length_append, HNL.out]; rfl))] at hv1); subst hv1; have hY1 := (hbZ.under hbS).below (hXs ▸ hbY) (by omega); have e0 := hY1.cell 0; have ef := hY1.frozen 0; have el := hY1.lt)
        have hbY2 : Below (w.heap.size + 6) Xs Y := by rw [hXs]; exact hbY
        have hkY2 : ∀ b, b < Xs.heap.size → Value.ownBlock (.slice Av 0 cv) ≠ some b → Y.heap[b]? = Xs.heap[b]? := by rw [hXs]; exact hkY
        have hfin := open_step (k := k) (xs := xs) (xe := xe) hgz hgw (by omega) hKZ hBZ hbZ hoZ hiZ.out hbS hGe (fun W hW => ⟨Own.ofBlk (E := edE) (xs := [y]) (by simpa [edE, hlo] using hW) (Nat.le_succ _) (by simp [maxLen]), Own.nil, fun b _ h => by cases h⟩) hoY hbY2 hkY2 (brel_open hr.out hp HXE2.out (fun pre last e => by simp at e) (by simp [BlV.b, File.Block.new, EdV.ed, File.Edit.lo, File.Edit.hi, hlo, HTO.out]) (by simp) (by have := HTO.out; show to_ ≤ 48; omega) (by simp))
        rw [hsz]
        exact hfin
      · subst hrs
        obtain ⟨go, cv, rfl, hgo, _⟩ := Own.at0 ho (by simp)
        obtain ⟨N, hN⟩ : ∃ N, N = pre.length := ⟨_, rfl⟩
        have hNl : (pre ++ [last]).length = N + 1 := by rw [hN]; simp
        rw [hNl] at hb g0 ho
        have hN50 : N + 1 ≤ 50 := by
          have h1 := hr.out.many
          have h2 := (List.getElem?_eq_some_iff.1 hp).1
          rw [hNl] at h1
          omega
        have HNL := Lib.hid hNl
        have HN := Lib.hid hN
        have hxN : (pre ++ [last])[N]? = some last := by rw [hN]; simp
        clear hNl hN
        have ew2 : IntKind.i64.wrap (N : Int) = (N : Int) := IntWalk.i64_in _ (by omega)
        have ew3 : IntKind.i64.wrap ((N : Int) + 1 - 1) = (N : Int) := by rw [show (N : Int) + 1 - 1 = (N : Int) by omega]; exact ew2
        have n0 : (0 : Int) ≤ (N : Int) := by omega
        have n1 : (N : Int) < (N : Int) + 1 := by omega
        have m1 : X.cell? ⟨go, N * 4 + 1, none⟩ = some (iv (last.hi : Int)) := Own.cellAt ho hxN rfl
        by_cases hnear : lo ≤ last.hi
        · have hni : (lo : Int) ≤ (last.hi : Int) := by omega
          gi_wp2_with fail
          refine wpIn_round_quiet (by kernel_rfl) (by kernel_rfl) (by kernel_rfl) (by rintro ⟨_, _, h⟩; exact h) ?_
          repeat (go_big_quiet_step (fail))
          refine wpQuiet_nil ?_
          intro _ hw'
          obtain ⟨nq, hw''⟩ := hw'
          subst hw''
          have hq : Below X.heap.size X (X.drewN nq) := ⟨rfl, rfl, rfl, Nat.le_refl _, fun _ _ => rfl⟩
          have bZ := bX.under hq
          have hbZ := hb.under hq
          have hoZ := ho.below hq
          have hiZ : Hid (Ins (w.heap.size + 6) (X.drewN nq) _) := Lib.hid (hi.out.keep (EdsK.of_below hq))
          have hBZ : Below w.heap.size w (X.drewN nq) := hB.next hq (Nat.le_refl _)
          have hKZ : KeptBut (w.heap.size + 6) g X (X.drewN nq) := KeptBut.of_below hq (by omega)
          have hzZ : w.heap.size + 5 < (X.drewN nq).heap.size := hz
          generalize X.drewN nq = Z at *
          have z0 := bZ.cell 0
          have z1 := bZ.cell 1
          have z2 := bZ.cell 2
          have zl := bZ.lt
          have y0 := hbZ.cell 0
          have yl := hbZ.lt
          have yn : ¬ g = Z.heap.size := by omega
          rw [hlo] at z0
          obtain ⟨MX, hMX⟩ : ∃ MX : Nat, MX = max last.hi to_ := ⟨_, rfl⟩
          have hMXi : max (last.hi : Int) (to_ : Int) = (MX : Int) := by rw [hMX]; omega
          have HMX := Lib.hid hMX
          clear hMX
          gi_wp2_with fail
          refine wpIn_round_held (S := fun z => z.cell? ⟨g, 0, none⟩ = some (.slice (some ⟨go, 0, none⟩) (N + 1) cv)) (by kernel_rfl) (by kernel_rfl) (by rintro ⟨_, _, h⟩; exact h) y0 (fun hHeld => ?_)
          have hq8 : Below Z.heap.size Z Z.drew := (Below.refl _ _).drew
          have bX8 := bZ.under hq8
          have hb8 := hbZ.under hq8
          have ho8 := hoZ.below hq8
          have hi8 : Hid (Ins (w.heap.size + 6) Z.drew (pre ++ [last])) := Lib.hid (hiZ.out.keep (EdsK.of_below hq8))
          have hB8 : Below w.heap.size w Z.drew := hBZ.next hq8 (Nat.le_refl _)
          have hK8 : KeptBut (w.heap.size + 6) g X Z.drew := hKZ.trans (KeptBut.of_below hq8 (by omega))
          have hz8 : w.heap.size + 5 < Z.drew.heap.size := hzZ
          generalize Z.drew = Z8 at *
          have m8 : Z8.cell? ⟨go, N * 4 + 1, none⟩ = some (iv (last.hi : Int)) := Own.cellAt ho8 hxN rfl
          obtain ⟨cs9, hcs9⟩ := Own.blkOf ho8 (by simp)
          have f8 := hcs9.frozen (N * 4 + 1)
          have gl8 := hcs9.lt
          refine wpAnyH_take (i := 0) (v := .slice (some ⟨go, 0, none⟩) (N + 1) cv) rfl (by kernel_rfl) (by kernel_rfl) (by kernel_rfl) (fun _ _ _ h => h) (Or.inl ⟨by rfl, fun z hz => ?_⟩) hHeld ?_
          · skip
            go_simp
          try simp only [Act.put, List.setIfInBounds_toArray, List.set_cons_zero, List.set_cons_succ]
          refine wpAnyH_take (i := 1) (v := iv (N : Int)) rfl (by kernel_rfl) (by kernel_rfl) (by kernel_rfl) (fun _ _ _ h => h) (Or.inl ⟨by rfl, fun z hz => ?_⟩) hHeld ?_
          · skip
            go_simp
          try simp only [Act.put, List.setIfInBounds_toArray, List.set_cons_zero, List.set_cons_succ]
          refine wpAnyH_take (i := 2) (v := .slice (some ⟨go, 0, none⟩) (N + 1) cv) rfl (by kernel_rfl) (by kernel_rfl) (by kernel_rfl) (fun _ _ _ h => h) (Or.inl ⟨by rfl, fun z hz => ?_⟩) hHeld ?_
          · skip
            go_simp
          try simp only [Act.put, List.setIfInBounds_toArray, List.set_cons_zero, List.set_cons_succ]
          refine wpAnyH_take (i := 3) (v := iv (N : Int)) rfl (by kernel_rfl) (by kernel_rfl) (by kernel_rfl) (fun _ _ _ h => h) (Or.inl ⟨by rfl, fun z hz => ?_⟩) hHeld ?_
          · skip
            go_simp
          try simp only [Act.put, List.setIfInBounds_toArray, List.set_cons_zero, List.set_cons_succ]
          refine wpAnyH_take (i := 4) (v := .pointer (some ⟨go, N * 4, none⟩)) rfl (by kernel_rfl) (by kernel_rfl) (by kernel_rfl) (fun _ _ _ h => h) (Or.inl ⟨by rfl, fun z hz => ?_⟩) hHeld ?_
          · skip
            go_simp
          try simp only [Act.put, List.setIfInBounds_toArray, List.set_cons_zero, List.set_cons_succ]
          refine wpAnyH_take (i := 5) (v := .pointer (some ⟨go, N * 4 + 1, none⟩)) rfl (by kernel_rfl) (by kernel_rfl) (by kernel_rfl) (fun _ _ _ h => h) (Or.inl ⟨by rfl, fun z hz => ?_⟩) hHeld ?_
          · skip
            go_simp
          try simp only [Act.put, List.setIfInBounds_toArray, List.set_cons_zero, List.set_cons_succ]
          refine wpAnyH_take (i := 7) (v := iv (to_ : Int)) rfl (by kernel_rfl) (by kernel_rfl) (by kernel_rfl) (fun _ _ _ h => h) (Or.inl ⟨by rfl, fun z hz => ?_⟩) hHeld ?_
          · skip
            go_simp
          try simp only [Act.put, List.setIfInBounds_toArray, List.set_cons_zero, List.set_cons_succ]
          refine wpAnyH_ready (rs := [6]) (by kernel_rfl) (by simp) (AllReadyH.cons rfl (fun K hK => ?_) AllReadyH.nil)
          rw [if_pos (by rfl)]
          go_simp
          refine hK.out _ _ hHeld (fun _ => ?_)
          clear hK K
          try simp only [Act.put, List.setIfInBounds_toArray, List.set_cons_zero, List.set_cons_succ]
          refine wpAnyH_take (i := 8) (v := iv (MX : Int)) rfl (by kernel_rfl) (by kernel_rfl) (by kernel_rfl) (fun _ _ _ h => h) (Or.inl ⟨by rfl, fun z hz => ?_⟩) hHeld ?_
          · skip
            go_simp
          try simp only [Act.put, List.setIfInBounds_toArray, List.set_cons_zero, List.set_cons_succ]
          refine wpAnyH_take (i := 9) (v := .pointer (some ⟨go, N * 4, none⟩)) rfl (by kernel_rfl) (by kernel_rfl) (by kernel_rfl) (fun _ _ _ h => h) (Or.inl ⟨by rfl, fun z hz => ?_⟩) hHeld ?_
          · skip
            go_simp
          try simp only [Act.put, List.setIfInBounds_toArray, List.set_cons_zero, List.set_cons_succ]
          refine wpAnyH_take (i := 10) (v := .pointer (some ⟨go, N * 4 + 1, none⟩)) rfl (by kernel_rfl) (by kernel_rfl) (by kernel_rfl) (fun _ _ _ h => h) (Or.inl ⟨by rfl, fun z hz => ?_⟩) hHeld ?_
          · skip
            go_simp
          try simp only [Act.put, List.setIfInBounds_toArray, List.set_cons_zero, List.set_cons_succ]
          refine wpAnyH_ready (rs := [11]) (by kernel_rfl) (by simp) (AllReadyH.cons rfl (fun K hK => ?_) AllReadyH.nil)
          rw [if_pos (by rfl)]
          go_simp
          obtain ⟨hK9, hB9, hb9, ho9, hi9⟩ := hi_step (h := MX) HN.out hgz hgw hgo hK8 hB8 hb8 ho8 hi8.out
          have hi9' := Lib.hid hi9
          have bX9 : Blk (Z8.setCell ⟨go, N * 4 + 1, none⟩ (iv (MX : Int))) Bx 43 #[iv y.at_, .slice y.A y.old.length y.c, .slice y.A' y.new.length y.c'] := bX8.far (p := ⟨go, N * 4 + 1, none⟩) (fun e => by
            unfold Blk at bX8 hcs9
            rw [e, hcs9] at bX8
            injection bX8 with h9
            injection h9 with _ h9 _
            exact absurd h9 (by decide)) _
          have hz9 : w.heap.size + 5 < (Z8.setCell ⟨go, N * 4 + 1, none⟩ (iv (MX : Int))).heap.size := by simpa [World.setCell] using hz8
          refine hK.out _ _ (hb9.cell 0) (fun _ => ?_)
          clear hK K hi9
          generalize Z8.setCell ⟨go, N * 4 + 1, none⟩ (iv (MX : Int)) = Z9 at *
          try simp only [Act.put, List.setIfInBounds_toArray, List.set_cons_zero, List.set_cons_succ]
          refine wpAnyH_done (by kernel_rfl) ?_ _
          have x0 := bX9.cell 0
          have x1 := bX9.cell 1
          have x2 := bX9.cell 2
          rw [hlo] at x0
          have w0 := hb9.cell 0
          gi_wp2_with fail
          have hS0 : ∀ z : World, Below Z9.heap.size Z9 z → z.cell? ⟨g, 0, none⟩ = some (.slice (some ⟨go, 0, none⟩) (N + 1) cv) ∧ z.cell? ⟨Bx, 0, none⟩ = some (iv (lo : Int)) ∧ z.cell? ⟨Bx, 1, none⟩ = some (.slice y.A y.old.length y.c) ∧ z.cell? ⟨Bx, 2, none⟩ = some (.slice y.A' y.new.length y.c') := fun z h => ⟨(hb9.under h).cell 0, by have := (bX9.under h).cell 0; rw [hlo] at this; exact this, (bX9.under h).cell 1, (bX9.under h).cell 2⟩
          refine wpIn_round_held (S := fun z => z.cell? ⟨g, 0, none⟩ = some (.slice (some ⟨go, 0, none⟩) (N + 1) cv) ∧ z.cell? ⟨Bx, 0, none⟩ = some (iv (lo : Int)) ∧ z.cell? ⟨Bx, 1, none⟩ = some (.slice y.A y.old.length y.c) ∧ z.cell? ⟨Bx, 2, none⟩ = some (.slice y.A' y.new.length y.c')) (by kernel_rfl) (by kernel_rfl) (by rintro ⟨_, _, h⟩; exact h) (hS0 _ (Below.refl _ _).drew) (fun hHeld => ?_)
          have hqd : Below Z9.heap.size Z9 Z9.drew := (Below.refl _ _).drew
          have bXd := bX9.under hqd
          have hbd := hb9.under hqd
          have hod := ho9.below hqd
          have hid : Hid (Ins (w.heap.size + 6) Z9.drew (pre ++ [{ last with hi := MX }])) := Lib.hid (hi9'.out.keep (EdsK.of_below hqd))
          have hBd : Below w.heap.size w Z9.drew := hB9.next hqd (Nat.le_refl _)
          have hKd : KeptBut (w.heap.size + 6) g X Z9.drew := hK9.trans (KeptBut.of_below hqd (by omega))
          have hzd : w.heap.size + 5 < Z9.drew.heap.size := hz9
          generalize Z9.drew = Zd at *
          obtain ⟨M, hmM, hMZ, hold, hla⟩ := hid.out _ _ rfl
          have hxM : (pre ++ [({ last with hi := MX } : BlV)])[N]? = some { last with hi := MX } := by rw [HN.out]; simp
          have mI : Zd.cell? ⟨go, N * 4 + 2 + 0, none⟩ = some last.v0 := Own.cellAt hod hxM (j := 2 + 0) rfl
          obtain ⟨csd, hcsd⟩ := Own.blkOf hod (by simp)
          have gld := hcsd.lt
          have hlI : Hid (last.e0.length + 1 ≤ big) := Lib.hid (by have := (hr.out.high last (by simp)).2; have h9 := (List.getElem?_eq_some_iff.1 hp).1; unfold big; omega)
          have HLI := hlI
          refine wpAnyH_take (i := 0) (v := .slice (some ⟨go, 0, none⟩) (N + 1) cv) rfl (by kernel_rfl) (by kernel_rfl) (by kernel_rfl) (fun _ _ _ h => h) (Or.inl ⟨by rfl, fun z hz => ?_⟩) hHeld ?_
          · obtain ⟨f0, f1, f2, f3⟩ := hz
            go_simp
          try simp only [Act.put, List.setIfInBounds_toArray, List.set_cons_zero, List.set_cons_succ]
          refine wpAnyH_take (i := 1) (v := iv (N : Int)) rfl (by kernel_rfl) (by kernel_rfl) (by kernel_rfl) (fun _ _ _ h => h) (Or.inl ⟨by rfl, fun z hz => ?_⟩) hHeld ?_
          · skip
            go_simp
          try simp only [Act.put, List.setIfInBounds_toArray, List.set_cons_zero, List.set_cons_succ]
          refine wpAnyH_take (i := 2) (v := iv 0) rfl (by kernel_rfl) (by kernel_rfl) (by kernel_rfl) (fun _ _ _ h => h) (Or.inl ⟨by rfl, fun z hz => ?_⟩) hHeld ?_
          · skip
            go_simp
          try simp only [Act.put, List.setIfInBounds_toArray, List.set_cons_zero, List.set_cons_succ]
          refine wpAnyH_take (i := 3) (v := .slice (some ⟨go, 0, none⟩) (N + 1) cv) rfl (by kernel_rfl) (by kernel_rfl) (by kernel_rfl) (fun _ _ _ h => h) (Or.inl ⟨by rfl, fun z hz => ?_⟩) hHeld ?_
          · obtain ⟨f0, f1, f2, f3⟩ := hz
            go_simp
          try simp only [Act.put, List.setIfInBounds_toArray, List.set_cons_zero, List.set_cons_succ]
          refine wpAnyH_take (i := 4) (v := iv (N : Int)) rfl (by kernel_rfl) (by kernel_rfl) (by kernel_rfl) (fun _ _ _ h => h) (Or.inl ⟨by rfl, fun z hz => ?_⟩) hHeld ?_
          · skip
            go_simp
          try simp only [Act.put, List.setIfInBounds_toArray, List.set_cons_zero, List.set_cons_succ]
          refine wpAnyH_take (i := 5) (v := iv 0) rfl (by kernel_rfl) (by kernel_rfl) (by kernel_rfl) (fun _ _ _ h => h) (Or.inl ⟨by rfl, fun z hz => ?_⟩) hHeld ?_
          · skip
            go_simp
          try simp only [Act.put, List.setIfInBounds_toArray, List.set_cons_zero, List.set_cons_succ]
          refine wpAnyH_take (i := 6) (v := .pointer (some ⟨go, N * 4, none⟩)) rfl (by kernel_rfl) (by kernel_rfl) (by kernel_rfl) (fun _ _ _ h => h) (Or.inl ⟨by rfl, fun z hz => ?_⟩) hHeld ?_
          · skip
            go_simp
          try simp only [Act.put, List.setIfInBounds_toArray, List.set_cons_zero, List.set_cons_succ]
          refine wpAnyH_take (i := 7) (v := .pointer (some ⟨go, N * 4 + 2, none⟩)) rfl (by kernel_rfl) (by kernel_rfl) (by kernel_rfl) (fun _ _ _ h => h) (Or.inl ⟨by rfl, fun z hz => ?_⟩) hHeld ?_
          · skip
            go_simp
          try simp only [Act.put, List.setIfInBounds_toArray, List.set_cons_zero, List.set_cons_succ]
          refine wpAnyH_take (i := 8) (v := .pointer (some ⟨go, N * 4 + 2 + 0, none⟩)) rfl (by kernel_rfl) (by kernel_rfl) (by kernel_rfl) (fun _ _ _ h => h) (Or.inl ⟨by rfl, fun z hz => ?_⟩) hHeld ?_
          · skip
            go_simp
          try simp only [Act.put, List.setIfInBounds_toArray, List.set_cons_zero, List.set_cons_succ]
          refine wpAnyH_take (i := 10) (v := .agg #[iv (lo : Int), .slice y.A y.old.length y.c, .slice y.A' y.new.length y.c']) rfl (by kernel_rfl) (by kernel_rfl) (by kernel_rfl) (fun _ _ _ h => h) (Or.inl ⟨by rfl, fun z hz => ?_⟩) hHeld ?_
          · obtain ⟨f0, f1, f2, f3⟩ := hz
            go_simp
          try simp only [Act.put, List.setIfInBounds_toArray, List.set_cons_zero, List.set_cons_succ]
          refine wpAnyH_take (i := 13) (v := .pointer (some ⟨go, N * 4, none⟩)) rfl (by kernel_rfl) (by kernel_rfl) (by kernel_rfl) (fun _ _ _ h => h) (Or.inl ⟨by rfl, fun z hz => ?_⟩) hHeld ?_
          · skip
            go_simp
          try simp only [Act.put, List.setIfInBounds_toArray, List.set_cons_zero, List.set_cons_succ]
          refine wpAnyH_take (i := 14) (v := .pointer (some ⟨go, N * 4 + 2, none⟩)) rfl (by kernel_rfl) (by kernel_rfl) (by kernel_rfl) (fun _ _ _ h => h) (Or.inl ⟨by rfl, fun z hz => ?_⟩) hHeld ?_
          · skip
            go_simp
          try simp only [Act.put, List.setIfInBounds_toArray, List.set_cons_zero, List.set_cons_succ]
          have HBA : Hid (Below Zd.heap.size Zd (Zd.alloc (.cells #[iv (lo : Int), .slice y.A y.old.length y.c, .slice y.A' y.new.length y.c'] 43))) := Lib.hid ((Below.refl _ _).alloc (Nat.le_refl _) _)
          have hSA : ∀ z : World, Below Zd.heap.size Zd z → z.cell? ⟨g, 0, none⟩ = some (.slice (some ⟨go, 0, none⟩) (N + 1) cv) ∧ z.cell? ⟨Bx, 0, none⟩ = some (iv (lo : Int)) ∧ z.cell? ⟨Bx, 1, none⟩ = some (.slice y.A y.old.length y.c) ∧ z.cell? ⟨Bx, 2, none⟩ = some (.slice y.A' y.new.length y.c') := fun z h => ⟨(hbd.under h).cell 0, by have := (bXd.under h).cell 0; rw [hlo] at this; exact this, (bXd.under h).cell 1, (bXd.under h).cell 2⟩
          have HSL : Hid (Sl edE (Zd.alloc (.cells #[iv (lo : Int), .slice y.A y.old.length y.c, .slice y.A' y.new.length y.c'] 43)) (some ⟨Zd.heap.size, 0, none⟩) [y]) := Lib.hid (Sl.fresh edE Zd 43 #[iv (lo : Int), .slice y.A y.old.length y.c, .slice y.A' y.new.length y.c'] [y] (by simp [edE, hlo]) (by simp [maxLen]))
          have HOI : Hid (Own edE 43 M (Zd.alloc (.cells #[iv (lo : Int), .slice y.A y.old.length y.c, .slice y.A' y.new.length y.c'] 43)) last.v0 last.e0) := Lib.hid (Own.below hla.o0 HBA.out)
          have HZA : Hid (M ≤ (Zd.alloc (.cells #[iv (lo : Int), .slice y.A y.old.length y.c, .slice y.A' y.new.length y.c'] 43)).heap.size) := Lib.hid (Nat.le_trans hMZ HBA.out.size)
          have mA : (Zd.alloc (.cells #[iv (lo : Int), .slice y.A y.old.length y.c, .slice y.A' y.new.length y.c'] 43)).cell? ⟨go, N * 4 + 2 + 0, none⟩ = some last.v0 := (HBA.out.cell (p := ⟨go, _, none⟩) gld).trans mI
          have hne : last.v0.ownBlock ≠ some Bx := fun e => (hXB last (by simp)).1 e
          refine wpAnyH_ready (rs := [9, 11]) (by kernel_rfl) (by simp) (AllReadyH.cons rfl (fun K hK => ?_) (AllReadyH.cons rfl (fun K hK => ?_) AllReadyH.nil))
          · rw [if_pos (by rfl)]
            go_simp
            refine hK.out _ _ hHeld (fun _ => ?_)
            clear hK K
            try simp only [Act.put, List.setIfInBounds_toArray, List.set_cons_zero, List.set_cons_succ]
            refine wpAnyH_ready (rs := [11]) (by kernel_rfl) (by simp) (AllReadyH.cons rfl (fun K hK => ?_) AllReadyH.nil)
            rw [if_pos (by rfl)]
            go_simp
            refine hK.out _ _ (hSA _ HBA.out) (fun hHeld => ?_)
            clear hK K
            try simp only [Act.put, List.setIfInBounds_toArray, List.set_cons_zero, List.set_cons_succ]
            refine wpAnyH_ready (rs := [12]) (by kernel_rfl) (by simp) (AllReadyH.cons rfl (fun K hK => ?_) AllReadyH.nil)
            refine stepApp1At edE tyEds (by rfl) _ _ (by rfl) HOI.out HSL.out (by rfl) (by rfl) HZA.out HLI.out ?_
            intro v2 Y ho2 hb2 hk2 hat2
            obtain ⟨A2, c2, hv2, _, _⟩ := ho2.form
            rw [List.length_append, List.length_singleton] at hv2
            subst hv2
            have hbA := HBA.out
            have hYg : Blk Y g 185 #[.slice (some ⟨go, 0, none⟩) (N + 1) cv] := (hbd.under hbA).below hb2 (by omega)
            have hoA := hod.below hbA
            have hYo : Own blE 189 (w.heap.size + 6) Y (.slice (some ⟨go, 0, none⟩) (N + 1) cv) (pre ++ [{ last with hi := MX }]) := hoA.keep hb2.size fun b hb => hk2 b (hoA.lt b hb).2 (Own.two hoA HOI.out (by decide) hb)
            have hYX : Blk Y Bx 43 #[iv y.at_, .slice y.A y.old.length y.c, .slice y.A' y.new.length y.c'] := (hk2 Bx (bXd.under hbA).lt hne).trans (bXd.under hbA)
            have hYX0 := hYX.cell 0
            rw [hlo] at hYX0
            obtain ⟨csY, hcsY⟩ := Own.blkOf hYo (by simp)
            have fY := hcsY.frozen (N * 4 + 2 + 0)
            have lY := hcsY.lt
            have mY : Y.cell? ⟨go, N * 4 + 2 + 0, none⟩ = some last.v0 := Own.cellAt hYo hxM (j := 2 + 0) rfl
            have hrel0 : BRel xs xe (k + 1) (pre ++ [({ last with hi := MX, A0 := A2, c0 := c2, e0 := last.e0 ++ [y] } : BlV)]) := brel_add (last := last) hr.out hg hp HXE2.out (by rw [hlo]; simpa using hnear) (by simp [BlV.b, File.Block.add, EdV.ed, File.Edit.hi, hlo, HTO.out, HMX.out]) (memGrow0 last y) (by have h1 := (hr.out.high last (by simp)).1; have h2 := HTO.out; have h3 := HMX.out; show MX ≤ 48; omega) (by simp)
            have hfin := grow0 (k := k) (xs := xs) (xe := xe) (X := X) (w := w) HN.out hgz hgw (by omega) hKd hBd hbd hgo hod hmM hMZ hold hla hbA ho2 hb2 hk2 hat2 hrel0
            refine hK.out _ _ ⟨hYg.cell 0, hYX0, hYX.cell 1, hYX.cell 2⟩ (fun hHeld => ?_)
            clear hK K
            try simp only [Act.put, List.setIfInBounds_toArray, List.set_cons_zero, List.set_cons_succ]
            refine wpAnyH_take (i := 15) (v := .pointer (some ⟨go, N * 4 + 2 + 0, none⟩)) rfl (by kernel_rfl) (by kernel_rfl) (by kernel_rfl) (fun _ _ _ h => h) (Or.inl ⟨by rfl, fun z hz => ?_⟩) hHeld ?_
            · skip
              go_simp
            try simp only [Act.put, List.setIfInBounds_toArray, List.set_cons_zero, List.set_cons_succ]
            refine wpAnyH_ready (rs := [16]) (by kernel_rfl) (by simp) (AllReadyH.cons rfl (fun K hK => ?_) AllReadyH.nil)
            rw [if_pos (by rfl)]
            go_simp
            have hF0 : (Y.setCell ⟨go, N * 4 + 2 + 0, none⟩ (.slice A2 (last.e0.length + 1) c2)).cell? ⟨g, 0, none⟩ = some (.slice (some ⟨go, 0, none⟩) (N + 1) cv) := (hYg.far (p := ⟨go, _, none⟩) (show g ≠ go by omega) _).cell 0
            have hBg : Bx ≠ go := fun e => by
              unfold Blk at hYX hcsY
              rw [e, hcsY] at hYX
              injection hYX with h9
              injection h9 with _ h9 _
              exact absurd h9 (by decide)
            have hFX := hYX.far (p := ⟨go, N * 4 + 2 + 0, none⟩) hBg (.slice A2 (last.e0.length + 1) c2)
            have hFX0 := hFX.cell 0
            rw [hlo] at hFX0
            refine hK.out _ _ ⟨hF0, hFX0, hFX.cell 1, hFX.cell 2⟩ (fun _ => ?_)
            clear hK K
            try simp only [Act.put, List.setIfInBounds_toArray, List.set_cons_zero, List.set_cons_succ]
            refine wpAnyH_done (by kernel_rfl) ?_ _
            have HFIN := Lib.hid hfin
            clear hfin
            gi_wp2_with fail
            obtain ⟨q1, q2, q3, q4, q5, q6, q7, q8⟩ := HFIN.out
            exact ⟨q1, q2, q4, q3, q5, q6, q7, q8⟩
          · rw [if_pos (by rfl)]
            go_simp
            refine hK.out _ _ (hSA _ HBA.out) (fun hHeld => ?_)
            clear hK K
            try simp only [Act.put, List.setIfInBounds_toArray, List.set_cons_zero, List.set_cons_succ]
            refine wpAnyH_ready (rs := [9]) (by kernel_rfl) (by simp) (AllReadyH.cons rfl (fun K hK => ?_) AllReadyH.nil)
            rw [if_pos (by rfl)]
            go_simp
            refine hK.out _ _ hHeld (fun _ => ?_)
            clear hK K
            try simp only [Act.put, List.setIfInBounds_toArray, List.set_cons_zero, List.set_cons_succ]
            refine wpAnyH_ready (rs := [12]) (by kernel_rfl) (by simp) (AllReadyH.cons rfl (fun K hK => ?_) AllReadyH.nil)
            refine stepApp1At edE tyEds (by rfl) _ _ (by rfl) HOI.out HSL.out (by rfl) (by rfl) HZA.out HLI.out ?_
            intro v2 Y ho2 hb2 hk2 hat2
            obtain ⟨A2, c2, hv2, _, _⟩ := ho2.form
            rw [List.length_append, List.length_singleton] at hv2
            subst hv2
            have hbA := HBA.out
            have hYg : Blk Y g 185 #[.slice (some ⟨go, 0, none⟩) (N + 1) cv] := (hbd.under hbA).below hb2 (by omega)
            have hoA := hod.below hbA
            have hYo : Own blE 189 (w.heap.size + 6) Y (.slice (some ⟨go, 0, none⟩) (N + 1) cv) (pre ++ [{ last with hi := MX }]) := hoA.keep hb2.size fun b hb => hk2 b (hoA.lt b hb).2 (Own.two hoA HOI.out (by decide) hb)
            have hYX : Blk Y Bx 43 #[iv y.at_, .slice y.A y.old.length y.c, .slice y.A' y.new.length y.c'] := (hk2 Bx (bXd.under hbA).lt hne).trans (bXd.under hbA)
            have hYX0 := hYX.cell 0
            rw [hlo] at hYX0
            obtain ⟨csY, hcsY⟩ := Own.blkOf hYo (by simp)
            have fY := hcsY.frozen (N * 4 + 2 + 0)
            have lY := hcsY.lt
            have mY : Y.cell? ⟨go, N * 4 + 2 + 0, none⟩ = some last.v0 := Own.cellAt hYo hxM (j := 2 + 0) rfl
            have hrel0 : BRel xs xe (k + 1) (pre ++ [({ last with hi := MX, A0 := A2, c0 := c2, e0 := last.e0 ++ [y] } : BlV)]) := brel_add (last := last) hr.out hg hp HXE2.out (by rw [hlo]; simpa using hnear) (by simp [BlV.b, File.Block.add, EdV.ed, File.Edit.hi, hlo, HTO.out, HMX.out]) (memGrow0 last y) (by have h1 := (hr.out.high last (by simp)).1; have h2 := HTO.out; have h3 := HMX.out; show MX ≤ 48; omega) (by simp)
            have hfin := grow0 (k := k) (xs := xs) (xe := xe) (X := X) (w := w) HN.out hgz hgw (by omega) hKd hBd hbd hgo hod hmM hMZ hold hla hbA ho2 hb2 hk2 hat2 hrel0
            refine hK.out _ _ ⟨hYg.cell 0, hYX0, hYX.cell 1, hYX.cell 2⟩ (fun hHeld => ?_)
            clear hK K
            try simp only [Act.put, List.setIfInBounds_toArray, List.set_cons_zero, List.set_cons_succ]
            refine wpAnyH_take (i := 15) (v := .pointer (some ⟨go, N * 4 + 2 + 0, none⟩)) rfl (by kernel_rfl) (by kernel_rfl) (by kernel_rfl) (fun _ _ _ h => h) (Or.inl ⟨by rfl, fun z hz => ?_⟩) hHeld ?_
            · skip
              go_simp
            try simp only [Act.put, List.setIfInBounds_toArray, List.set_cons_zero, List.set_cons_succ]
            refine wpAnyH_ready (rs := [16]) (by kernel_rfl) (by simp) (AllReadyH.cons rfl (fun K hK => ?_) AllReadyH.nil)
            rw [if_pos (by rfl)]
            go_simp
            have hF0 : (Y.setCell ⟨go, N * 4 + 2 + 0, none⟩ (.slice A2 (last.e0.length + 1) c2)).cell? ⟨g, 0, none⟩ = some (.slice (some ⟨go, 0, none⟩) (N + 1) cv) := (hYg.far (p := ⟨go, _, none⟩) (show g ≠ go by omega) _).cell 0
            have hBg : Bx ≠ go := fun e => by
              unfold Blk at hYX hcsY
              rw [e, hcsY] at hYX
              injection hYX with h9
              injection h9 with _ h9 _
              exact absurd h9 (by decide)
            have hFX := hYX.far (p := ⟨go, N * 4 + 2 + 0, none⟩) hBg (.slice A2 (last.e0.length + 1) c2)
            have hFX0 := hFX.cell 0
            rw [hlo] at hFX0
            refine hK.out _ _ ⟨hF0, hFX0, hFX.cell 1, hFX.cell 2⟩ (fun _ => ?_)
            clear hK K
            try simp only [Act.put, List.setIfInBounds_toArray, List.set_cons_zero, List.set_cons_succ]
            refine wpAnyH_done (by kernel_rfl) ?_ _
            have HFIN := Lib.hid hfin
            clear hfin
            gi_wp2_with fail
            obtain ⟨q1, q2, q3, q4, q5, q6, q7, q8⟩ := HFIN.out
            exact ⟨q1, q2, q4, q3, q5, q6, q7, q8⟩
        · have hni : ¬ (lo : Int) ≤ (last.hi : Int) := by omega
          gi_wp2_with fail
          refine wpIn_round_quiet (by kernel_rfl) (by kernel_rfl) (by kernel_rfl) (by rintro ⟨_, _, h⟩; exact h) ?_
          repeat (go_big_quiet_step (fail))
          refine wpQuiet_nil ?_
          intro _ hw'
          obtain ⟨nq, hw''⟩ := hw'
          subst hw''
          have hq : Below X.heap.size X (X.drewN nq) := ⟨rfl, rfl, rfl, Nat.le_refl _, fun _ _ => rfl⟩
          have bZ := bX.under hq
          have hbZ := hb.under hq
          have hoZ := ho.below hq
          have hiZ : Hid (Ins (w.heap.size + 6) (X.drewN nq) _) := Lib.hid (hi.out.keep (EdsK.of_below hq))
          have hBZ : Below w.heap.size w (X.drewN nq) := hB.next hq (Nat.le_refl _)
          have hKZ : KeptBut (w.heap.size + 6) g X (X.drewN nq) := KeptBut.of_below hq (by omega)
          have hzZ : w.heap.size + 5 < (X.drewN nq).heap.size := hz
          generalize X.drewN nq = Z at *
          have z0 := bZ.cell 0
          have z1 := bZ.cell 1
          have z2 := bZ.cell 2
          have zl := bZ.lt
          have y0 := hbZ.cell 0
          have yl := hbZ.lt
          have yn : ¬ g = Z.heap.size := by omega
          rw [hlo] at z0
          obtain ⟨Xs, hXs⟩ : ∃ Xs, Xs = (Z.alloc (.cells #[iv (lo : Int), iv (to_ : Int), .slice (some ⟨Z.heap.size + 1, 0, none⟩) 1 1, .slice none 0 0] 189)).alloc (.cells #[iv (lo : Int), .slice y.A y.old.length y.c, .slice y.A' y.new.length y.c'] 43) := ⟨_, rfl⟩
          have hbS : Below Z.heap.size Z Xs := by rw [hXs]; exact ((Below.refl _ Z).alloc (Nat.le_refl _) _).alloc (by simp) _
          have hGe : Blk Xs (Z.heap.size + 1) 43 #[iv (lo : Int), .slice y.A y.old.length y.c, .slice y.A' y.new.length y.c'] := by
            rw [hXs]
            exact Blk.new_ _ _ _ (by simp)
          have hoS := Lib.hid (hoZ.below hbS)
          have hzS : Hid (w.heap.size + 6 ≤ Xs.heap.size) := Lib.hid (by have := hbS.size; omega)
          have hlen : Hid (((pre ++ [last]) : List BlV).length + 1 ≤ big) := Lib.hid (by have := hr.out.many; have h9 := (List.getElem?_eq_some_iff.1 hp).1; unfold big; omega)
          rw [hXs] at hoS hzS
          gi_wp2_with (gi_at_builtin; refine wpApp1In blE tyBlocks rfl _ _ rfl hoS.out (⟨lo, to_, some ⟨Z.heap.size + 1, 0, none⟩, 1, [y], none, 0, []⟩ : BlV) rfl rfl (G := Z.heap.size + 1 + 1) (by simp) rfl hzS.out hlen.out ?_; intro v1 Y hoY hbY hkY; obtain ⟨Av1, cv1, hv1, _, _⟩ := hoY.form; (try rw [show (((pre ++ [last])) ++ [(⟨lo, to_, some ⟨Z.heap.size + 1, 0, none⟩, 1, [y], none, 0, []⟩ : BlV)]).length = (N + 2) from (by (rw [List.length_append, HNL.out]; rfl))] at hv1); subst hv1; have hY1 := (hbZ.under hbS).below (hXs ▸ hbY) (by omega); have e0 := hY1.cell 0; have ef := hY1.frozen 0; have el := hY1.lt)
          have hbY2 : Below (w.heap.size + 6) Xs Y := by rw [hXs]; exact hbY
          have hkY2 : ∀ b, b < Xs.heap.size → Value.ownBlock (.slice (some ⟨go, 0, none⟩) (N + 1) cv) ≠ some b → Y.heap[b]? = Xs.heap[b]? := by rw [hXs]; exact hkY
          have hfin := open_step (k := k) (xs := xs) (xe := xe) hgz hgw (by omega) hKZ hBZ hbZ hoZ hiZ.out hbS hGe (fun W hW => ⟨Own.ofBlk (E := edE) (xs := [y]) (by simpa [edE, hlo] using hW) (Nat.le_succ _) (by simp [maxLen]), Own.nil, fun b _ h => by cases h⟩) hoY hbY2 hkY2 (brel_open hr.out hp HXE2.out (fun pre' last' e => by (obtain ⟨_, e2⟩ := List.append_inj' e rfl; injection e2 with e2; subst e2; rw [hlo]; simp; omega)) (by simp [BlV.b, File.Block.new, EdV.ed, File.Edit.lo, File.Edit.hi, hlo, HTO.out]) (by simp) (by have := HTO.out; show to_ ≤ 48; omega) (by simp))
          rw [hsz]
          exact hfin
    · simp only [reduceIte]
      rcases hr.out.way with ⟨hk0, hrs⟩ | ⟨pre, last, hrs, hg⟩
      · subst hrs
        obtain ⟨Av, cv, rfl, _, _⟩ := ho.form
        have ew2 : IntKind.i64.wrap (((([] : List BlV).length : Nat) : Int) - 1) = -1 := rfl
        gi_wp2_with fail
        refine wpIn_round_quiet (by kernel_rfl) (by kernel_rfl) (by kernel_rfl) (by rintro ⟨_, _, h⟩; exact h) ?_
        repeat (go_big_quiet_step (fail))
        refine wpQuiet_nil ?_
        intro _ hw'
        obtain ⟨nq, hw''⟩ := hw'
        subst hw''
        have hq : Below X.heap.size X (X.drewN nq) := ⟨rfl, rfl, rfl, Nat.le_refl _, fun _ _ => rfl⟩
        have bZ := bX.under hq
        have hbZ := hb.under hq
        have hoZ := ho.below hq
        have hiZ : Hid (Ins (w.heap.size + 6) (X.drewN nq) _) := Lib.hid (hi.out.keep (EdsK.of_below hq))
        have hBZ : Below w.heap.size w (X.drewN nq) := hB.next hq (Nat.le_refl _)
        have hKZ : KeptBut (w.heap.size + 6) g X (X.drewN nq) := KeptBut.of_below hq (by omega)
        have hzZ : w.heap.size + 5 < (X.drewN nq).heap.size := hz
        generalize X.drewN nq = Z at *
        have z0 := bZ.cell 0
        have z1 := bZ.cell 1
        have z2 := bZ.cell 2
        have zl := bZ.lt
        have y0 := hbZ.cell 0
        have yl := hbZ.lt
        have yn : ¬ g = Z.heap.size := by omega
        rw [hlo] at z0
        obtain ⟨Xs, hXs⟩ : ∃ Xs, Xs = (Z.alloc (.cells #[iv (lo : Int), iv (to_ : Int), .slice none 0 0, .slice (some ⟨Z.heap.size + 1, 0, none⟩) 1 1] 189)).alloc (.cells #[iv (lo : Int), .slice y.A y.old.length y.c, .slice y.A' y.new.length y.c'] 43) := ⟨_, rfl⟩
        have hbS : Below Z.heap.size Z Xs := by rw [hXs]; exact ((Below.refl _ Z).alloc (Nat.le_refl _) _).alloc (by simp) _
        have hGe : Blk Xs (Z.heap.size + 1) 43 #[iv (lo : Int), .slice y.A y.old.length y.c, .slice y.A' y.new.length y.c'] := by
          rw [hXs]
          exact Blk.new_ _ _ _ (by simp)
        have hoS := Lib.hid (hoZ.below hbS)
        have hzS : Hid (w.heap.size + 6 ≤ Xs.heap.size) := Lib.hid (by have := hbS.size; omega)
        have hlen : Hid (([] : List BlV).length + 1 ≤ big) := Lib.hid (by have := hr.out.many; have h9 := (List.getElem?_eq_some_iff.1 hp).1; unfold big; omega)
        rw [hXs] at hoS hzS
        gi_wp2_with (gi_at_builtin; refine wpApp1In blE tyBlocks rfl _ _ rfl hoS.out (⟨lo, to_, none, 0, [], some ⟨Z.heap.size + 1, 0, none⟩, 1, [y]⟩ : BlV) rfl rfl (G := Z.heap.size + 1 + 1) (by simp) rfl hzS.out hlen.out ?_; intro v1 Y hoY hbY hkY; obtain ⟨Av1, cv1, hv1, _, _⟩ := hoY.form; (try rw [show (([]) ++ [(⟨lo, to_, none, 0, [], some ⟨Z.heap.size + 1, 0, none⟩, 1, [y]⟩ : BlV)]).length = 1 from (by (rw [List.length_append, HNL.out]; rfl))] at hv1); subst hv1; have hY1 := (hbZ.under hbS).below (hXs ▸ hbY) (by omega); have e0 := hY1.cell 0; have ef := hY1.frozen 0; have el := hY1.lt)
        have hbY2 : Below (w.heap.size + 6) Xs Y := by rw [hXs]; exact hbY
        have hkY2 : ∀ b, b < Xs.heap.size → Value.ownBlock (.slice Av 0 cv) ≠ some b → Y.heap[b]? = Xs.heap[b]? := by rw [hXs]; exact hkY
        have hfin := open_step (k := k) (xs := xs) (xe := xe) hgz hgw (by omega) hKZ hBZ hbZ hoZ hiZ.out hbS hGe (fun W hW => ⟨Own.nil, Own.ofBlk (E := edE) (xs := [y]) (by simpa [edE, hlo] using hW) (Nat.le_succ _) (by simp [maxLen]), fun b h => by cases h⟩) hoY hbY2 hkY2 (brel_open hr.out hp HXE2.out (fun pre last e => by simp at e) (by simp [BlV.b, File.Block.new, EdV.ed, File.Edit.lo, File.Edit.hi, hlo, HTO.out]) (by simp) (by have := HTO.out; show to_ ≤ 48; omega) (by simp))
        rw [hsz]
        exact hfin
      · subst hrs
        obtain ⟨go, cv, rfl, hgo, _⟩ := Own.at0 ho (by simp)
        obtain ⟨N, hN⟩ : ∃ N, N = pre.length := ⟨_, rfl⟩
        have hNl : (pre ++ [last]).length = N + 1 := by rw [hN]; simp
        rw [hNl] at hb g0 ho
        have hN50 : N + 1 ≤ 50 := by
          have h1 := hr.out.many
          have h2 := (List.getElem?_eq_some_iff.1 hp).1
          rw [hNl] at h1
          omega
        have HNL := Lib.hid hNl
        have HN := Lib.hid hN
        have hxN : (pre ++ [last])[N]? = some last := by rw [hN]; simp
        clear hNl hN
        have ew2 : IntKind.i64.wrap (N : Int) = (N : Int) := IntWalk.i64_in _ (by omega)
        have ew3 : IntKind.i64.wrap ((N : Int) + 1 - 1) = (N : Int) := by rw [show (N : Int) + 1 - 1 = (N : Int) by omega]; exact ew2
        have n0 : (0 : Int) ≤ (N : Int) := by omega
        have n1 : (N : Int) < (N : Int) + 1 := by omega
        have m1 : X.cell? ⟨go, N * 4 + 1, none⟩ = some (iv (last.hi : Int)) := Own.cellAt ho hxN rfl
        by_cases hnear : lo ≤ last.hi
        · have hni : (lo : Int) ≤ (last.hi : Int) := by omega
          gi_wp2_with fail
          refine wpIn_round_quiet (by kernel_rfl) (by kernel_rfl) (by kernel_rfl) (by rintro ⟨_, _, h⟩; exact h) ?_
          repeat (go_big_quiet_step (fail))
          refine wpQuiet_nil ?_
          intro _ hw'
          obtain ⟨nq, hw''⟩ := hw'
          subst hw''
          have hq : Below X.heap.size X (X.drewN nq) := ⟨rfl, rfl, rfl, Nat.le_refl _, fun _ _ => rfl⟩
          have bZ := bX.under hq
          have hbZ := hb.under hq
          have hoZ := ho.below hq
          have hiZ : Hid (Ins (w.heap.size + 6) (X.drewN nq) _) := Lib.hid (hi.out.keep (EdsK.of_below hq))
          have hBZ : Below w.heap.size w (X.drewN nq) := hB.next hq (Nat.le_refl _)
          have hKZ : KeptBut (w.heap.size + 6) g X (X.drewN nq) := KeptBut.of_below hq (by omega)
          have hzZ : w.heap.size + 5 < (X.drewN nq).heap.size := hz
          generalize X.drewN nq = Z at *
          have z0 := bZ.cell 0
          have z1 := bZ.cell 1
          have z2 := bZ.cell 2
          have zl := bZ.lt
          have y0 := hbZ.cell 0
          have yl := hbZ.lt
          have yn : ¬ g = Z.heap.size := by omega
          rw [hlo] at z0
          obtain ⟨MX, hMX⟩ : ∃ MX : Nat, MX = max last.hi to_ := ⟨_, rfl⟩
          have hMXi : max (last.hi : Int) (to_ : Int) = (MX : Int) := by rw [hMX]; omega
          have HMX := Lib.hid hMX
          clear hMX
          gi_wp2_with fail
          refine wpIn_round_held (S := fun z => z.cell? ⟨g, 0, none⟩ = some (.slice (some ⟨go, 0, none⟩) (N + 1) cv)) (by kernel_rfl) (by kernel_rfl) (by rintro ⟨_, _, h⟩; exact h) y0 (fun hHeld => ?_)
          have hq8 : Below Z.heap.size Z Z.drew := (Below.refl _ _).drew
          have bX8 := bZ.under hq8
          have hb8 := hbZ.under hq8
          have ho8 := hoZ.below hq8
          have hi8 : Hid (Ins (w.heap.size + 6) Z.drew (pre ++ [last])) := Lib.hid (hiZ.out.keep (EdsK.of_below hq8))
          have hB8 : Below w.heap.size w Z.drew := hBZ.next hq8 (Nat.le_refl _)
          have hK8 : KeptBut (w.heap.size + 6) g X Z.drew := hKZ.trans (KeptBut.of_below hq8 (by omega))
          have hz8 : w.heap.size + 5 < Z.drew.heap.size := hzZ
          generalize Z.drew = Z8 at *
          have m8 : Z8.cell? ⟨go, N * 4 + 1, none⟩ = some (iv (last.hi : Int)) := Own.cellAt ho8 hxN rfl
          obtain ⟨cs9, hcs9⟩ := Own.blkOf ho8 (by simp)
          have f8 := hcs9.frozen (N * 4 + 1)
          have gl8 := hcs9.lt
          refine wpAnyH_take (i := 0) (v := .slice (some ⟨go, 0, none⟩) (N + 1) cv) rfl (by kernel_rfl) (by kernel_rfl) (by kernel_rfl) (fun _ _ _ h => h) (Or.inl ⟨by rfl, fun z hz => ?_⟩) hHeld ?_
          · skip
            go_simp
          try simp only [Act.put, List.setIfInBounds_toArray, List.set_cons_zero, List.set_cons_succ]
          refine wpAnyH_take (i := 1) (v := iv (N : Int)) rfl (by kernel_rfl) (by kernel_rfl) (by kernel_rfl) (fun _ _ _ h => h) (Or.inl ⟨by rfl, fun z hz => ?_⟩) hHeld ?_
          · skip
            go_simp
          try simp only [Act.put, List.setIfInBounds_toArray, List.set_cons_zero, List.set_cons_succ]
          refine wpAnyH_take (i := 2) (v := .slice (some ⟨go, 0, none⟩) (N + 1) cv) rfl (by kernel_rfl) (by kernel_rfl) (by kernel_rfl) (fun _ _ _ h => h) (Or.inl ⟨by rfl, fun z hz => ?_⟩) hHeld ?_
          · skip
            go_simp
          try simp only [Act.put, List.setIfInBounds_toArray, List.set_cons_zero, List.set_cons_succ]
          refine wpAnyH_take (i := 3) (v := iv (N : Int)) rfl (by kernel_rfl) (by kernel_rfl) (by kernel_rfl) (fun _ _ _ h => h) (Or.inl ⟨by rfl, fun z hz => ?_⟩) hHeld ?_
          · skip
            go_simp
          try simp only [Act.put, List.setIfInBounds_toArray, List.set_cons_zero, List.set_cons_succ]
          refine wpAnyH_take (i := 4) (v := .pointer (some ⟨go, N * 4, none⟩)) rfl (by kernel_rfl) (by kernel_rfl) (by kernel_rfl) (fun _ _ _ h => h) (Or.inl ⟨by rfl, fun z hz => ?_⟩) hHeld ?_
          · skip
            go_simp
          try simp only [Act.put, List.setIfInBounds_toArray, List.set_cons_zero, List.set_cons_succ]
          refine wpAnyH_take (i := 5) (v := .pointer (some ⟨go, N * 4 + 1, none⟩)) rfl (by kernel_rfl) (by kernel_rfl) (by kernel_rfl) (fun _ _ _ h => h) (Or.inl ⟨by rfl, fun z hz => ?_⟩) hHeld ?_
          · skip
            go_simp
          try simp only [Act.put, List.setIfInBounds_toArray, List.set_cons_zero, List.set_cons_succ]
          refine wpAnyH_take (i := 7) (v := iv (to_ : Int)) rfl (by kernel_rfl) (by kernel_rfl) (by kernel_rfl) (fun _ _ _ h => h) (Or.inl ⟨by rfl, fun z hz => ?_⟩) hHeld ?_
          · skip
            go_simp
          try simp only [Act.put, List.setIfInBounds_toArray, List.set_cons_zero, List.set_cons_succ]
          refine wpAnyH_ready (rs := [6]) (by kernel_rfl) (by simp) (AllReadyH.cons rfl (fun K hK => ?_) AllReadyH.nil)
          rw [if_pos (by rfl)]
          go_simp
          refine hK.out _ _ hHeld (fun _ => ?_)
          clear hK K
          try simp only [Act.put, List.setIfInBounds_toArray, List.set_cons_zero, List.set_cons_succ]
          refine wpAnyH_take (i := 8) (v := iv (MX : Int)) rfl (by kernel_rfl) (by kernel_rfl) (by kernel_rfl) (fun _ _ _ h => h) (Or.inl ⟨by rfl, fun z hz => ?_⟩) hHeld ?_
          · skip
            go_simp
          try simp only [Act.put, List.setIfInBounds_toArray, List.set_cons_zero, List.set_cons_succ]
          refine wpAnyH_take (i := 9) (v := .pointer (some ⟨go, N * 4, none⟩)) rfl (by kernel_rfl) (by kernel_rfl) (by kernel_rfl) (fun _ _ _ h => h) (Or.inl ⟨by rfl, fun z hz => ?_⟩) hHeld ?_
          · skip
            go_simp
          try simp only [Act.put, List.setIfInBounds_toArray, List.set_cons_zero, List.set_cons_succ]
          refine wpAnyH_take (i := 10) (v := .pointer (some ⟨go, N * 4 + 1, none⟩)) rfl (by kernel_rfl) (by kernel_rfl) (by kernel_rfl) (fun _ _ _ h => h) (Or.inl ⟨by rfl, fun z hz => ?_⟩) hHeld ?_
          · skip
            go_simp
          try simp only [Act.put, List.setIfInBounds_toArray, List.set_cons_zero, List.set_cons_succ]
          refine wpAnyH_ready (rs := [11]) (by kernel_rfl) (by simp) (AllReadyH.cons rfl (fun K hK => ?_) AllReadyH.nil)
          rw [if_pos (by rfl)]
          go_simp
          obtain ⟨hK9, hB9, hb9, ho9, hi9⟩ := hi_step (h := MX) HN.out hgz hgw hgo hK8 hB8 hb8 ho8 hi8.out
          have hi9' := Lib.hid hi9
          have bX9 : Blk (Z8.setCell ⟨go, N * 4 + 1, none⟩ (iv (MX : Int))) Bx 43 #[iv y.at_, .slice y.A y.old.length y.c, .slice y.A' y.new.length y.c'] := bX8.far (p := ⟨go, N * 4 + 1, none⟩) (fun e => by
            unfold Blk at bX8 hcs9
            rw [e, hcs9] at bX8
            injection bX8 with h9
            injection h9 with _ h9 _
            exact absurd h9 (by decide)) _
          have hz9 : w.heap.size + 5 < (Z8.setCell ⟨go, N * 4 + 1, none⟩ (iv (MX : Int))).heap.size := by simpa [World.setCell] using hz8
          refine hK.out _ _ (hb9.cell 0) (fun _ => ?_)
          clear hK K hi9
          generalize Z8.setCell ⟨go, N * 4 + 1, none⟩ (iv (MX : Int)) = Z9 at *
          try simp only [Act.put, List.setIfInBounds_toArray, List.set_cons_zero, List.set_cons_succ]
          refine wpAnyH_done (by kernel_rfl) ?_ _
          have x0 := bX9.cell 0
          have x1 := bX9.cell 1
          have x2 := bX9.cell 2
          rw [hlo] at x0
          have w0 := hb9.cell 0
          gi_wp2_with fail
          have hS0 : ∀ z : World, Below Z9.heap.size Z9 z → z.cell? ⟨g, 0, none⟩ = some (.slice (some ⟨go, 0, none⟩) (N + 1) cv) ∧ z.cell? ⟨Bx, 0, none⟩ = some (iv (lo : Int)) ∧ z.cell? ⟨Bx, 1, none⟩ = some (.slice y.A y.old.length y.c) ∧ z.cell? ⟨Bx, 2, none⟩ = some (.slice y.A' y.new.length y.c') := fun z h => ⟨(hb9.under h).cell 0, by have := (bX9.under h).cell 0; rw [hlo] at this; exact this, (bX9.under h).cell 1, (bX9.under h).cell 2⟩
          refine wpIn_round_held (S := fun z => z.cell? ⟨g, 0, none⟩ = some (.slice (some ⟨go, 0, none⟩) (N + 1) cv) ∧ z.cell? ⟨Bx, 0, none⟩ = some (iv (lo : Int)) ∧ z.cell? ⟨Bx, 1, none⟩ = some (.slice y.A y.old.length y.c) ∧ z.cell? ⟨Bx, 2, none⟩ = some (.slice y.A' y.new.length y.c')) (by kernel_rfl) (by kernel_rfl) (by rintro ⟨_, _, h⟩; exact h) (hS0 _ (Below.refl _ _).drew) (fun hHeld => ?_)
          have hqd : Below Z9.heap.size Z9 Z9.drew := (Below.refl _ _).drew
          have bXd := bX9.under hqd
          have hbd := hb9.under hqd
          have hod := ho9.below hqd
          have hid : Hid (Ins (w.heap.size + 6) Z9.drew (pre ++ [{ last with hi := MX }])) := Lib.hid (hi9'.out.keep (EdsK.of_below hqd))
          have hBd : Below w.heap.size w Z9.drew := hB9.next hqd (Nat.le_refl _)
          have hKd : KeptBut (w.heap.size + 6) g X Z9.drew := hK9.trans (KeptBut.of_below hqd (by omega))
          have hzd : w.heap.size + 5 < Z9.drew.heap.size := hz9
          generalize Z9.drew = Zd at *
          obtain ⟨M, hmM, hMZ, hold, hla⟩ := hid.out _ _ rfl
          have hxM : (pre ++ [({ last with hi := MX } : BlV)])[N]? = some { last with hi := MX } := by rw [HN.out]; simp
          have mI : Zd.cell? ⟨go, N * 4 + 2 + 1, none⟩ = some last.v1 := Own.cellAt hod hxM (j := 2 + 1) rfl
          obtain ⟨csd, hcsd⟩ := Own.blkOf hod (by simp)
          have gld := hcsd.lt
          have hlI : Hid (last.e1.length + 1 ≤ big) := Lib.hid (by have := (hr.out.high last (by simp)).2; have h9 := (List.getElem?_eq_some_iff.1 hp).1; unfold big; omega)
          have HLI := hlI
          refine wpAnyH_take (i := 0) (v := .slice (some ⟨go, 0, none⟩) (N + 1) cv) rfl (by kernel_rfl) (by kernel_rfl) (by kernel_rfl) (fun _ _ _ h => h) (Or.inl ⟨by rfl, fun z hz => ?_⟩) hHeld ?_
          · obtain ⟨f0, f1, f2, f3⟩ := hz
            go_simp
          try simp only [Act.put, List.setIfInBounds_toArray, List.set_cons_zero, List.set_cons_succ]
          refine wpAnyH_take (i := 1) (v := iv (N : Int)) rfl (by kernel_rfl) (by kernel_rfl) (by kernel_rfl) (fun _ _ _ h => h) (Or.inl ⟨by rfl, fun z hz => ?_⟩) hHeld ?_
          · skip
            go_simp
          try simp only [Act.put, List.setIfInBounds_toArray, List.set_cons_zero, List.set_cons_succ]
          refine wpAnyH_take (i := 2) (v := iv 1) rfl (by kernel_rfl) (by kernel_rfl) (by kernel_rfl) (fun _ _ _ h => h) (Or.inl ⟨by rfl, fun z hz => ?_⟩) hHeld ?_
          · skip
            go_simp
          try simp only [Act.put, List.setIfInBounds_toArray, List.set_cons_zero, List.set_cons_succ]
          refine wpAnyH_take (i := 3) (v := .slice (some ⟨go, 0, none⟩) (N + 1) cv) rfl (by kernel_rfl) (by kernel_rfl) (by kernel_rfl) (fun _ _ _ h => h) (Or.inl ⟨by rfl, fun z hz => ?_⟩) hHeld ?_
          · obtain ⟨f0, f1, f2, f3⟩ := hz
            go_simp
          try simp only [Act.put, List.setIfInBounds_toArray, List.set_cons_zero, List.set_cons_succ]
          refine wpAnyH_take (i := 4) (v := iv (N : Int)) rfl (by kernel_rfl) (by kernel_rfl) (by kernel_rfl) (fun _ _ _ h => h) (Or.inl ⟨by rfl, fun z hz => ?_⟩) hHeld ?_
          · skip
            go_simp
          try simp only [Act.put, List.setIfInBounds_toArray, List.set_cons_zero, List.set_cons_succ]
          refine wpAnyH_take (i := 5) (v := iv 1) rfl (by kernel_rfl) (by kernel_rfl) (by kernel_rfl) (fun _ _ _ h => h) (Or.inl ⟨by rfl, fun z hz => ?_⟩) hHeld ?_
          · skip
            go_simp
          try simp only [Act.put, List.setIfInBounds_toArray, List.set_cons_zero, List.set_cons_succ]
          refine wpAnyH_take (i := 6) (v := .pointer (some ⟨go, N * 4, none⟩)) rfl (by kernel_rfl) (by kernel_rfl) (by kernel_rfl) (fun _ _ _ h => h) (Or.inl ⟨by rfl, fun z hz => ?_⟩) hHeld ?_
          · skip
            go_simp
          try simp only [Act.put, List.setIfInBounds_toArray, List.set_cons_zero, List.set_cons_succ]
          refine wpAnyH_take (i := 7) (v := .pointer (some ⟨go, N * 4 + 2, none⟩)) rfl (by kernel_rfl) (by kernel_rfl) (by kernel_rfl) (fun _ _ _ h => h) (Or.inl ⟨by rfl, fun z hz => ?_⟩) hHeld ?_
          · skip
            go_simp
          try simp only [Act.put, List.setIfInBounds_toArray, List.set_cons_zero, List.set_cons_succ]
          refine wpAnyH_take (i := 8) (v := .pointer (some ⟨go, N * 4 + 2 + 1, none⟩)) rfl (by kernel_rfl) (by kernel_rfl) (by kernel_rfl) (fun _ _ _ h => h) (Or.inl ⟨by rfl, fun z hz => ?_⟩) hHeld ?_
          · skip
            go_simp
          try simp only [Act.put, List.setIfInBounds_toArray, List.set_cons_zero, List.set_cons_succ]
          refine wpAnyH_take (i := 10) (v := .agg #[iv (lo : Int), .slice y.A y.old.length y.c, .slice y.A' y.new.length y.c']) rfl (by kernel_rfl) (by kernel_rfl) (by kernel_rfl) (fun _ _ _ h => h) (Or.inl ⟨by rfl, fun z hz => ?_⟩) hHeld ?_
          · obtain ⟨f0, f1, f2, f3⟩ := hz
            go_simp
          try simp only [Act.put, List.setIfInBounds_toArray, List.set_cons_zero, List.set_cons_succ]
          refine wpAnyH_take (i := 13) (v := .pointer (some ⟨go, N * 4, none⟩)) rfl (by kernel_rfl) (by kernel_rfl) (by kernel_rfl) (fun _ _ _ h => h) (Or.inl ⟨by rfl, fun z hz => ?_⟩) hHeld ?_
          · skip
            go_simp
          try simp only [Act.put, List.setIfInBounds_toArray, List.set_cons_zero, List.set_cons_succ]
          refine wpAnyH_take (i := 14) (v := .pointer (some ⟨go, N * 4 + 2, none⟩)) rfl (by kernel_rfl) (by kernel_rfl) (by kernel_rfl) (fun _ _ _ h => h) (Or.inl ⟨by rfl, fun z hz => ?_⟩) hHeld ?_
          · skip
            go_simp
          try simp only [Act.put, List.setIfInBounds_toArray, List.set_cons_zero, List.set_cons_succ]
          have HBA : Hid (Below Zd.heap.size Zd (Zd.alloc (.cells #[iv (lo : Int), .slice y.A y.old.length y.c, .slice y.A' y.new.length y.c'] 43))) := Lib.hid ((Below.refl _ _).alloc (Nat.le_refl _) _)
          have hSA : ∀ z : World, Below Zd.heap.size Zd z → z.cell? ⟨g, 0, none⟩ = some (.slice (some ⟨go, 0, none⟩) (N + 1) cv) ∧ z.cell? ⟨Bx, 0, none⟩ = some (iv (lo : Int)) ∧ z.cell? ⟨Bx, 1, none⟩ = some (.slice y.A y.old.length y.c) ∧ z.cell? ⟨Bx, 2, none⟩ = some (.slice y.A' y.new.length y.c') := fun z h => ⟨(hbd.under h).cell 0, by have := (bXd.under h).cell 0; rw [hlo] at this; exact this, (bXd.under h).cell 1, (bXd.under h).cell 2⟩
          have HSL : Hid (Sl edE (Zd.alloc (.cells #[iv (lo : Int), .slice y.A y.old.length y.c, .slice y.A' y.new.length y.c'] 43)) (some ⟨Zd.heap.size, 0, none⟩) [y]) := Lib.hid (Sl.fresh edE Zd 43 #[iv (lo : Int), .slice y.A y.old.length y.c, .slice y.A' y.new.length y.c'] [y] (by simp [edE, hlo]) (by simp [maxLen]))
          have HOI : Hid (Own edE 43 M (Zd.alloc (.cells #[iv (lo : Int), .slice y.A y.old.length y.c, .slice y.A' y.new.length y.c'] 43)) last.v1 last.e1) := Lib.hid (Own.below hla.o1 HBA.out)
          have HZA : Hid (M ≤ (Zd.alloc (.cells #[iv (lo : Int), .slice y.A y.old.length y.c, .slice y.A' y.new.length y.c'] 43)).heap.size) := Lib.hid (Nat.le_trans hMZ HBA.out.size)
          have mA : (Zd.alloc (.cells #[iv (lo : Int), .slice y.A y.old.length y.c, .slice y.A' y.new.length y.c'] 43)).cell? ⟨go, N * 4 + 2 + 1, none⟩ = some last.v1 := (HBA.out.cell (p := ⟨go, _, none⟩) gld).trans mI
          have hne : last.v1.ownBlock ≠ some Bx := fun e => (hXB last (by simp)).2 e
          refine wpAnyH_ready (rs := [9, 11]) (by kernel_rfl) (by simp) (AllReadyH.cons rfl (fun K hK => ?_) (AllReadyH.cons rfl (fun K hK => ?_) AllReadyH.nil))
          · rw [if_pos (by rfl)]
            go_simp
            refine hK.out _ _ hHeld (fun _ => ?_)
            clear hK K
            try simp only [Act.put, List.setIfInBounds_toArray, List.set_cons_zero, List.set_cons_succ]
            refine wpAnyH_ready (rs := [11]) (by kernel_rfl) (by simp) (AllReadyH.cons rfl (fun K hK => ?_) AllReadyH.nil)
            rw [if_pos (by rfl)]
            go_simp
            refine hK.out _ _ (hSA _ HBA.out) (fun hHeld => ?_)
            clear hK K
            try simp only [Act.put, List.setIfInBounds_toArray, List.set_cons_zero, List.set_cons_succ]
            refine wpAnyH_ready (rs := [12]) (by kernel_rfl) (by simp) (AllReadyH.cons rfl (fun K hK => ?_) AllReadyH.nil)
            refine stepApp1At edE tyEds (by rfl) _ _ (by rfl) HOI.out HSL.out (by rfl) (by rfl) HZA.out HLI.out ?_
            intro v2 Y ho2 hb2 hk2 hat2
            obtain ⟨A2, c2, hv2, _, _⟩ := ho2.form
            rw [List.length_append, List.length_singleton] at hv2
            subst hv2
            have hbA := HBA.out
            have hYg : Blk Y g 185 #[.slice (some ⟨go, 0, none⟩) (N + 1) cv] := (hbd.under hbA).below hb2 (by omega)
            have hoA := hod.below hbA
            have hYo : Own blE 189 (w.heap.size + 6) Y (.slice (some ⟨go, 0, none⟩) (N + 1) cv) (pre ++ [{ last with hi := MX }]) := hoA.keep hb2.size fun b hb => hk2 b (hoA.lt b hb).2 (Own.two hoA HOI.out (by decide) hb)
            have hYX : Blk Y Bx 43 #[iv y.at_, .slice y.A y.old.length y.c, .slice y.A' y.new.length y.c'] := (hk2 Bx (bXd.under hbA).lt hne).trans (bXd.under hbA)
            have hYX0 := hYX.cell 0
            rw [hlo] at hYX0
            obtain ⟨csY, hcsY⟩ := Own.blkOf hYo (by simp)
            have fY := hcsY.frozen (N * 4 + 2 + 1)
            have lY := hcsY.lt
            have mY : Y.cell? ⟨go, N * 4 + 2 + 1, none⟩ = some last.v1 := Own.cellAt hYo hxM (j := 2 + 1) rfl
            have hrel0 : BRel xs xe (k + 1) (pre ++ [({ last with hi := MX, A1 := A2, c1 := c2, e1 := last.e1 ++ [y] } : BlV)]) := brel_add (last := last) hr.out hg hp HXE2.out (by rw [hlo]; simpa using hnear) (by simp [BlV.b, File.Block.add, EdV.ed, File.Edit.hi, hlo, HTO.out, HMX.out]) (memGrow1 last y) (by have h1 := (hr.out.high last (by simp)).1; have h2 := HTO.out; have h3 := HMX.out; show MX ≤ 48; omega) (by simp)
            have hfin := grow1 (k := k) (xs := xs) (xe := xe) (X := X) (w := w) HN.out hgz hgw (by omega) hKd hBd hbd hgo hod hmM hMZ hold hla hbA ho2 hb2 hk2 hat2 hrel0
            refine hK.out _ _ ⟨hYg.cell 0, hYX0, hYX.cell 1, hYX.cell 2⟩ (fun hHeld => ?_)
            clear hK K
            try simp only [Act.put, List.setIfInBounds_toArray, List.set_cons_zero, List.set_cons_succ]
            refine wpAnyH_take (i := 15) (v := .pointer (some ⟨go, N * 4 + 2 + 1, none⟩)) rfl (by kernel_rfl) (by kernel_rfl) (by kernel_rfl) (fun _ _ _ h => h) (Or.inl ⟨by rfl, fun z hz => ?_⟩) hHeld ?_
            · skip
              go_simp
            try simp only [Act.put, List.setIfInBounds_toArray, List.set_cons_zero, List.set_cons_succ]
            refine wpAnyH_ready (rs := [16]) (by kernel_rfl) (by simp) (AllReadyH.cons rfl (fun K hK => ?_) AllReadyH.nil)
            rw [if_pos (by rfl)]
            go_simp
            have hF0 : (Y.setCell ⟨go, N * 4 + 2 + 1, none⟩ (.slice A2 (last.e1.length + 1) c2)).cell? ⟨g, 0, none⟩ = some (.slice (some ⟨go, 0, none⟩) (N + 1) cv) := (hYg.far (p := ⟨go, _, none⟩) (show g ≠ go by omega) _).cell 0
            have hBg : Bx ≠ go := fun e => by
              unfold Blk at hYX hcsY
              rw [e, hcsY] at hYX
              injection hYX with h9
              injection h9 with _ h9 _
              exact absurd h9 (by decide)
            have hFX := hYX.far (p := ⟨go, N * 4 + 2 + 1, none⟩) hBg (.slice A2 (last.e1.length + 1) c2)
            have hFX0 := hFX.cell 0
            rw [hlo] at hFX0
            refine hK.out _ _ ⟨hF0, hFX0, hFX.cell 1, hFX.cell 2⟩ (fun _ => ?_)
            clear hK K
            try simp only [Act.put, List.setIfInBounds_toArray, List.set_cons_zero, List.set_cons_succ]
            refine wpAnyH_done (by kernel_rfl) ?_ _
            have HFIN := Lib.hid hfin
            clear hfin
            gi_wp2_with fail
            obtain ⟨q1, q2, q3, q4, q5, q6, q7, q8⟩ := HFIN.out
            exact ⟨q1, q2, q4, q3, q5, q6, q7, q8⟩
          · rw [if_pos (by rfl)]
            go_simp
            refine hK.out _ _ (hSA _ HBA.out) (fun hHeld => ?_)
            clear hK K
            try simp only [Act.put, List.setIfInBounds_toArray, List.set_cons_zero, List.set_cons_succ]
            refine wpAnyH_ready (rs := [9]) (by kernel_rfl) (by simp) (AllReadyH.cons rfl (fun K hK => ?_) AllReadyH.nil)
            rw [if_pos (by rfl)]
            go_simp
            refine hK.out _ _ hHeld (fun _ => ?_)
            clear hK K
            try simp only [Act.put, List.setIfInBounds_toArray, List.set_cons_zero, List.set_cons_succ]
            refine wpAnyH_ready (rs := [12]) (by kernel_rfl) (by simp) (AllReadyH.cons rfl (fun K hK => ?_) AllReadyH.nil)
            refine stepApp1At edE tyEds (by rfl) _ _ (by rfl) HOI.out HSL.out (by rfl) (by rfl) HZA.out HLI.out ?_
            intro v2 Y ho2 hb2 hk2 hat2
            obtain ⟨A2, c2, hv2, _, _⟩ := ho2.form
            rw [List.length_append, List.length_singleton] at hv2
            subst hv2
            have hbA := HBA.out
            have hYg : Blk Y g 185 #[.slice (some ⟨go, 0, none⟩) (N + 1) cv] := (hbd.under hbA).below hb2 (by omega)
            have hoA := hod.below hbA
            have hYo : Own blE 189 (w.heap.size + 6) Y (.slice (some ⟨go, 0, none⟩) (N + 1) cv) (pre ++ [{ last with hi := MX }]) := hoA.keep hb2.size fun b hb => hk2 b (hoA.lt b hb).2 (Own.two hoA HOI.out (by decide) hb)
            have hYX : Blk Y Bx 43 #[iv y.at_, .slice y.A y.old.length y.c, .slice y.A' y.new.length y.c'] := (hk2 Bx (bXd.under hbA).lt hne).trans (bXd.under hbA)
            have hYX0 := hYX.cell 0
            rw [hlo] at hYX0
            obtain ⟨csY, hcsY⟩ := Own.blkOf hYo (by simp)
            have fY := hcsY.frozen (N * 4 + 2 + 1)
            have lY := hcsY.lt
            have mY : Y.cell? ⟨go, N * 4 + 2 + 1, none⟩ = some last.v1 := Own.cellAt hYo hxM (j := 2 + 1) rfl
            have hrel0 : BRel xs xe (k + 1) (pre ++ [({ last with hi := MX, A1 := A2, c1 := c2, e1 := last.e1 ++ [y] } : BlV)]) := brel_add (last := last) hr.out hg hp HXE2.out (by rw [hlo]; simpa using hnear) (by simp [BlV.b, File.Block.add, EdV.ed, File.Edit.hi, hlo, HTO.out, HMX.out]) (memGrow1 last y) (by have h1 := (hr.out.high last (by simp)).1; have h2 := HTO.out; have h3 := HMX.out; show MX ≤ 48; omega) (by simp)
            have hfin := grow1 (k := k) (xs := xs) (xe := xe) (X := X) (w := w) HN.out hgz hgw (by omega) hKd hBd hbd hgo hod hmM hMZ hold hla hbA ho2 hb2 hk2 hat2 hrel0
            refine hK.out _ _ ⟨hYg.cell 0, hYX0, hYX.cell 1, hYX.cell 2⟩ (fun hHeld => ?_)
            clear hK K
            try simp only [Act.put, List.setIfInBounds_toArray, List.set_cons_zero, List.set_cons_succ]
            refine wpAnyH_take (i := 15) (v := .pointer (some ⟨go, N * 4 + 2 + 1, none⟩)) rfl (by kernel_rfl) (by kernel_rfl) (by kernel_rfl) (fun _ _ _ h => h) (Or.inl ⟨by rfl, fun z hz => ?_⟩) hHeld ?_
            · skip
              go_simp
            try simp only [Act.put, List.setIfInBounds_toArray, List.set_cons_zero, List.set_cons_succ]
            refine wpAnyH_ready (rs := [16]) (by kernel_rfl) (by simp) (AllReadyH.cons rfl (fun K hK => ?_) AllReadyH.nil)
            rw [if_pos (by rfl)]
            go_simp
            have hF0 : (Y.setCell ⟨go, N * 4 + 2 + 1, none⟩ (.slice A2 (last.e1.length + 1) c2)).cell? ⟨g, 0, none⟩ = some (.slice (some ⟨go, 0, none⟩) (N + 1) cv) := (hYg.far (p := ⟨go, _, none⟩) (show g ≠ go by omega) _).cell 0
            have hBg : Bx ≠ go := fun e => by
              unfold Blk at hYX hcsY
              rw [e, hcsY] at hYX
              injection hYX with h9
              injection h9 with _ h9 _
              exact absurd h9 (by decide)
            have hFX := hYX.far (p := ⟨go, N * 4 + 2 + 1, none⟩) hBg (.slice A2 (last.e1.length + 1) c2)
            have hFX0 := hFX.cell 0
            rw [hlo] at hFX0
            refine hK.out _ _ ⟨hF0, hFX0, hFX.cell 1, hFX.cell 2⟩ (fun _ => ?_)
            clear hK K
            try simp only [Act.put, List.setIfInBounds_toArray, List.set_cons_zero, List.set_cons_succ]
            refine wpAnyH_done (by kernel_rfl) ?_ _
            have HFIN := Lib.hid hfin
            clear hfin
            gi_wp2_with fail
            obtain ⟨q1, q2, q3, q4, q5, q6, q7, q8⟩ := HFIN.out
            exact ⟨q1, q2, q4, q3, q5, q6, q7, q8⟩
        · have hni : ¬ (lo : Int) ≤ (last.hi : Int) := by omega
          gi_wp2_with fail
          refine wpIn_round_quiet (by kernel_rfl) (by kernel_rfl) (by kernel_rfl) (by rintro ⟨_, _, h⟩; exact h) ?_
          repeat (go_big_quiet_step (fail))
          refine wpQuiet_nil ?_
          intro _ hw'
          obtain ⟨nq, hw''⟩ := hw'
          subst hw''
          have hq : Below X.heap.size X (X.drewN nq) := ⟨rfl, rfl, rfl, Nat.le_refl _, fun _ _ => rfl⟩
          have bZ := bX.under hq
          have hbZ := hb.under hq
          have hoZ := ho.below hq
          have hiZ : Hid (Ins (w.heap.size + 6) (X.drewN nq) _) := Lib.hid (hi.out.keep (EdsK.of_below hq))
          have hBZ : Below w.heap.size w (X.drewN nq) := hB.next hq (Nat.le_refl _)
          have hKZ : KeptBut (w.heap.size + 6) g X (X.drewN nq) := KeptBut.of_below hq (by omega)
          have hzZ : w.heap.size + 5 < (X.drewN nq).heap.size := hz
          generalize X.drewN nq = Z at *
          have z0 := bZ.cell 0
          have z1 := bZ.cell 1
          have z2 := bZ.cell 2
          have zl := bZ.lt
          have y0 := hbZ.cell 0
          have yl := hbZ.lt
          have yn : ¬ g = Z.heap.size := by omega
          rw [hlo] at z0
          obtain ⟨Xs, hXs⟩ : ∃ Xs, Xs = (Z.alloc (.cells #[iv (lo : Int), iv (to_ : Int), .slice none 0 0, .slice (some ⟨Z.heap.size + 1, 0, none⟩) 1 1] 189)).alloc (.cells #[iv (lo : Int), .slice y.A y.old.length y.c, .slice y.A' y.new.length y.c'] 43) := ⟨_, rfl⟩
          have hbS : Below Z.heap.size Z Xs := by rw [hXs]; exact ((Below.refl _ Z).alloc (Nat.le_refl _) _).alloc (by simp) _
          have hGe : Blk Xs (Z.heap.size + 1) 43 #[iv (lo : Int), .slice y.A y.old.length y.c, .slice y.A' y.new.length y.c'] := by
            rw [hXs]
            exact Blk.new_ _ _ _ (by simp)
          have hoS := Lib.hid (hoZ.below hbS)
          have hzS : Hid (w.heap.size + 6 ≤ Xs.heap.size) := Lib.hid (by have := hbS.size; omega)
          have hlen : Hid (((pre ++ [last]) : List BlV).length + 1 ≤ big) := Lib.hid (by have := hr.out.many; have h9 := (List.getElem?_eq_some_iff.1 hp).1; unfold big; omega)
          rw [hXs] at hoS hzS
          gi_wp2_with (gi_at_builtin; refine wpApp1In blE tyBlocks rfl _ _ rfl hoS.out (⟨lo, to_, none, 0, [], some ⟨Z.heap.size + 1, 0, none⟩, 1, [y]⟩ : BlV) rfl rfl (G := Z.heap.size + 1 + 1) (by simp) rfl hzS.out hlen.out ?_; intro v1 Y hoY hbY hkY; obtain ⟨Av1, cv1, hv1, _, _⟩ := hoY.form; (try rw [show (((pre ++ [last])) ++ [(⟨lo, to_, none, 0, [], some ⟨Z.heap.size + 1, 0, none⟩, 1, [y]⟩ : BlV)]).length = (N + 2) from (by (rw [List.length_append, HNL.out]; rfl))] at hv1); subst hv1; have hY1 := (hbZ.under hbS).below (hXs ▸ hbY) (by omega); have e0 := hY1.cell 0; have ef := hY1.frozen 0; have el := hY1.lt)
          have hbY2 : Below (w.heap.size + 6) Xs Y := by rw [hXs]; exact hbY
          have hkY2 : ∀ b, b < Xs.heap.size → Value.ownBlock (.slice (some ⟨go, 0, none⟩) (N + 1) cv) ≠ some b → Y.heap[b]? = Xs.heap[b]? := by rw [hXs]; exact hkY
          have hfin := open_step (k := k) (xs := xs) (xe := xe) hgz hgw (by omega) hKZ hBZ hbZ hoZ hiZ.out hbS hGe (fun W hW => ⟨Own.nil, Own.ofBlk (E := edE) (xs := [y]) (by simpa [edE, hlo] using hW) (Nat.le_succ _) (by simp [maxLen]), fun b h => by cases h⟩) hoY hbY2 hkY2 (brel_open hr.out hp HXE2.out (fun pre' last' e => by (obtain ⟨_, e2⟩ := List.append_inj' e rfl; injection e2 with e2; subst e2; rw [hlo]; simp; omega)) (by simp [BlV.b, File.Block.new, EdV.ed, File.Edit.lo, File.Edit.hi, hlo, HTO.out]) (by simp) (by have := HTO.out; show to_ ≤ 48; omega) (by simp))
          rw [hsz]
          exact hfin
  case done =>
    rintro W ⟨v, rs, hb, ho, hr, hi, hB⟩ hD
    have g0 := hb.cell 0
    have gl := hb.lt
    have hoi := hi.out.old
    have hXL : xe.length = xs.length := by rw [HXE2.out, List.length_map]
    have hbl : rs.map BlV.b = File.blocks (vs0.map EdV.ed) (vs1.map EdV.ed) := by
      unfold File.blocks
      rw [← HXE.out, ← HXE2.out]
      rcases hr.out.way with ⟨h1, rfl⟩ | ⟨pre, last, rfl, h1⟩
      · have : xe = [] := List.eq_nil_of_length_eq_zero (by omega)
        rw [this]
        rfl
      · rw [← h1, List.drop_of_length_le (by omega)]
        simp [File.grow]
    have hmm : ∀ r ∈ rs, ∀ x, x ∈ r.e0 ∨ x ∈ r.e1 → x ∈ vs0 ∨ x ∈ vs1 := fun r hr' x hx => by
      obtain ⟨p, hp, rfl⟩ := hr.out.mem r hr' x hx
      exact HMEM.out p hp
    have hput : ∀ b, b ≠ W0.heap.size → (W.putObj W0.heap.size (.deferred none)).heap[b]? = W.heap[b]? := fun b hb => World.putObj_heap_other hb
    gi_wp2
    refine ⟨by simp, .inl ⟨_, _, rfl, run_takeDeferred hD, ?_⟩⟩
    refine ⟨_, results_tmp rfl _ _ _, v, rs, rfl, (ho.keep (by simp) fun b hb => hput b (by have := (ho.lt b hb).1; omega)).base (by omega), hbl, fun r hr' => ⟨((hoi r hr').o0.keep (by simp) fun b hb => hput b (by have := ((hoi r hr').o0.lt b hb).1; omega)).base (by omega), ((hoi r hr').o1.keep (by simp) fun b hb => hput b (by have := ((hoi r hr').o1.lt b hb).1; omega)).base (by omega), hmm r hr'⟩, hB.grown (grown_putObj _ _ _) hB.size fun j e => by cases e; omega⟩
end Fl
end Go.Proofs.YtkmcacgeecfjgaaGreatDoor
end
section
namespace Go.Proofs.YtkmcacgeecfjgaaGreatDoor
namespace Fl
open Go.RowKit Go.Shelf
set_option maxRecDepth 100000
theorem take_ne' {α : Type} {l l' : List α} {k : Nat} {p q : α} (hp : l[k]? = some p) (hq : l'[k]? = some q) (h : p ≠ q) : l ≠ l' := by
  rintro rfl
  rw [hp] at hq
  exact h (Option.some.inj hq)
set_option maxHeartbeats 1000000 in
theorem equalS (A : Option Addr) (xs : List ByteArray) (c : Nat) (A' : Option Addr) (ys : List ByteArray) (c' : Nat) (w : World) (hm : xs.length ≤ big) (hs : Sl strE w A xs) (hm' : ys.length ≤ big) (hs' : Sl strE w A' ys) :
    Calls Tryz.prog 45 #[.slice A xs.length c, .slice A' ys.length c'] w fun e w' => e = .returned (.bool (decide (xs = ys))) ∧ Below w.heap.size w w' := by
  unfold big at hm hm'
  by_cases hl : xs.length = ys.length
  · have hl' : ((xs.length : Int) != (ys.length : Int)) = false := by simp [hl]
    have HL := Lib.hid hl
    clear hl
    go_enter Tryz.func45, Tryz.ntmps45
    go_wp2
    go_loopw [5, 13] (fun _ i wr => ∃ (k : Nat), k ≤ xs.length ∧ i = iv k ∧ Hid (xs.take k = ys.take k) ∧ Below w.heap.size w wr) (fun _ i _ => xs.length - (intOf i).toNat)
    case atStart => exact ⟨0, by omega, rfl, rfl, Below.refl _ _⟩
    case round =>
      obtain ⟨k, hk, rfl, hf, hbw⟩ := hrel
      by_cases hlt : k < xs.length
      · obtain ⟨b, off, p, rfl, hb, hp, hp0⟩ := Sl.atS (hs.below hbw) hlt
        obtain ⟨b', off', q, rfl, hb', hq, hq0⟩ := Sl.atS (hs'.below hbw) (by have := HL.out; omega : k < ys.length)
        have hly : (k : Int) < (ys.length : Int) := by have := HL.out; omega
        have hlx : (k : Int) < (xs.length : Int) := by omega
        have HP := Lib.hid hp
        have HQ := Lib.hid hq
        clear hp hq hs hs'
        have hsq := str_eq p q
        by_cases hpq : p = q
        · rw [decide_eq_true hpq] at hsq
          have HPQ := Lib.hid hpq
          clear hpq
          go_wp2
          go_quiet (fail)
          have hqd : Below w.heap.size w (wr.drewN nq) := ⟨hbw.os, hbw.tape, hbw.output, hbw.size, hbw.block⟩
          generalize wr.drewN nq = wq at *
          go_wp2
          go_roundw
          case rel => exact ⟨k + 1, by omega, by go_num, by
            show xs.take (k + 1) = ys.take (k + 1)
            rw [List.take_add_one, List.take_add_one, HP.out, HQ.out, HPQ.out, hf.out], hqd⟩
          case measure => simp [intOf]; omega
        · rw [decide_eq_false hpq] at hsq
          have HPQ := Lib.hid hpq
          clear hpq
          go_wp2
          go_quiet (fail)
          have hqd : Below w.heap.size w (wr.drewN nq) := ⟨hbw.os, hbw.tape, hbw.output, hbw.size, hbw.block⟩
          generalize wr.drewN nq = wq at *
          go_wp2
          go_ret
          exact ⟨ret_eq (by rw [decide_eq_false (take_ne' HP.out HQ.out HPQ.out)]; rfl), hqd⟩
      · have he : xs = ys := by
          have := hf.out
          rwa [List.take_of_length_le (by omega), List.take_of_length_le (by have := HL.out; omega)] at this
        have HE := Lib.hid he
        clear he
        go_wp2
        go_ret
        exact ⟨ret_eq (by rw [decide_eq_true HE.out]; rfl), (by first | exact hbw | exact hbw.drew)⟩
  · have hl' : ((xs.length : Int) != (ys.length : Int)) = true := by simp; omega
    go_enter Tryz.func45, Tryz.ntmps45
    go_wp2
    go_ret
    exact ⟨ret_eq (by rw [decide_eq_false (fun h => hl (by rw [h]))]; rfl), Below.refl _ _⟩
end Fl
end Go.Proofs.YtkmcacgeecfjgaaGreatDoor
end
