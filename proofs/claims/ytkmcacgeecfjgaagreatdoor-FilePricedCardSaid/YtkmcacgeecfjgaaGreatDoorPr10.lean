/- FilePriced holds: each price list and that with one rule more, kept as lines, differ by one line; the lines of the shortest list are common with those of the whole list. No condition. -/
import Derived.WalkKit
import Derived.WalkSpells
import Derived.WalkLawsBesides
import Derived.WalkSmall
import Derived.Lib.Hide
import Derived.Laws.OwnMore
import Derived.Laws.CopyOwn
import Derived.Deep.Draws
import Derived.Laws.AppendOwnNone
import Derived.Test.YtkmcacgeecfjgaaGreatDoorProg
import Derived.Outline
import Derived.BigQuiet
import Derived.Deep.QuietTactic
import Derived.Lib.OthersKept
import Derived.Laws.EntriesVeiled
import Derived.Shelf.Strings.Builder1
import Derived.Shelf.LaysM
import Derived.Shelf.Strconv.Itoa3
import Derived.Orders
import Derived.RegionTactic
import Derived.BigRegion
import Derived.Deep.DeepCutAuto
import Derived.Maps.OwnRows
import Derived.Maps.GroupsBeside
import Derived.Deep.RegionHeld3
import Derived.Lib.SliceRun
import Derived.RangeFuncNested
import Derived.RangeFuncBound
import Derived.RangeFuncCalls
import Derived.RangeFuncLeaves
import Derived.Shelf.Abstract
import Derived.Shelf.RegionOpen
import Derived.OwnWalkIn
import Derived.TacticsInMore
import Derived.LoopNIn
import Derived.LoopIn
import Derived.Sort.QuietIn
import Derived.Deep.Quiet
import Derived.Maps.AppendAt
import Derived.Test.YtkmcacgeecfjgaaGreatDoorCards
import Derived.Test.YtkmcacgeecfjgaaGreatDoorTie
import Derived.ProofKit
import Derived.Deep.DeepHandedRow
import Derived.Lib.LaidTab
import Derived.Stop.LaidErr
import Derived.ChangeSame
import Derived.RowKit3
import Derived.ReadAgain
import Derived.OpenShut
import Derived.ChangeSlices
import Derived.Shelf.Bits.Mul64
import Derived.ArgAppend
import Derived.WalkMore
import Derived.Laws.BytesArg
import Derived.Laws.IdiomStrings
import Derived.Shelf.Spec.SlicesInsert
import Derived.Shelf.Spec.SlicesInsertGrow
import Derived.Deep.RegionLaw
import Derived.Maps.Own
import Derived.Maps.OwnOps
import Derived.Maps.OwnSet
import Derived.ChangeKeysEq
import Derived.Test.YtkmcacgeecfjgaaGreatDoorPr9
set_option linter.unusedVariables false
set_option linter.unusedSimpArgs false
section
namespace Go.Proofs.YtkmcacgeecfjgaaGreatDoor
open Go.RowKit Go.Shelf
set_option maxRecDepth 100000
theorem bits_mask (x : Int) : ∃ r : Nat, bits .and .i64 x 65535 = (r : Int) ∧ r ≤ 65535 := by
  have h : (BitVec.ofInt 64 x &&& BitVec.ofInt 64 65535).toNat ≤ 65535 := by
    rw [BitVec.toNat_and]
    exact Nat.le_trans Nat.and_le_right (by decide)
  refine ⟨(BitVec.ofInt 64 x &&& BitVec.ofInt 64 65535).toNat, ?_, h⟩
  show IntKind.i64.wrap (((BitVec.ofInt 64 x &&& BitVec.ofInt 64 65535).toNat : Nat) : Int) = _
  exact IntWalk.i64_in _ (by omega)
/-- Block g alone has turned. -/
structure Only (g : Nat) (w w' : World) : Prop where
  below : Below g w w'
  other : ∀ b, b < w.heap.size → b ≠ g → w'.heap[b]? = w.heap[b]?
theorem Only.refl (g : Nat) (w : World) : Only g w w := ⟨Below.refl _ _, fun _ _ _ => rfl⟩
theorem Only.trans {g : Nat} {a b c : World} (h : Only g a b) (k : Only g b c) : Only g a c := ⟨h.below.trans k.below, fun i hi hg => (k.other i (Nat.lt_of_lt_of_le hi h.below.size) hg).trans (h.other i hi hg)⟩
theorem Only.set_ (g o : Nat) (w : World) (v : Value) : Only g w (w.setCell ⟨g, o, none⟩ v) := ⟨(Below.refl g w).setCell (p := ⟨g, o, none⟩) (Nat.le_refl _) v, fun b _ hb => Below.heap_setCell w ⟨g, o, none⟩ v b hb⟩
theorem Only.drew {g : Nat} {w w' : World} (h : Only g w w') : Only g w w'.drew := ⟨h.below.drew, h.other⟩
theorem turn_nil (w : World) (g : Nat) (A : Option Addr) (c k : Nat) (st : Int) (h : Blk w g 73 #[.slice A 0 c, iv k, .int .u64 st]) (hk : k < 4611686018427387904) :
    Calls Tryz.prog 96 #[.pointer (some ⟨g, 0, none⟩)] w fun e w' => ∃ (r : Nat) (st' : Int), e = .returned (iv r) ∧ r ≤ 65535 ∧ Blk w' g 73 #[.slice A 0 c, iv (k + 1 : Nat), .int .u64 st'] ∧ Only g w w' := by
  have h0 := h.cell 0
  have h1 := h.cell 1
  have h2 := h.cell 2
  have f1 := h.frozen
  have hk1 : IntKind.i64.wrap ((k : Int) + 1) = ((k + 1 : Nat) : Int) := IntWalk.i64_in _ (by omega)
  have hk3 : (0 : Int) < (k : Int) + 1 := by omega
  have HH := Lib.hid h
  clear h
  go_enter Tryz.func96, Tryz.ntmps96
  go_wp2
  go_region
  go_wp2
  go_region
  go_wp2
  obtain ⟨r, hr, hr2⟩ := bits_mask (wrap64 (bits .xor .u64 (IntKind.u64.wrap (IntKind.u64.wrap (st * 1103515245) + 12345) / 8) (IntKind.u64.wrap (IntKind.u64.wrap (st * 1103515245) + 12345) / 524288)))
  rw [hr]
  go_ret
  refine ⟨r, _, rfl, hr2, (HH.out.set_ 1 (.int .i64 ((k : Int) + 1))).set_ 2 (.int .u64 (IntKind.u64.wrap (IntKind.u64.wrap (st * 1103515245) + 12345))), ((Only.set_ g 1 w _).trans (Only.set_ g 2 _ _)).drew.drew⟩
def byteE : Enc Int := ⟨fun x => [.int .u8 x], 1, fun _ => rfl, fun _ u h => by simp at h; subst h; rfl, by decide⟩
theorem turn_cons (w : World) (g : Nat) (b off n c k : Nat) (y st : Int) (h : Blk w g 73 #[.slice (some ⟨b, off, none⟩) n c, iv k, .int .u64 st]) (hk : k < 4611686018427387904) (hn : 0 < n) (hy : w.cell? ⟨b, off + k % n, none⟩ = some (.int .u8 y)) (hbg : b ≠ g) :
    Calls Tryz.prog 96 #[.pointer (some ⟨g, 0, none⟩)] w fun e w' => ∃ (r : Nat) (st' : Int), e = .returned (iv r) ∧ r ≤ 65535 ∧ Blk w' g 73 #[.slice (some ⟨b, off, none⟩) n c, iv (k + 1 : Nat), .int .u64 st'] ∧ Only g w w' := by
  have h0 := h.cell 0
  have h1 := h.cell 1
  have h2 := h.cell 2
  have f1 := h.frozen
  have hk1 : IntKind.i64.wrap ((k : Int) + 1) = ((k + 1 : Nat) : Int) := IntWalk.i64_in _ (by omega)
  have hn' : (0 : Int) < (n : Int) := by omega
  have hn0 : ¬ (n : Int) = 0 := by omega
  have hm : (k : Int).tmod (n : Int) = ((k % n : Nat) : Int) := by rw [Int.tmod_eq_emod_of_nonneg (by omega)]; rfl
  have hlt : k % n < n := Nat.mod_lt _ hn
  have hgb : ¬ g = b := fun e => hbg e.symm
  have HH := Lib.hid h
  clear h
  by_cases hkn : (n : Int) < (k : Int) + 1
  · go_enter Tryz.func96, Tryz.ntmps96
    go_wp2
    go_region
    go_wp2
    go_region
    go_wp2
    go_region
    go_wp2
    go_ret
    refine ⟨(bits_mask _).choose, IntKind.u64.wrap (IntKind.u64.wrap (IntKind.u64.wrap (st + IntKind.u64.wrap (IntKind.u64.wrap y * 977)) * 1103515245) + 12345), ret_eq (congrArg (Value.int .i64) (bits_mask _).choose_spec.1), (bits_mask _).choose_spec.2, ?b, ?o⟩
    case b => exact ((HH.out.set_ 2 (.int .u64 (IntKind.u64.wrap (st + IntKind.u64.wrap (IntKind.u64.wrap y * 977))))).set_ 1 (.int .i64 ((k : Int) + 1))).set_ 2 (.int .u64 (IntKind.u64.wrap (IntKind.u64.wrap (IntKind.u64.wrap (st + IntKind.u64.wrap (IntKind.u64.wrap y * 977)) * 1103515245) + 12345)))
    case o => exact (((Only.set_ g 2 w _).trans (Only.set_ g 1 _ _)).trans (Only.set_ g 2 _ _)).drew.drew.drew
  · have hkm : ¬ (n : Int) < ((k + 1 : Nat) : Int) := by omega
    go_enter Tryz.func96, Tryz.ntmps96
    go_wp2
    go_region
    go_wp2
    go_region
    go_wp2
    go_region
    go_wp2
    go_ret
    refine ⟨(bits_mask _).choose, IntKind.u64.wrap (st + IntKind.u64.wrap (IntKind.u64.wrap y * 977)), ret_eq (congrArg (Value.int .i64) (bits_mask _).choose_spec.1), (bits_mask _).choose_spec.2, ?b, ?o⟩
    case b => exact (HH.out.set_ 2 (.int .u64 (IntKind.u64.wrap (st + IntKind.u64.wrap (IntKind.u64.wrap y * 977))))).set_ 1 (.int .i64 ((k : Int) + 1))
    case o => exact ((Only.set_ g 2 w _).trans (Only.set_ g 1 _ _)).drew.drew.drew
/-- Block g is a spool that has given k numbers; it and its bytes lie below B. -/
def IsSpool (B : Nat) (w : World) (g k : Nat) : Prop := g < B ∧ B ≤ w.heap.size ∧ ∃ A n c st, Blk w g 73 #[.slice A n c, iv k, .int .u64 st] ∧ (0 < n → ∃ b off, A = some ⟨b, off, none⟩ ∧ b ≠ g ∧ b < B ∧ ∀ i, i < n → ∃ y, w.cell? ⟨b, off + i, none⟩ = some (.int .u8 y))
theorem IsSpool.keep {B : Nat} {w w' : World} {g k : Nat} (h : IsSpool B w g k) (hz : w.heap.size ≤ w'.heap.size) (hk : ∀ b, b < B → w'.heap[b]? = w.heap[b]?) : IsSpool B w' g k := by
  obtain ⟨hg, hB, A, n, c, st, hb, hs⟩ := h
  refine ⟨hg, Nat.le_trans hB hz, A, n, c, st, (hk g hg).trans hb, fun hn => ?_⟩
  obtain ⟨b, off, hA, hbg, hbl, hc⟩ := hs hn
  refine ⟨b, off, hA, hbg, hbl, fun i hi => ?_⟩
  obtain ⟨y, hy⟩ := hc i hi
  exact ⟨y, by rw [World.cell?_of_block (w := w) (hk b hbl)]; exact hy⟩
theorem IsSpool.below {B B' : Nat} {w w' : World} {g k : Nat} (h : IsSpool B w g k) (hb : Below B' w w') (hB : B ≤ B') : IsSpool B w' g k := h.keep hb.size fun b hl => hb.block b (by omega)
theorem Only.setCell {g : Nat} {w w' : World} (h : Only g w w') {p : Addr} (hg : g ≤ p.block) (hp : w.heap.size ≤ p.block) (v : Value) : Only g w (w'.setCell p v) :=
  ⟨h.below.setCell hg v, fun b hb hne => (Below.heap_setCell w' p v b (by omega)).trans (h.other b hb hne)⟩
theorem Only.next {g B : Nat} {w w1 w2 : World} (h : Only g w w1) (hb : Below B w1 w2) (hg : g ≤ B) (hB : w.heap.size ≤ B) : Only g w w2 :=
  ⟨h.below.trans (hb.mono hg), fun b hl hne => (hb.block b (by omega)).trans (h.other b hl hne)⟩
theorem turn_spec (B : Nat) (w : World) (g k : Nat) (h : IsSpool B w g k) (hk : k < 4611686018427387904) :
    Calls Tryz.prog 96 #[.pointer (some ⟨g, 0, none⟩)] w fun e w' => ∃ r : Nat, e = .returned (iv r) ∧ r ≤ 65535 ∧ IsSpool B w' g (k + 1) ∧ Only g w w' := by
  obtain ⟨hg, hB, A, n, c, st, hb, hs⟩ := h
  by_cases hn : n = 0
  · subst hn
    refine (turn_nil w g A c k st hb hk).mono ?_
    rintro e w' ⟨r, st', rfl, hr, hb', ho⟩
    exact ⟨r, rfl, hr, ⟨hg, Nat.le_trans hB ho.below.size, A, 0, c, st', hb', fun h => absurd h (by omega)⟩, ho⟩
  · have hn0 : 0 < n := Nat.pos_of_ne_zero hn
    obtain ⟨b, off, rfl, hbg, hbl, hc⟩ := hs hn0
    obtain ⟨y, hy⟩ := hc (k % n) (Nat.mod_lt _ hn0)
    refine (turn_cons w g b off n c k y st hb hk hn0 hy hbg).mono ?_
    rintro e w' ⟨r, st', rfl, hr, hb', ho⟩
    refine ⟨r, rfl, hr, ⟨hg, Nat.le_trans hB ho.below.size, _, n, c, st', hb', fun _ => ⟨b, off, rfl, hbg, hbl, fun i hi => ?_⟩⟩, ho⟩
    obtain ⟨y', hy'⟩ := hc i hi
    exact ⟨y', by rw [World.cell?_of_block (w := w) (ho.other b (by omega) hbg)]; exact hy'⟩
end Go.Proofs.YtkmcacgeecfjgaaGreatDoor
namespace Go.Proofs.YtkmcacgeecfjgaaGreatDoor
open Go.RowKit Go.Shelf
set_option maxRecDepth 100000
theorem upto_spec (B : Nat) (w : World) (g k : Nat) (n : Nat) (h : IsSpool B w g k) (hk : k < 4611686018427387904) (hn : n ≤ 1000000) :
    Calls Tryz.prog 33 #[.pointer (some ⟨g, 0, none⟩), iv n] w fun e w' => ∃ r : Nat, e = .returned (iv r) ∧ r ≤ n ∧ IsSpool B w' g (k + 1) ∧ Only g w w' := by
  have hn1 : IntKind.i64.wrap ((n : Int) + 1) = ((n + 1 : Nat) : Int) := IntWalk.i64_in _ (by omega)
  have hmx : max (1 : Int) ((n : Int) + 1) = ((n + 1 : Nat) : Int) := by omega
  have HT := Lib.hid (turn_spec B w g k h hk)
  go_enter Tryz.func33, Tryz.ntmps33
  go_wp2_with (go_at_call 96; refine HT.out.mono ?_; rintro e w1 ⟨r, rfl, hr, hsp, ho⟩; have hne : ¬ (n : Int) + 1 = 0 := by omega)
  go_ret
  have hm : (r : Int) % ((n : Int) + 1) = ((r % (n + 1) : Nat) : Int) := by push_cast; rfl
  exact ⟨r % (n + 1), ret_eq (congrArg (Value.int .i64) hm), by have := Nat.mod_lt r (show 0 < n + 1 by omega); omega, hsp, ho⟩
theorem from_spec (B : Nat) (w : World) (g k lo hi : Nat) (h : IsSpool B w g k) (hk : k < 4611686018427387904) (hl : lo ≤ hi) (hn : hi ≤ 1000000) :
    Calls Tryz.prog 7 #[.pointer (some ⟨g, 0, none⟩), iv lo, iv hi] w fun e w' => ∃ r : Nat, e = .returned (iv r) ∧ lo ≤ r ∧ r ≤ hi ∧ IsSpool B w' g (k + 1) ∧ Only g w w' := by
  have HU := Lib.hid (upto_spec B w g k (hi - lo) h hk (by omega))
  have hs : (hi : Int) - (lo : Int) = ((hi - lo : Nat) : Int) := by omega
  have hs1 : IntKind.i64.wrap ((hi : Int) - (lo : Int)) = ((hi - lo : Nat) : Int) := by rw [hs]; exact IntWalk.i64_in _ (by omega)
  go_enter Tryz.func7, Tryz.ntmps7
  go_wp2_with (go_at_call 33; (try rw [hs]); refine HU.out.mono ?_; rintro e w1 ⟨r, rfl, hr, hsp, ho⟩; have hs2 : IntKind.i64.wrap ((lo : Int) + (r : Int)) = ((lo + r : Nat) : Int) := IntWalk.i64_in _ (by omega))
  go_ret
  exact ⟨lo + r, by first | rfl | (push_cast; rfl), by omega, by omega, hsp, ho⟩
theorem once_spec (B : Nat) (w : World) (g k n : Nat) (h : IsSpool B w g k) (hk : k < 4611686018427387904) (hl : 1 ≤ n) (hn : n ≤ 1000000) :
    Calls Tryz.prog 32 #[.pointer (some ⟨g, 0, none⟩), iv n] w fun e w' => ∃ b : Bool, e = .returned (.bool b) ∧ IsSpool B w' g (k + 1) ∧ Only g w w' := by
  have HU := Lib.hid (upto_spec B w g k (n - 1) h hk (by omega))
  have hs : (n : Int) - 1 = ((n - 1 : Nat) : Int) := by omega
  go_enter Tryz.func32, Tryz.ntmps32
  go_wp2_with (go_at_call 33; (try rw [hs]); refine HU.out.mono ?_; rintro e w1 ⟨r, rfl, hr, hsp, ho⟩)
  go_ret
  exact ⟨_, rfl, hsp, ho⟩
theorem wound_spec (A : Option Addr) (bs : List Int) (c : Nat) (w : World) (hs : Sl byteE w A bs) :
    Calls Tryz.prog 6 #[.slice A bs.length c] w fun e w' => ∃ g, e = .returned (.pointer (some ⟨g, 0, none⟩)) ∧ g = w.heap.size ∧ IsSpool (g + 1) w' g 0 ∧ Below w.heap.size w w' := by
  go_enter Tryz.func6, Tryz.ntmps6
  go_wp2
  go_ret
  refine ⟨w.heap.size, rfl, rfl, ⟨by omega, by simp, A, bs.length, c, IntKind.u64.wrap bs.length, Blk.new _ _ _, fun hn => ?_⟩, (Below.refl _ _).alloc (Nat.le_refl _) _⟩
  have hne : bs ≠ [] := fun e => by rw [e] at hn; simp at hn
  obtain ⟨b, off, rfl, hb, hc⟩ := hs hne
  refine ⟨b, off, rfl, by omega, by omega, fun i hi => ⟨bs[i], ?_⟩⟩
  have := hc i bs[i] (List.getElem?_eq_getElem hi) 0 (.int .u8 bs[i]) rfl
  rw [World.cell?_of_block (w := w) (Below.heap_alloc w _ b hb)]
  simpa [byteE] using this
end Go.Proofs.YtkmcacgeecfjgaaGreatDoor
end
section
namespace Go.Proofs.YtkmcacgeecfjgaaGreatDoor
open Go.RowKit Go.Shelf
set_option maxRecDepth 100000
/-- No row of the slice at A is block g. -/
def Far (g : Nat) (A : Option Addr) : Prop := ∀ b off s, A = some ⟨b, off, s⟩ → b ≠ g
theorem Sl.only {α : Type} {E : Enc α} {w w' : World} {A : Option Addr} {xs : List α} {g : Nat} (h : Sl E w A xs) (hf : Far g A) (ho : Only g w w') : Sl E w' A xs := fun hx => by
  obtain ⟨b, off, hA, hb, hc⟩ := h hx
  have hk := ho.other b hb (hf b off none hA)
  exact ⟨b, off, hA, Nat.lt_of_lt_of_le hb ho.below.size, fun i x hi j u hu => by rw [World.cell?_of_block (w := w) hk]; exact hc i x hi j u hu⟩
theorem Blk.only {w w' : World} {b g : Nat} {t : TypeId} {cs : Array Value} (h : Blk w b t cs) (hg : b ≠ g) (ho : Only g w w') : Blk w' b t cs := (ho.other b h.lt hg).trans h
theorem Own.only {α : Type} {E : Enc α} {e : TypeId} {B : Nat} {w w' : World} {v : Value} {xs : List α} {g : Nat} (h : Own E e B w v xs) (hg : g < B) (ho : Only g w w') : Own E e B w' v xs :=
  h.keep ho.below.size fun b hb => ho.other b (h.lt b hb).2 (by have := (h.lt b hb).1; omega)
end Go.Proofs.YtkmcacgeecfjgaaGreatDoor
end
section
namespace Go.Proofs.YtkmcacgeecfjgaaGreatDoor
open Go.RowKit Go.Shelf
set_option maxRecDepth 100000
abbrev bp (g : Nat) : Value := .pointer (some ⟨g, 0, none⟩)
/-- The boxes of the search: all but that of the list that is found. -/
structure Boxes (gm go gw gl gf bx : Nat) (many limit : Nat) (W : World) : Prop where
  m : Blk W gm 3 #[iv many]
  w : Blk W gw 84 #[.func (.func 38) #[] #[bp bx]]
  l : Blk W gl 3 #[iv limit]
  f : Blk W gf 159 #[.func (.func 101) #[] #[bp gm, bp go, bp gw, bp gl, bp gf]]
  ne : gm ≠ go ∧ gw ≠ go ∧ gl ≠ go ∧ gf ≠ go
theorem Boxes.only {gm go gw gl gf bx many limit : Nat} {W W' : World} (h : Boxes gm go gw gl gf bx many limit W) (ho : Only go W W') : Boxes gm go gw gl gf bx many limit W' :=
  ⟨h.m.only h.ne.1 ho, h.w.only h.ne.2.1 ho, h.l.only h.ne.2.2.1 ho, h.f.only h.ne.2.2.2 ho, h.ne⟩
/-- A slice lies in no block below a number. -/
def Since (L : Nat) (A : Option Addr) : Prop := ∀ b off s, A = some ⟨b, off, s⟩ → L ≤ b
/-- What the search answers. -/
def MoreOk (L : Nat) (r : Option (List Int)) (go : Nat) (W : World) (e : Ending) (w' : World) : Prop :=
  e = .returned (.bool r.isSome) ∧ Only go W w' ∧ ∃ v, Blk w' go 33 #[v] ∧ ∀ x, r = some x → ∃ A c, v = .slice A x.length c ∧ x.length ≤ c ∧ Since L A ∧ Sl intE w' A x
set_option maxHeartbeats 4000000 in
theorem more_zero (L : Nat) (holds : List Int → Bool) (gm go gw gl gf bx many limit : Nat) (l : List Int) (fr : Nat) (A : Option Addr) (c : Nat) (W : World) (hl : l.length = many) (hc : l.length ≤ c) (hb : Boxes gm go gw gl gf bx many limit W) (hgo : ∃ v, Blk W go 33 #[v]) (hs : Sl intE W A l) (hA : Far go A) (hL : Since L A)
    (r : Option (List Int)) (hr : Hid (r = if holds l then some l else none)) (HW : Hid (∀ W', Only go W W' → Calls Tryz.prog 38 #[.slice A l.length c, bp bx] W' fun e w' => e = .returned (.bool (holds l)) ∧ Below W'.heap.size W' w')) :
    Calls Tryz.prog 101 #[.slice A l.length c, iv fr, bp gm, bp go, bp gw, bp gl, bp gf] W (MoreOk L r go W) := by
  have hcf := callFunc_run (P := Tryz.prog) (K := 38) (by kernel_rfl)
  obtain ⟨v0, hg0⟩ := hgo
  have m0 := hb.m.cell 0
  have m1 := hb.m.lt
  have w0 := hb.w.cell 0
  have w1 := hb.w.lt
  have o0 := hg0.cell 0
  have o1 := hg0.lt
  have o2 := hg0.frozen
  have hne1 : ¬ gw = go := hb.ne.2.1
  have hon : Only go W (W.setCell ⟨go, 0, none⟩ (.slice A l.length c)) := Only.set_ _ _ _ _
  have HC1 := Lib.hid (HW.out _ hon)
  have HS2 := Lib.hid (hs.only hA hon)
  have HG2 := Lib.hid (hg0.set_ 0 (.slice A l.length c))
  have HON := Lib.hid hon
  have hlm : ((l.length : Int) == (many : Int)) = true := by simp [hl]
  have w0' : (W.setCell ⟨go, 0, none⟩ (.slice A l.length c)).cell? ⟨gw, 0, none⟩ = some (.func (.func 38) #[] #[bp bx]) := (hb.w.only hne1 hon).cell 0
  clear HW hon hs hg0 hb hl
  go_enter Tryz.func101, Tryz.ntmps101
  go_wp2_with (go_at_call 38; refine HC1.out.mono ?_; rintro e w2 ⟨rfl, hb2⟩)
  go_ret
  refine ⟨?_, HON.out.next hb2 (by simp [World.setCell]; omega) (by simp [World.setCell]), _, HG2.out.under hb2, fun x hx => ?_⟩
  · rw [hr.out]; cases holds l <;> rfl
  · rw [hr.out] at hx
    cases hh : holds l
    · rw [hh] at hx; cases hx
    · rw [hh] at hx
      injection hx with hx
      subst hx
      exact ⟨A, c, rfl, hc, hL, HS2.out.below hb2⟩
set_option maxHeartbeats 4000000 in
theorem more_spec (L : Nat) (holds : List Int → Bool) (gm go gw gl gf bx many limit : Nat) (hlim : limit ≤ 8) (hmany : many ≤ 9) (Wb : World) (hLb : L ≤ Wb.heap.size)
    (HW : Hid (∀ (W' : World) (ns : List Int) (A' : Option Addr) (c' : Nat), Only go Wb W' → Sl intE W' A' ns → ns.length ≤ 9 → (∀ i ∈ ns, 0 ≤ i ∧ i < limit) → Calls Tryz.prog 38 #[.slice A' ns.length c', bp bx] W' fun e w' => e = .returned (.bool (holds ns)) ∧ Below W'.heap.size W' w')) :
    ∀ (d : Nat) (l : List Int) (fr : Nat) (A : Option Addr) (c : Nat) (W : World) (r : Option (List Int)), l.length + d = many → fr ≤ limit → (∀ i ∈ l, 0 ≤ i ∧ i < limit) → l.length ≤ c → Boxes gm go gw gl gf bx many limit W → (∃ v, Blk W go 33 #[v]) → Only go Wb W → Sl intE W A l → Far go A → Since L A → Hid (r = Price.moreOf holds limit d l fr) →
      Calls Tryz.prog 101 #[.slice A l.length c, iv fr, bp gm, bp go, bp gw, bp gl, bp gf] W (MoreOk L r go W) := by
  intro d
  induction d with
  | zero =>
    intro l fr A c W r hl hfr hi hc hb hgo hon hs hA hL hr
    exact more_zero L holds gm go gw gl gf bx many limit l fr A c W (by omega) hc hb hgo hs hA hL r hr (fun W' h => HW.out W' l A c (hon.trans h) (hs.only hA h) (by omega) hi)
  | succ d ih =>
    intro l fr A c W r hl hfr hi hc hb hgo hon hs hA hL hr
    obtain ⟨v0, hg0⟩ := hgo
    have hgl0 := hg0.lt
    have hlm : ((l.length : Int) == (many : Int)) = false := beq_eq_false_iff_ne.2 (by omega)
    have hcf := callFunc_run (P := Tryz.prog) (K := 101) (by kernel_rfl)
    obtain ⟨f, hf⟩ : ∃ f : Nat → Option (List Int), f = fun (k : Nat) => Price.moreOf holds limit d (l ++ [(k : Int)]) (k + 1) := ⟨_, rfl⟩
    have hr2 : r = Price.firstK f (limit - fr) fr := by rw [hr.out, hf]; rfl
    have HF := Lib.hid hf
    have HR := Lib.hid hr2
    have HI := Lib.hid hi
    have m0 := hb.m.cell 0
    have m1 := hb.m.lt
    clear hf hr2 hr hi
    go_enter Tryz.func101, Tryz.ntmps101
    go_wp2_with fail
    go_loopw [10] (fun i wr => ∃ k : Nat, fr ≤ k ∧ k ≤ limit ∧ i = iv k ∧ Hid (Price.firstK f (limit - k) k = r) ∧ (∃ v, Blk wr go 33 #[v]) ∧ Only go W wr) (fun i _ => limit - (intOf i).toNat)
    case atStart => exact ⟨fr, Nat.le_refl _, hfr, rfl, HR.out.symm, ⟨v0, hg0⟩, Only.refl _ _⟩
    case round =>
      obtain ⟨k, hk1, hk2, rfl, hfk, ⟨vk, hgk⟩, honk⟩ := hrel
      have hbk := hb.only honk
      have l0 := hbk.l.cell 0
      have l1 := hbk.l.lt
      have hzk := honk.below.size
      by_cases hlt : k < limit
      · have hki : (k : Int) < (limit : Int) := by omega
        have hk1' : IntKind.i64.wrap ((k : Int) + 1) = (k : Int) + 1 := IntWalk.i64_in _ (by omega)
        have hfk' := hfk.out
        rw [show limit - k = (limit - (k + 1)) + 1 by omega] at hfk'
        simp only [Price.firstK] at hfk'
        have hsk := hs.only hA honk
        have hgk0 := hgk.lt
        have HCL : Hid (∀ a, Only go wr a → Calls Tryz.prog 102 #[.slice A l.length c] a fun e w' => ∃ v, e = .returned v ∧ Own intE 3 a.heap.size w' v l ∧ Below a.heap.size a w') := fun a h => cloneI A l c a (by unfold big; omega) (hsk.only hA h)
        obtain ⟨rk, hrk⟩ : ∃ rk, rk = f k := ⟨_, rfl⟩
        have HRK := Lib.hid hrk
        have IH : Hid (∀ a A' c', Only go wr a → (∃ u, Blk a go 33 #[u]) → Sl intE a A' (l ++ [(k : Int)]) → Far go A' → Since L A' → l.length + 1 ≤ c' → Calls Tryz.prog 101 #[.slice A' (l.length + 1) c', iv ((k : Int) + 1), bp gm, bp go, bp gw, bp gl, bp gf] a (MoreOk L rk go a)) := fun a A' c' h1 h5 h2 h3 h6 h4 => by
          have hon2 := honk.trans h1
          have := ih (l ++ [(k : Int)]) (k + 1) A' c' a rk (by simp; omega) (by omega) (fun i hi => by
            rcases List.mem_append.1 hi with h | h
            · exact HI.out i h
            · rw [List.mem_singleton.1 h]; omega) (by simp; omega) (hb.only hon2) h5 (hon.trans hon2) h2 h3 h6 (by rw [hrk, HF.out]; exact Lib.hid rfl)
          simpa using this
        obtain ⟨S, hS⟩ : ∃ S : World → Prop, S = fun a => Only go wr a ∧ (∃ u, Blk a go 33 #[u]) ∧ a.cell? ⟨gf, 0, none⟩ = some (.func (.func 101) #[] #[bp gm, bp go, bp gw, bp gl, bp gf]) := ⟨_, rfl⟩
        have HSB : Hid (∀ (a a' : World) (B : Nat), S a → Below B a a' → wr.heap.size ≤ B → S a') := fun a a' B h hb hB => by
          rw [hS] at h ⊢
          obtain ⟨h1, ⟨u, h2⟩, h3⟩ := h
          have h := h1.next hb (by omega) hB
          exact ⟨h, ⟨u, h2.below hb (by omega)⟩, (hbk.only h).f.cell 0⟩
        have HSN : Hid (∀ a a', S a → Only go a a' → (∃ u, Blk a' go 33 #[u]) → S a') := fun a a' h h1 h2 => by
          rw [hS] at h ⊢
          exact ⟨h.1.trans h1, h2, (hbk.only (h.1.trans h1)).f.cell 0⟩
        have HSO : Hid (∀ a, S a → Only go wr a) := fun a h => by rw [hS] at h; exact h.1
        have HSG : Hid (∀ a, S a → ∃ u, Blk a go 33 #[u]) := fun a h => by rw [hS] at h; exact h.2.1
        have HSZ : Hid (∀ a, S a → wr.heap.size ≤ a.heap.size) := fun a h => by rw [hS] at h; exact h.1.below.size
        have HSF : Hid (∀ a, S a → a.cell? ⟨gf, 0, none⟩ = some (.func (.func 101) #[] #[bp gm, bp go, bp gw, bp gl, bp gf])) := fun a h => by rw [hS] at h; exact h.2.2
        have HK0 : Hid (S wr.drew) := by
          have h : S wr := by rw [hS]; exact ⟨Only.refl _ _, ⟨vk, hgk⟩, hbk.f.cell 0⟩
          exact HSB.out _ _ wr.heap.size h (Below.refl _ _).drew (Nat.le_refl _)
        have f0 := HSF.out _ HK0.out
        have HS2 : Hid (∀ a, S a → S a ∧ a.cell? ⟨gf, 0, none⟩ = some (.func (.func 101) #[] #[bp gm, bp go, bp gw, bp gl, bp gf])) := fun a h => ⟨h, HSF.out a h⟩
        have hll : l.length ≤ 8 := by omega
        have hlm' : l.length ≤ big := by unfold big; omega
        have HON := Lib.hid honk
        have HLW := Lib.hid (Nat.le_trans hLb (hon.trans honk).below.size)
        have HFK2 := Lib.hid hfk'
        clear hfk hfk' hrk hbk hsk hgk honk hg0 hb hon hs hS
        go_wp2_with fail
        go_region_held3 (fun a => S a ∧ a.cell? ⟨gf, 0, none⟩ = some (.func (.func 101) #[] #[bp gm, bp go, bp gw, bp gl, bp gf])) (first | assumption | exact HS2.out _ HK0.out | exact HS2.out _ (HSB.out _ _ _ HK0.out ((Below.refl _ _).alloc (Nat.le_refl _) _) (Nat.le_refl _)) | exact HS2.out _ HX1.out | exact HS2.out _ HX2.out | exact HS2.out _ HX3.out | exact HS2.out _ (HSB.out _ _ _ HX1.out ((Below.refl _ _).alloc (Nat.le_refl _) _) (HSZ.out _ HX1.out)))
          (first
            | (go_at_call 102; refine (HCL.out _ (HSO.out _ (And.left ‹S _ ∧ _›))).mono ?_; rintro e x1 ⟨v, rfl, hown, hbx⟩; have HX1 := Lib.hid (HSB.out _ _ _ (And.left ‹S _ ∧ _›) hbx (HSZ.out _ (And.left ‹S _ ∧ _›))); obtain ⟨A', c', rfl, _, _⟩ := hown.form)
            | (refine stepAppS intE tyInts (by rfl) _ _ (by rfl) hown ((Sl.fresh intE wr.drew 3 #[iv k] [(k : Int)] rfl (by simp [maxLen])).below hbx) rfl (by rfl) (by rfl) (by rfl) hbx.size (by unfold big; simp; omega) ?_; intro v' x2 hown2 hbx2 _; have HX2 := Lib.hid (HSB.out _ _ _ HX1.out hbx2 (by simp)); obtain ⟨A2, c2, rfl, hle2, _⟩ := hown2.form; have hsl2 := hown2.sl; simp only [List.length_append, List.length_cons, List.length_nil, Nat.zero_add] at hle2)
            | (refine stepAppS intE tyInts (by rfl) _ _ (by rfl) (hown.below ((Below.refl _ x1).alloc (Nat.le_refl _) _)) (Sl.fresh intE x1 3 #[iv k] [(k : Int)] rfl (by simp [maxLen])) rfl (by rfl) (by rfl) (by rfl) (Nat.le_trans hbx.size (by simp)) (by unfold big; simp; omega) ?_; intro v' x2 hown2 hbx2 _; have HX2 := Lib.hid (HSB.out _ _ _ (HSB.out _ _ _ HX1.out ((Below.refl _ _).alloc (Nat.le_refl _) _) (HSZ.out _ HX1.out)) hbx2 (HSZ.out _ HK0.out)); obtain ⟨A2, c2, rfl, hle2, _⟩ := hown2.form; have hsl2 := hown2.sl; simp only [List.length_append, List.length_cons, List.length_nil, Nat.zero_add] at hle2)
            | (go_at_call 101; have hfar : Far go A2 := fun b off s e => by { have h1 := (hown2.lt b (by rw [e]; rfl)).1; have h2 := HSZ.out _ HK0.out; intro e2; first | omega | (simp at h1 h2; omega) }; have hsin : Since L A2 := fun b off s e => by { have h1 := (hown2.lt b (by rw [e]; rfl)).1; have h2 := HLW.out; simp only [World.size_drew] at h1; first | omega | (simp at h1; omega) }; have hIH := IH.out x2 A2 c2 (HSO.out _ (And.left ‹S _ ∧ _›)) (HSG.out _ (And.left ‹S _ ∧ _›)) hsl2 hfar hsin hle2; refine Calls.mono hIH ?_; rintro e x3 ⟨rfl, h31, v3, h32, h33⟩; have HX3 := Lib.hid (HSN.out _ _ (And.left ‹S x2 ∧ _›) h31 ⟨v3, h32⟩); have H33 := Lib.hid h33; have H32 := Lib.hid h32; clear h31 h32 h33))
        all_goals
          have hon3 := HON.out.trans (HSO.out _ HX3.out)
          have hrf : f k = rk := HRK.out.symm
          have hfk2 := HFK2.out
          rw [hrf] at hfk2
          rcases rk with _ | x
          · go_wp2_with fail
            refine ⟨⟨k + 1, by omega, by omega, by simp [iv], Lib.hid hfk2, ⟨v3, H32.out⟩, hon3⟩, ?_⟩
            show limit - ((k : Int) + 1).toNat < limit - ((k : Int)).toNat
            omega
          · go_wp2_with fail
            go_ret
            refine ⟨?_, hon3, v3, H32.out, fun y hy => ?_⟩
            · rw [← hfk2]; rfl
            · rw [← hfk2] at hy; exact H33.out y hy
      · have hfk' := hfk.out
        rw [show limit - k = 0 by omega] at hfk'
        simp only [Price.firstK] at hfk'
        have HFK := Lib.hid hfk'
        have hki : ¬ (k : Int) < (limit : Int) := by omega
        clear hfk hfk'
        go_wp2_with fail
        go_ret
        refine ⟨by rw [← HFK.out]; rfl, honk, vk, hgk, fun x hx => ?_⟩
        rw [← HFK.out] at hx; cases hx
end Go.Proofs.YtkmcacgeecfjgaaGreatDoor
namespace Go.Proofs.YtkmcacgeecfjgaaGreatDoor
open Go.RowKit Go.Shelf
set_option maxRecDepth 100000
/-- What the search returns. -/
def FirstOk (x : List Int) (w : World) (e : Ending) (w' : World) : Prop := ∃ A c, e = .returned (.slice A x.length c) ∧ x.length ≤ c ∧ Since w.heap.size A ∧ Sl intE w' A x ∧ Below w.heap.size w w'
set_option maxHeartbeats 4000000 in
theorem first_spec (holds : List Int → Bool) (limit bx : Nat) (w : World) (hlim : limit ≤ 8) (x : List Int) (hx : Price.manyOf holds limit (limit + 1) 0 = some x)
    (HW : Hid (∀ (W' : World) (ns : List Int) (A' : Option Addr) (c' : Nat), Below w.heap.size w W' → Sl intE W' A' ns → ns.length ≤ 9 → (∀ i ∈ ns, 0 ≤ i ∧ i < limit) → Calls Tryz.prog 38 #[.slice A' ns.length c', bp bx] W' fun e w' => e = .returned (.bool (holds ns)) ∧ Below W'.heap.size W' w')) :
    Calls Tryz.prog 37 #[iv limit, .agg #[.func (.func 38) #[] #[bp bx]]] w (FirstOk x w) := by
  have HX := Lib.hid hx
  have hcf := callFunc_run (P := Tryz.prog) (K := 101) (by kernel_rfl)
  have hb0 : Below w.heap.size w (((w.alloc (.cells #[iv limit] 3)).alloc (.cells #[.func (.func 38) #[] #[bp bx]] 84)).alloc (.cells #[.slice none 0 0] 33)) := (((Below.refl _ _).alloc (Nat.le_refl _) _).alloc (by simp) _).alloc (by simp; omega) _
  have hBl : Blk (((w.alloc (.cells #[iv limit] 3)).alloc (.cells #[.func (.func 38) #[] #[bp bx]] 84)).alloc (.cells #[.slice none 0 0] 33)) w.heap.size 3 #[iv limit] := ((Blk.new _ _ _).alloc _).alloc _
  have hBw : Blk (((w.alloc (.cells #[iv limit] 3)).alloc (.cells #[.func (.func 38) #[] #[bp bx]] 84)).alloc (.cells #[.slice none 0 0] 33)) (w.heap.size + 1) 84 #[.func (.func 38) #[] #[bp bx]] := (Blk.new_ _ _ _ (by simp)).alloc _
  have hBo : Blk (((w.alloc (.cells #[iv limit] 3)).alloc (.cells #[.func (.func 38) #[] #[bp bx]] 84)).alloc (.cells #[.slice none 0 0] 33)) (w.heap.size + 1 + 1) 33 #[.slice none 0 0] := Blk.new_ _ _ _ (by simp)
  clear hx
  go_enter Tryz.func37, Tryz.ntmps37
  go_wp2_with fail
  generalize ((w.alloc (.cells #[iv limit] 3)).alloc (.cells #[.func (.func 38) #[] #[bp bx]] 84)).alloc (.cells #[.slice none 0 0] 33) = w0 at *
  have l0 := hBl.cell
  have l1 := hBl.lt
  have hlm : IntKind.i64.wrap ((limit : Int) + 1) = (limit : Int) + 1 := IntWalk.i64_in _ (by omega)
  go_wp2_with fail
  go_loopw [6, 7, 10] (fun _ _ i wr => ∃ k : Nat, k ≤ limit + 1 ∧ i = iv k ∧ Hid (Price.manyOf holds limit (limit + 1 - k) k = some x) ∧ Blk wr w.heap.size 3 #[iv limit] ∧ Blk wr (w.heap.size + 1) 84 #[.func (.func 38) #[] #[bp bx]] ∧ (∃ v, Blk wr (w.heap.size + 1 + 1) 33 #[v]) ∧ Below w.heap.size w wr) (fun _ _ i _ => limit + 1 - (intOf i).toNat)
  case atStart => exact ⟨0, by omega, rfl, HX, hBl, hBw, ⟨_, hBo⟩, hb0⟩
  case round =>
    obtain ⟨k, hk, rfl, hf, hbl, hbw, ⟨vo, hbo⟩, hbr⟩ := hrel
    by_cases hlt : k < limit + 1
    · have hkl : (k : Int) < (limit : Int) + 1 := by omega
      have hk1 : IntKind.i64.wrap ((k : Int) + 1) = (k : Int) + 1 := IntWalk.i64_in _ (by omega)
      have hf2 := hf.out
      rw [show limit + 1 - k = (limit + 1 - (k + 1)) + 1 by omega] at hf2
      simp only [Price.manyOf] at hf2
      obtain ⟨r, hr⟩ : ∃ r, r = Price.moreOf holds limit k [] 0 := ⟨_, rfl⟩
      rw [← hr] at hf2
      have HR := Lib.hid hr
      have HF := Lib.hid hf2
      have hzo := hbo.lt
      have hzr := hbr.size
      have hba : Below wr.heap.size wr ((wr.alloc (.cells #[iv k] 3)).alloc (.cells #[.func (.func 101) #[] #[bp wr.heap.size, bp (w.heap.size + 1 + 1), bp (w.heap.size + 1), bp w.heap.size, bp (wr.heap.size + 1)]] 159)) := ((Below.refl _ _).alloc (Nat.le_refl _) _).alloc (by simp) _
      have hBm : Blk ((wr.alloc (.cells #[iv k] 3)).alloc (.cells #[.func (.func 101) #[] #[bp wr.heap.size, bp (w.heap.size + 1 + 1), bp (w.heap.size + 1), bp w.heap.size, bp (wr.heap.size + 1)]] 159)) wr.heap.size 3 #[iv k] := (Blk.new _ _ _).alloc _
      have hBf : Blk ((wr.alloc (.cells #[iv k] 3)).alloc (.cells #[.func (.func 101) #[] #[bp wr.heap.size, bp (w.heap.size + 1 + 1), bp (w.heap.size + 1), bp w.heap.size, bp (wr.heap.size + 1)]] 159)) (wr.heap.size + 1) 159 #[.func (.func 101) #[] #[bp wr.heap.size, bp (w.heap.size + 1 + 1), bp (w.heap.size + 1), bp w.heap.size, bp (wr.heap.size + 1)]] := Blk.new_ _ _ _ (by simp)
      have HM : Hid (Calls Tryz.prog 101 #[.slice none 0 0, iv 0, bp wr.heap.size, bp (w.heap.size + 1 + 1), bp (w.heap.size + 1), bp w.heap.size, bp (wr.heap.size + 1)] ((wr.alloc (.cells #[iv k] 3)).alloc (.cells #[.func (.func 101) #[] #[bp wr.heap.size, bp (w.heap.size + 1 + 1), bp (w.heap.size + 1), bp w.heap.size, bp (wr.heap.size + 1)]] 159)) (MoreOk w.heap.size r (w.heap.size + 1 + 1) ((wr.alloc (.cells #[iv k] 3)).alloc (.cells #[.func (.func 101) #[] #[bp wr.heap.size, bp (w.heap.size + 1 + 1), bp (w.heap.size + 1), bp w.heap.size, bp (wr.heap.size + 1)]] 159)))) := by
        have hbx := hbr.next hba (Nat.le_refl _)
        have hbl' := hbl.under hba
        have hbw' := hbw.under hba
        have hbo' := hbo.under hba
        generalize (wr.alloc (.cells #[iv k] 3)).alloc (.cells #[.func (.func 101) #[] #[bp wr.heap.size, bp (w.heap.size + 1 + 1), bp (w.heap.size + 1), bp w.heap.size, bp (wr.heap.size + 1)]] 159) = wx at *
        exact more_spec w.heap.size holds wr.heap.size (w.heap.size + 1 + 1) (w.heap.size + 1) w.heap.size (wr.heap.size + 1) bx k limit hlim (by omega) wx hbx.size
          (Lib.hid fun W' ns A' c' ho hsl hl hi => HW.out W' ns A' c' (hbx.trans (ho.below.mono (by omega))) hsl hl hi) k [] 0 none 0 wx r (by simp) (Nat.zero_le _) (fun i hi => by cases hi) (Nat.le_refl _)
          ⟨hBm, hbw', hbl', hBf, by omega, by omega, by omega, by omega⟩ ⟨_, hbo'⟩ (Only.refl _ _) Sl.nil (fun b off s h => by cases h) (fun b off s h => by cases h) HR
      have hon0 := hbr.next hba (Nat.le_refl _)
      have hbl2 := hbl.under hba
      have hbw2 := hbw.under hba
      clear hf hf2 hr hbl hbw hbo hbr HW
      go_wp2_with fail
      refine HM.out.mono ?_
      generalize (wr.alloc (.cells #[iv k] 3)).alloc (.cells #[.func (.func 101) #[] #[bp wr.heap.size, bp (w.heap.size + 1 + 1), bp (w.heap.size + 1), bp w.heap.size, bp (wr.heap.size + 1)]] 159) = wx at *
      rintro e w3 ⟨rfl, honly, v3, hB3, hv3⟩
      have hw3 : Below w.heap.size w w3 := hon0.trans (honly.below.mono (by omega))
      have hl3 := hbl2.only (by omega) honly
      have hw3' := hbw2.only (by omega) honly
      have o0 := hB3.cell
      have o1 := hB3.lt
      have HV3 := Lib.hid hv3
      have HF2 := HF.out
      clear HF hv3 HM hBm hBf hba honly hon0
      rcases r with _ | y
      · have HF3 := Lib.hid HF2
        clear HF2
        go_wp2_with fail
        go_roundw
        case rel => exact ⟨k + 1, by omega, by simp [iv], HF3, hl3, hw3', ⟨v3, hB3⟩, hw3⟩
        case measure => simp [intOf]; omega
      · injection HF2 with HF2
        subst HF2
        obtain ⟨Ay, cy, rfl, hcy, hLy, hsy⟩ := HV3.out _ rfl
        go_wp2_with fail
        go_ret
        exact ⟨Ay, cy, rfl, hcy, hLy, hsy, hw3⟩
    · exfalso
      have hf2 := hf.out
      rw [show limit + 1 - k = 0 by omega] at hf2
      cases hf2
namespace Price
def shortOf (l : List Rule) : List Int × Int := if check l = 0 then ((manyOf (givesP l) l.length (l.length + 1) 0).getD [], 0) else ([], check l)
end Price
/-- What Shortest returns. -/
def ShortestOk (l : List Rule) (w : World) (e : Ending) (w' : World) : Prop := ∃ A c, e = .returned (.tuple #[.slice A (Price.shortOf l).1.length c, iv (Price.shortOf l).2]) ∧ (Price.shortOf l).1.length ≤ c ∧ Since w.heap.size A ∧ Sl intE w' A (Price.shortOf l).1 ∧ Below w.heap.size w w'
set_option maxHeartbeats 4000000 in
theorem Shortest_spec (A : Option Addr) (l : List Rule) (c : Nat) (w : World) (hm : l.length ≤ big) (hc : l.length ≤ c) (hs : Sl ruleE w A l) :
    Calls Tryz.prog 9 #[.slice A l.length c] w (ShortestOk l w) := by
  have hb0 : Below w.heap.size w (w.alloc (.cells #[.slice A l.length c] 23)) := (Below.refl _ _).alloc (Nat.le_refl _) _
  have hB0 : Blk (w.alloc (.cells #[.slice A l.length c] 23)) w.heap.size 23 #[.slice A l.length c] := Blk.new _ _ _
  go_enter Tryz.func9, Tryz.ntmps9
  go_wp2_with fail
  generalize w.alloc (.cells #[.slice A l.length c] 23) = w0 at *
  refine (check_spec A l c w0 hm hc (hs.below hb0)).mono ?_
  rintro e w1 ⟨rfl, hb1⟩
  have hb01 := hb0.next hb1 (Nat.le_refl _)
  have hB1 := hB0.under hb1
  have c0 := hB1.cell
  have c1 := hB1.lt
  by_cases h0 : Price.check l = 0
  · have hl8 := Price.check_length h0
    have hp := Price.check_prices h0
    obtain ⟨x, hx, hfx⟩ := Price.short_some l
    have HSO : Hid (Price.shortOf l = (x, 0)) := by refine Lib.hid ?_; unfold Price.shortOf; rw [if_pos h0, hx]; rfl
    rw [h0]
    have HF : Hid (Calls Tryz.prog 37 #[iv l.length, .agg #[.func (.func 38) #[] #[bp w.heap.size]]] w1 (FirstOk x w1)) :=
      first_spec (Price.givesP l) l.length w.heap.size w1 hl8 x hx (Lib.hid fun W' ns A' c' hB hsl hl hi => wish_spec A l c A' ns c' w.heap.size W' hm (hs.below (hb01.next hB (by have := hb01.size; omega))) hp (by omega) hsl hi (Nat.lt_of_lt_of_le c1 hB.size) ((hB.cell (p := ⟨w.heap.size, 0, none⟩) c1).trans (c0 0)))
    clear h0 hp hx hfx hl8 hs hb0 hB0 hb1 hB1
    go_wp2_with fail
    refine HF.out.mono ?_
    rintro e w2 ⟨A2, c2, rfl, hc2, hL2, hs2, hb2⟩
    go_wp2_with fail
    go_ret2
    exact ⟨A2, c2, by rw [HSO.out]; rfl, by rw [HSO.out]; exact hc2, fun b off s e => Nat.le_trans hb01.size (hL2 b off s e), by rw [HSO.out]; exact hs2, hb01.next hb2 (Nat.le_refl _)⟩
  · have h0' : (Price.check l != 0) = true := by simpa using h0
    have HSO : Hid (Price.shortOf l = ([], Price.check l)) := by refine Lib.hid ?_; unfold Price.shortOf; rw [if_neg h0]
    clear h0
    go_wp2_with fail
    go_ret2
    exact ⟨none, 0, by rw [HSO.out]; rfl, by rw [HSO.out]; exact Nat.le_refl _, fun b off s e => (by cases e), by rw [HSO.out]; exact Sl.nil, hb01⟩
end Go.Proofs.YtkmcacgeecfjgaaGreatDoor
end
section
namespace Go.Proofs.YtkmcacgeecfjgaaGreatDoor
namespace Fl
open Go.RowKit
theorem allowed_nums {r : Rule} (h : Price.allowed r = true) : ∀ n ∈ nums r, -1 ≤ n ∧ n ≤ 600 := by
  simp only [Price.allowed, Price.inB, Bool.and_eq_true, decide_eq_true_eq] at h
  intro n hn
  simp only [nums, List.mem_cons, List.not_mem_nil, or_false] at hn
  rcases hn with rfl | rfl | rfl | rfl <;> omega
theorem two_bytes (n : Int) : ∀ b ∈ File.bts (File.two n), File.okB b = true := by
  intro b hb
  rw [show File.bts (File.two n) = [97 + (n + 1) % 26, 97 + (n + 1) / 26 % 26].map fun n => UInt8.ofNat n.toNat from rfl] at hb
  obtain ⟨x, hx, rfl⟩ := List.mem_map.1 hb
  have hx2 : 97 ≤ x ∧ x ≤ 122 := by
    simp only [List.mem_cons, List.not_mem_nil, or_false] at hx
    rcases hx with rfl | rfl <;> omega
  have h1 : (UInt8.ofNat x.toNat).toNat = x.toNat := by rw [UInt8.toNat_ofNat']; exact Nat.mod_eq_of_lt (by omega)
  unfold File.okB
  rw [h1]
  simp only [Bool.and_eq_true, decide_eq_true_eq]
  omega
theorem rline_ok (r : Rule) : LnOk (File.rline r) := by
  refine ⟨?_, ?_⟩
  · unfold File.okLine File.rline
    rw [List.all_eq_true]
    intro b hb
    simp only [File.bts, ByteArray.data_append, Array.toList_append, List.mem_append] at hb
    rcases hb with (((hb | hb) | hb) | hb) | hb
    · cases hb
    · exact two_bytes _ b hb
    · exact two_bytes _ b hb
    · exact two_bytes _ b hb
    · exact two_bytes _ b hb
  · unfold File.rline
    simp only [ByteArray.size_append, File.two_size]
    exact (by decide : (0 + 2 + 2 + 2 + 2 : Nat) ≤ 40)
theorem rlines_check {l : List Rule} (h : l.length ≤ 24) : File.check (l.map File.rline) = 0 :=
  check_of_good ⟨by rw [List.length_map]; exact h, fun s hs => by obtain ⟨r, _, rfl⟩ := List.mem_map.1 hs; exact (rline_ok r).2, fun s hs => by obtain ⟨r, _, rfl⟩ := List.mem_map.1 hs; exact (rline_ok r).1⟩
/-- Lines of different rules are different. -/
theorem rlines_diff {l : List Rule} (hn : l.Nodup) (ha : ∀ r ∈ l, Price.allowed r = true) : ∀ i j : Nat, i < (l.map File.rline).length → j < (l.map File.rline).length → (l.map File.rline)[i]? = (l.map File.rline)[j]? → i = j := by
  intro i j hi hj h
  rw [List.length_map] at hi hj
  rw [List.getElem?_map, List.getElem?_map, List.getElem?_eq_getElem hi, List.getElem?_eq_getElem hj] at h
  have h2 := File.rline_inj (allowed_nums (ha _ (List.getElem_mem hi))) (allowed_nums (ha _ (List.getElem_mem hj))) (Option.some.inj h)
  exact (List.getElem_inj hn).1 h2
/-- A list as Made makes it, and a rule more. -/
structure Plus (l : List Rule) (r : Rule) : Prop where
  add : Price.addOf l r = (l ++ [r], 0)
  nodup : (l ++ [r]).Nodup
  all : ∀ q ∈ l ++ [r], Price.allowed q = true
theorem plus_of {l : List Rule} {r : Rule} (hm : Price.MadeOk 7 l) (hr : Price.allowed r = true) (hp : 20 ≤ r.p) : Plus l r := by
  have hl := hm.len
  have hn : (l ++ [r]).Nodup := List.nodup_append.2 ⟨hm.nodup, List.nodup_cons.2 ⟨List.not_mem_nil, List.nodup_nil⟩, fun a ha b hb e => by
    rw [List.mem_singleton.1 hb] at e
    have := (hm.ok a ha).2
    rw [e] at this
    omega⟩
  have ha : ∀ q ∈ l ++ [r], Price.allowed q = true := fun q hq => by
    rcases List.mem_append.1 hq with h | h
    · exact (hm.ok q h).1
    · rw [List.mem_singleton.1 h]; exact hr
  refine ⟨?_, hn, ha⟩
  unfold Price.addOf
  rw [if_pos (hm.check (by omega)), if_neg (by omega), if_pos (Price.check_nodup (by simp; omega) hn ha)]
theorem Plus.diff {l : List Rule} {r : Rule} (h : Plus l r) : File.diff (l.map File.rline) ((l ++ [r]).map File.rline) = [⟨(l.length : Int), [], [File.rline r]⟩] := by
  have hd := rlines_diff h.nodup h.all
  rw [List.map_append, List.map_cons, List.map_nil] at hd ⊢
  have := File.diff_snoc hd
  rwa [List.length_map] at this
theorem rises_next {limit : Nat} : ∀ {x : List Int} {fr : Nat}, Price.Rises limit fr x → ∀ (k : Nat) (p q : Int), x[k]? = some p → x[k + 1]? = some q → p < q := by
  intro x
  induction x with
  | nil => intro fr _ k p q h; simp at h
  | cons a x ih =>
    intro fr h k p q h1 h2
    obtain ⟨h3, h4, h5⟩ := h
    cases k with
    | zero =>
      simp at h1 h2
      subst h1
      have := Price.rises_mem h5 q (List.mem_of_getElem? h2)
      omega
    | succ k => exact ih h5 k p q (by simpa using h1) (by simpa using h2)
/-- The lines of rules that rise are common with all. -/
theorem short_common {l : List Rule} {x : List Int} (hn : l.Nodup) (ha : ∀ r ∈ l, Price.allowed r = true) (hx : Price.Rises l.length 0 x) :
    File.common ((Price.chosen l x).map File.rline) (l.map File.rline) = (x.map Int.toNat).zipIdx.map fun z => (z.2, z.1) := by
  have hb := Price.rises_mem hx
  refine File.common_along (by simp [Price.chosen]) (fun k p h => ?_) (fun k p q h1 h2 => ?_) (rlines_diff hn ha)
  · rw [List.getElem?_map] at h
    obtain ⟨i, hi, rfl⟩ := Option.map_eq_some_iff.1 h
    have hib := hb i (List.mem_of_getElem? hi)
    have hil : i.toNat < l.length := by omega
    refine ⟨?_, by rw [List.length_map]; exact hil⟩
    rw [Price.chosen, List.getElem?_map, List.getElem?_map, hi, List.getElem?_map, List.getElem?_eq_getElem hil]
    simp only [Option.map_some]
    rw [List.getD_eq_getElem?_getD, List.getElem?_eq_getElem hil, Option.getD_some]
  · rw [List.getElem?_map] at h1 h2
    obtain ⟨i, hi, rfl⟩ := Option.map_eq_some_iff.1 h1
    obtain ⟨j, hj, rfl⟩ := Option.map_eq_some_iff.1 h2
    have := rises_next hx k i j hi hj
    have h3 := hb i (List.mem_of_getElem? hi)
    omega
end Fl
end Go.Proofs.YtkmcacgeecfjgaaGreatDoor
end
section
namespace Go.Proofs.YtkmcacgeecfjgaaGreatDoor
open Go.RowKit Go.Shelf
set_option maxRecDepth 100000
theorem len4 {α : Type} (l : List α) (h : l.length = 4) : ∃ a b c d, l = [a, b, c, d] := by
  match l, h with
  | [a, b, c, d], _ => exact ⟨a, b, c, d, rfl⟩
theorem fieldsRule : ((Tryz.prog).fieldsOf 29).toList.map (fun f => (f.name, f.type, f.offset)) = [("Breadth", 3, 0), ("Shade", 3, 1), ("Edge", 3, 2), ("Price", 3, 3)] := by kernel_rfl
theorem eqRule (a b c g d e f h : Int) (w : World) : (Op.equalIn 10000 29 (.agg #[iv a, iv b, iv c, iv g]) (.agg #[iv d, iv e, iv f, iv h])).run Tryz.prog w = .ok (a == d && (b == e && (c == f && g == h))) w := by
  have hh := run_equalIn_agg (P := Tryz.prog) w 9999 29 #[iv a, iv b, iv c, iv g] #[iv d, iv e, iv f, iv h] (by kernel_rfl) (by kernel_rfl)
  rw [hh]
  have h3 : ∀ (x y : Int) (d : Nat), (Op.equalIn (d + 1) 3 (iv x) (iv y)).run Tryz.prog w = .ok (x == y) w := fun x y d => run_equalIn_int w d _ _ _ _ _ Tryz.underlying3
  have hf := fieldsRule
  have hlen : ((Tryz.prog).fieldsOf 29).toList.length = 4 := by have := congrArg List.length hf; simpa using this
  obtain ⟨f0, f1, f2, f3, hl⟩ := len4 _ hlen
  rw [hl] at hf ⊢
  simp only [List.map_cons, List.map_nil, List.cons.injEq, Prod.mk.injEq, and_true] at hf
  obtain ⟨⟨n0, t0, o0⟩, ⟨n1, t1, o1⟩, ⟨n2, t2, o2⟩, n3, t3, o3⟩ := hf
  have hp0 : ∀ a b c d : Int, (part 3 #[iv a, iv b, iv c, iv d] 0).run Tryz.prog w = .ok (iv a) w := fun _ _ _ _ => by kernel_rfl
  have hp1 : ∀ a b c d : Int, (part 3 #[iv a, iv b, iv c, iv d] 1).run Tryz.prog w = .ok (iv b) w := fun _ _ _ _ => by kernel_rfl
  have hp2 : ∀ a b c d : Int, (part 3 #[iv a, iv b, iv c, iv d] 2).run Tryz.prog w = .ok (iv c) w := fun _ _ _ _ => by kernel_rfl
  have hp3 : ∀ a b c d : Int, (part 3 #[iv a, iv b, iv c, iv d] 3).run Tryz.prog w = .ok (iv d) w := fun _ _ _ _ => by kernel_rfl
  simp only [Op.eqFields, n0, n1, n2, n3, t0, t1, t2, t3, o0, o1, o2, o3]
  by_cases h1 : a = d <;> by_cases h2 : b = e <;> by_cases h3' : c = f <;> by_cases h4 : g = h <;>
    simp [hp0, hp1, hp2, hp3, h3, Result.andThen, h1, h2, h3', h4, Sem.run_bind]
theorem eqRuleD (p q : Rule) (w : World) : (Op.equalIn 10000 29 p.v q.v).run Tryz.prog w = .ok (decide (p = q)) w := by
  obtain ⟨pa, pb, pc, pd⟩ := p
  obtain ⟨qa, qb, qc, qd⟩ := q
  rw [eqRule]
  congr 1
  by_cases h1 : pa = qa <;> by_cases h2 : pb = qb <;> by_cases h3 : pc = qc <;> by_cases h4 : pd = qd <;> simp [h1, h2, h3, h4]
set_option maxHeartbeats 1000000 in
theorem indexRule (A : Option Addr) (xs : List Rule) (c : Nat) (r : Rule) (w : World) (hm : xs.length ≤ big) (hs : Sl ruleE w A xs) :
    Calls Tryz.prog 97 #[.slice A xs.length c, r.v] w fun e w' => e = .returned (iv (findFrom (fun x => decide (r = x)) xs 0)) ∧ Below w.heap.size w w' := by
  unfold big at hm
  obtain ⟨ra, rb, rc, rd⟩ := r
  go_enter Tryz.func97, Tryz.ntmps97
  go_wp2
  have hb0 : Below w.heap.size w (w.alloc (.cells #[iv ra, iv rb, iv rc, iv rd] 29)) := (Below.refl _ _).alloc (Nat.le_refl _) _
  have hB0 : Blk (w.alloc (.cells #[iv ra, iv rb, iv rc, iv rd] 29)) w.heap.size 29 #[iv ra, iv rb, iv rc, iv rd] := Blk.new _ _ _
  generalize w.alloc (.cells #[iv ra, iv rb, iv rc, iv rd] 29) = w0 at *
  go_loopw [5, 8] (fun _ i wr => ∃ (k : Nat), k ≤ xs.length ∧ i = iv k ∧ Hid (findFrom (fun x => decide ((⟨ra, rb, rc, rd⟩ : Rule) = x)) (xs.drop k) k = findFrom (fun x => decide ((⟨ra, rb, rc, rd⟩ : Rule) = x)) xs 0) ∧ Below w0.heap.size w0 wr) (fun _ i _ => xs.length - (intOf i).toNat)
  case atStart => exact ⟨0, by omega, rfl, rfl, Below.refl _ _⟩
  case round =>
    obtain ⟨k, hk, rfl, hf, hbw⟩ := hrel
    have hbb := hb0.trans (hbw.mono (Nat.le_of_lt hB0.lt))
    obtain ⟨q0, q1, q2, q3, q4, q5⟩ := (hB0.under hbw).facts
    by_cases hlt : k < xs.length
    · obtain ⟨b, off, p, rfl, hb, hp, hp0, hp1, hp2, hp3⟩ := ((hs.below hb0).below hbw).atR hlt
      have hf' := hf.out
      rw [drop_at hp] at hf'
      simp only [findFrom] at hf'
      have HF := Lib.hid hf'
      obtain ⟨pa, pb, pc, pd⟩ := p
      dsimp only at hp0 hp1 hp2 hp3
      have hlx : (k : Int) < (xs.length : Int) := by omega
      have heq : ∀ w, (Op.equalIn 10000 29 (.agg #[iv ra, iv rb, iv rc, iv rd]) (.agg #[iv pa, iv pb, iv pc, iv pd])).run Tryz.prog w = .ok (decide ((⟨ra, rb, rc, rd⟩ : Rule) = ⟨pa, pb, pc, pd⟩)) w := fun w => eqRuleD ⟨ra, rb, rc, rd⟩ ⟨pa, pb, pc, pd⟩ w
      clear hf hf' hp hs
      by_cases hpq : (⟨ra, rb, rc, rd⟩ : Rule) = ⟨pa, pb, pc, pd⟩
      · rw [decide_eq_true hpq] at heq
        have h2 := HF.out
        (first | rw [if_pos (decide_eq_true hpq)] at h2 | rw [if_pos hpq] at h2)
        replace HF := Lib.hid h2
        clear h2
        have HPQ := Lib.hid hpq
        clear hpq
        go_wp2
        go_region
        go_wp2
        go_ret
        exact ⟨ret_eq (by rw [← HF.out]; rfl), (by first | exact hbb | exact hbb.drew)⟩
      · rw [decide_eq_false hpq] at heq
        have h2 := HF.out
        (first | rw [if_neg (by rw [decide_eq_false hpq]; decide)] at h2 | rw [if_neg hpq] at h2)
        replace HF := Lib.hid h2
        clear h2
        have HPQ := Lib.hid hpq
        clear hpq
        go_wp2
        go_region
        go_wp2
        go_roundw
        case rel => exact ⟨k + 1, by omega, by go_num, by exact HF.out, (by first | exact hbw | exact hbw.drew)⟩
        case measure => simp [intOf]; omega
    · have hf' := hf.out
      rw [drop_end hlt] at hf'
      have HF := Lib.hid hf'
      clear hf hf'
      go_wp2
      go_ret
      exact ⟨ret_eq (by rw [← HF.out]; rfl), hbb⟩
theorem contains_any (r : Rule) (xs : List Rule) (k : Int) (hk : 0 ≤ k) : decide (0 ≤ findFrom (fun x => decide (r = x)) xs k) = xs.contains r := by
  rw [findFrom_nonneg _ xs k hk]
  induction xs with
  | nil => rfl
  | cons x xs ih => simp only [List.any_cons, ih, List.contains_cons]; congr 1
theorem containsRule (A : Option Addr) (xs : List Rule) (c : Nat) (r : Rule) (w : World) (hm : xs.length ≤ big) (hs : Sl ruleE w A xs) :
    Calls Tryz.prog 34 #[.slice A xs.length c, r.v] w fun e w' => e = .returned (.bool (xs.contains r)) ∧ Below w.heap.size w w' := by
  obtain ⟨ra, rb, rc, rd⟩ := r
  have HI := Lib.hid (indexRule A xs c ⟨ra, rb, rc, rd⟩ (w.alloc (.cells #[iv ra, iv rb, iv rc, iv rd] 29)) hm (hs.alloc _))
  have HC := Lib.hid (contains_any ⟨ra, rb, rc, rd⟩ xs 0 (Int.le_refl 0))
  generalize findFrom (fun x => decide ((⟨ra, rb, rc, rd⟩ : Rule) = x)) xs 0 = fi at *
  go_enter Tryz.func34, Tryz.ntmps34
  go_wp2_with (go_at_call 97; refine HI.out.mono ?_; rintro e w1 ⟨rfl, hb1⟩)
  go_ret
  exact ⟨ret_eq (by rw [← HC.out]; rfl), hb1.of_alloc⟩
end Go.Proofs.YtkmcacgeecfjgaaGreatDoor
end
section
namespace Go.Proofs.YtkmcacgeecfjgaaGreatDoor
open Go.RowKit Go.Shelf
set_option maxRecDepth 100000
theorem IsSpool.alloc_ {B : Nat} {w : World} {g k : Nat} (h : IsSpool B w g k) (o : Obj) : IsSpool B (w.alloc o) g k := h.below ((Below.refl _ w).alloc (Nat.le_refl _) o) h.2.1
/-- A cell of a block that was there. -/
abbrev CellAt (b o : Nat) (v : Value) (w : World) : Prop := b < w.heap.size ∧ w.cell? ⟨b, o, none⟩ = some v
theorem CellAt.only {b o g : Nat} {v : Value} {w w' : World} (h : CellAt b o v w) (hg : b ≠ g) (ho : Only g w w') : CellAt b o v w' :=
  ⟨Nat.lt_of_lt_of_le h.1 ho.below.size, by rw [World.cell?_of_block (w := w) (ho.other b h.1 hg)]; exact h.2⟩
theorem IsSpool.set_ {B : Nat} {w : World} {g k : Nat} (h : IsSpool B w g k) {p : Addr} (hp : B ≤ p.block) (u : Value) : IsSpool B (w.setCell p u) g k := h.keep (by simp [World.setCell]) fun b hb => Below.heap_setCell w p u b (by omega)
theorem Only.alloc_ {g : Nat} {w w1 : World} (h : Only g w w1) (hg : g ≤ w.heap.size) (o : Obj) : Only g w (w1.alloc o) := h.next ((Below.refl _ _).alloc (Nat.le_refl _) o) (Nat.le_trans hg h.below.size) h.below.size
theorem CellAt.alloc_ {b o : Nat} {v : Value} {w : World} (h : CellAt b o v w) (x : Obj) : CellAt b o v (w.alloc x) :=
  ⟨Nat.lt_of_lt_of_le h.1 (by simp), by rw [World.cell?_of_block (w := w) (Below.heap_alloc w x b h.1)]; exact h.2⟩
theorem CellAt.set_ {b o : Nat} {v : Value} {w : World} (h : CellAt b o v w) (p : Addr) (hp : b ≠ p.block) (u : Value) : CellAt b o v (w.setCell p u) :=
  ⟨by simpa [World.setCell] using h.1, by rw [World.cell?_of_block (w := w) (Below.heap_setCell w p u b hp)]; exact h.2⟩
theorem part_spec (B g k bx most : Nat) (w : World) (h : IsSpool B w g k) (hk : k < 10000000) (hm : most ≤ 100) (hg : bx ≠ g) (hc : CellAt bx 0 (.pointer (some ⟨g, 0, none⟩)) w) :
    Calls Tryz.prog 31 #[iv most, .pointer (some ⟨bx, 0, none⟩)] w fun e w' => ∃ (r : Int) (k' : Nat), e = .returned (iv r) ∧ -1 ≤ r ∧ r ≤ most ∧ k' ≤ k + 2 ∧ IsSpool B w' g k' ∧ Only g w w' := by
  have c0 := hc.2
  go_enter Tryz.func31, Tryz.ntmps31
  go_wp2_with fail
  refine (once_spec B w g k 2 h (by omega) (by omega) (by omega)).mono ?_
  rintro e w1 ⟨b, rfl, hsp, ho⟩
  have c1 := (hc.only hg ho).2
  cases b
  · go_wp2_with fail
    refine (upto_spec B w1 g (k + 1) most hsp (by omega) (by omega)).mono ?_
    rintro e w2 ⟨r, rfl, hr, hsp2, ho2⟩
    go_wp2_with fail
    go_ret
    exact ⟨r, k + 2, rfl, by omega, by omega, by omega, hsp2, ho.trans ho2⟩
  · go_wp2_with fail
    go_ret
    exact ⟨-1, k + 1, rfl, by omega, by omega, by omega, hsp, ho⟩
/-- What Made answers. -/
def MadeRet (n B g k : Nat) (w : World) (e : Ending) (w' : World) : Prop :=
  ∃ (v : Value) (l : List Rule) (k' : Nat), e = .returned v ∧ Own ruleE 29 w.heap.size w' v l ∧ Price.MadeOk n l ∧ k' ≤ k + 200 ∧ IsSpool B w' g k' ∧ Only g w w'
set_option maxHeartbeats 8000000 in
theorem made_spec (B g k n : Nat) (w : World) (h : IsSpool B w g k) (hk : k < 1000000) (hn : n ≤ 8) :
    Calls Tryz.prog 5 #[.pointer (some ⟨g, 0, none⟩), iv n] w (MadeRet n B g k w) := by
  have hgB : g < B ∧ B ≤ w.heap.size := ⟨h.1, h.2.1⟩
  have hmk : ∀ (fn : Fn) (first cap : Array Value) (w : World), (Instr.makeFunc fn first cap).run Tryz.prog w = .ok (.func fn first cap) w := fun _ _ _ _ => rfl
  have hcf := callFunc_run (P := Tryz.prog) (K := 31) (by kernel_rfl)
  go_enter Tryz.func5, Tryz.ntmps5
  go_wp2_with fail
  have hb1 : Below w.heap.size w (w.alloc (.cells #[.pointer (some ⟨g, 0, none⟩)] 25)) := (Below.refl _ _).alloc (Nat.le_refl _) _
  have hB1 : Blk (w.alloc (.cells #[.pointer (some ⟨g, 0, none⟩)] 25)) w.heap.size 25 #[.pointer (some ⟨g, 0, none⟩)] := Blk.new _ _ _
  have hz1 : (w.alloc (.cells #[.pointer (some ⟨g, 0, none⟩)] 25)).heap.size = w.heap.size + 1 := by simp
  generalize w.alloc (.cells #[.pointer (some ⟨g, 0, none⟩)] 25) = w1 at *
  have hsp1 := h.below hb1 (by omega)
  have HW1 := Lib.hid (show Only g w w1 from ⟨hb1.mono (by omega), fun b hb _ => hb1.block b hb⟩)
  have hca1 : CellAt w.heap.size 0 (.pointer (some ⟨g, 0, none⟩)) w1 := ⟨hB1.lt, hB1.cell 0⟩
  have c1 := hca1.2
  clear h hb1
  refine (upto_spec B w1 g k n hsp1 (by omega) (by omega)).mono ?_
  rintro e w2 ⟨m, rfl, hm, hsp2, ho2⟩
  have hbg : w.heap.size ≠ g := by omega
  have hca2 := hca1.only hbg ho2
  have hz2 := ho2.below.size
  have HW2 := Lib.hid (HW1.out.trans ho2)
  clear ho2 hca1 c1 hsp1 hB1 HW1
  go_wp2_with fail
  go_loopw [5, 7, 12] (fun v _ i wr => ∃ (j : Nat) (l : List Rule) (k' : Nat), j ≤ m ∧ i = iv j ∧ Own ruleE 29 w2.heap.size wr v l ∧ l.length ≤ j ∧ Hid (l.Nodup ∧ ∀ r ∈ l, Price.allowed r = true ∧ 10 ≤ r.p ∧ r.p ≤ 14) ∧ k' ≤ k + 1 + 22 * j ∧ IsSpool B wr g k' ∧ Hid (Only g w2 wr)) (fun _ _ i _ => m - (intOf i).toNat)
  case atStart => exact ⟨0, [], _, by omega, rfl, Own.nil, by simp, by exact ⟨List.nodup_nil, fun r hr => (by cases hr)⟩, by omega, hsp2, Only.refl _ _⟩
  case round =>
    obtain ⟨j, l, k', hj, rfl, hown, hll, hml, hk', hsp, hon⟩ := hrel
    have hzr := hon.out.below.size
    by_cases hlt : j < m
    · have hca := hca2.only hbg hon.out
      have hspd : IsSpool B wr.drew g k' := hsp.keep (Nat.le_refl _) fun _ _ => rfl
      have HSP := Lib.hid hsp
      have HOWN := Lib.hid hown
      have HSd : Hid (CellAt w.heap.size 0 (.pointer (some ⟨g, 0, none⟩)) wr.drew) := hca
      have hgw : g ≤ wr.heap.size := by omega
      have hzd : wr.heap.size ≤ wr.drew.heap.size := Nat.le_refl _
      have HO0 : Hid (Only g wr wr.drew) := ⟨(Below.refl _ wr).drew, fun _ _ _ => rfl⟩
      have HP3 : Hid (∀ (x : World) (kk : Nat), IsSpool B x g kk → kk < 10000000 → CellAt w.heap.size 0 (.pointer (some ⟨g, 0, none⟩)) x → Calls Tryz.prog 31 #[iv 3, .pointer (some ⟨w.heap.size, 0, none⟩)] x fun e w' => ∃ (r : Int) (k' : Nat), e = .returned (iv r) ∧ -1 ≤ r ∧ r ≤ 3 ∧ k' ≤ kk + 2 ∧ IsSpool B w' g k' ∧ Only g x w') := fun x kk h1 h2 h4 => part_spec B g kk w.heap.size 3 x h1 h2 (by omega) hbg h4
      have HP2 : Hid (∀ (x : World) (kk : Nat), IsSpool B x g kk → kk < 10000000 → CellAt w.heap.size 0 (.pointer (some ⟨g, 0, none⟩)) x → Calls Tryz.prog 31 #[iv 2, .pointer (some ⟨w.heap.size, 0, none⟩)] x fun e w' => ∃ (r : Int) (k' : Nat), e = .returned (iv r) ∧ -1 ≤ r ∧ r ≤ 2 ∧ k' ≤ kk + 2 ∧ IsSpool B w' g k' ∧ Only g x w') := fun x kk h1 h2 h4 => part_spec B g kk w.heap.size 2 x h1 h2 (by omega) hbg h4
      have HFR : Hid (∀ (x : World) (kk : Nat), IsSpool B x g kk → kk < 10000000 → Calls Tryz.prog 7 #[.pointer (some ⟨g, 0, none⟩), iv 10, iv 14] x fun e w' => ∃ r : Nat, e = .returned (iv r) ∧ 10 ≤ r ∧ r ≤ 14 ∧ IsSpool B w' g (kk + 1) ∧ Only g x w') := fun x kk h1 h2 => from_spec B x g kk 10 14 h1 (by omega) (by omega) (by omega)
      clear hsp hown
      go_upto_region 5 with fail
      go_cut [7] from 13 to 31 (fun s wx => ∃ (gb : Nat) (r : Rule) (k2 : Nat), s = .pointer (some ⟨gb, 0, none⟩) ∧ Blk wx gb 29 #[iv r.b, iv r.s, iv r.e, iv r.p] ∧ Price.allowed r = true ∧ (10 ≤ r.p ∧ r.p ≤ 14) ∧ k2 ≤ k' + 22 ∧ IsSpool B wx g k2 ∧ Only g wr wx ∧ wr.heap.size ≤ gb)
      case first =>
        have hk9 : k' < 5000000 := by omega
        have hwz2 : w.heap.size < wr.heap.size := by omega
        clear HOWN hml hll hk' hk hn hmk HW2 hca2 hsp2 hz1 hz2 hzr hlt hm hj hon
        refine wp_free_lit (by kernel_rfl) 10 (by kernel_rfl) (by kernel_rfl) (by decide) (fun n x => Only g wr x ∧ ∃ kk, kk ≤ k' + 2 * n ∧ IsSpool B x g kk) (Only g)
          [fun v u x => u = .func (.func 31) #[] #[.pointer (some ⟨w.heap.size, 0, none⟩)],
           fun v u x => ∃ r : Int, u = iv r ∧ -1 ≤ r ∧ r ≤ 3,
           fun v u x => u = .func (.func 31) #[] #[.pointer (some ⟨w.heap.size, 0, none⟩)],
           fun v u x => ∃ r : Int, u = iv r ∧ -1 ≤ r ∧ r ≤ 2,
           fun v u x => u = .func (.func 31) #[] #[.pointer (some ⟨w.heap.size, 0, none⟩)],
           fun v u x => ∃ r : Int, u = iv r ∧ -1 ≤ r ∧ r ≤ 2,
           fun v u x => u = .pointer (some ⟨g, 0, none⟩),
           fun v u x => ∃ r : Int, u = iv r ∧ 10 ≤ r ∧ r ≤ 14,
           fun v u x => u = .agg #[v 1, v 3, v 5, v 7],
           fun v u x => ∃ gb, u = .pointer (some ⟨gb, 0, none⟩) ∧ wr.heap.size ≤ gb ∧ Blk x gb 29 #[iv 0, iv 0, iv 0, iv 0]]
          ⟨HO0.out, k', by omega, hspd⟩ ?_ ?_
        · have hn9 : ∀ n : Nat, n < 1000 → True := fun _ _ => trivial
          simp only [List.take_succ_cons, List.take_zero, HopL]
          refine ⟨?_, ?_, ?_, ?_, ?_, ?_, ?_, ?_, ?_, ?_, trivial⟩
          · refine ⟨fun _ _ _ _ _ h => h, fun _ _ _ _ h _ => h, fun v n x hn hR hk => ?_⟩
            have c0 := (hca.only hbg hR.1).2
            simp only [List.take_succ_cons, List.take_zero, frameF, Act.put, List.setIfInBounds_toArray, List.set_cons_zero, List.set_cons_succ]
            exact stepF_val (by rfl) (by go_simp) ⟨rfl, Only.refl _ _, hR.1, hR.2.imp fun kk h => ⟨by omega, h.2⟩⟩
          · refine ⟨fun _ _ _ _ _ h => h, fun _ _ _ _ h _ => h, fun v n x hn hR hk => ?_⟩
            have h0 : v 0 = Value.func (.func 31) #[] #[.pointer (some ⟨w.heap.size, 0, none⟩)] := hk 0 (by kernel_rfl)
            have hn11 : n < 11 := hn
            obtain ⟨kk, hkk, hsk⟩ := hR.2
            simp only [List.take_succ_cons, List.take_zero, frameF, Act.put, List.setIfInBounds_toArray, List.set_cons_zero, List.set_cons_succ]
            refine stepF_call (by rfl) (by go_simp) (HP3.out x kk hsk (by omega) (hca.only hbg hR.1)) ?_
            rintro e x' ⟨r, k2, rfl, h1, h2, h3, h4, h5⟩
            exact ⟨_, rfl, ⟨r, rfl, h1, h2⟩, h5, hR.1.trans h5, k2, by omega, h4⟩
          · refine ⟨fun _ _ _ _ _ h => h, fun _ _ _ _ h _ => h, fun v n x hn hR hk => ?_⟩
            have c0 := (hca.only hbg hR.1).2
            simp only [List.take_succ_cons, List.take_zero, frameF, Act.put, List.setIfInBounds_toArray, List.set_cons_zero, List.set_cons_succ]
            exact stepF_val (by rfl) (by go_simp) ⟨rfl, Only.refl _ _, hR.1, hR.2.imp fun kk h => ⟨by omega, h.2⟩⟩
          · refine ⟨fun _ _ _ _ _ h => h, fun _ _ _ _ h _ => h, fun v n x hn hR hk => ?_⟩
            have h0 : v 2 = Value.func (.func 31) #[] #[.pointer (some ⟨w.heap.size, 0, none⟩)] := hk 2 (by kernel_rfl)
            have hn11 : n < 11 := hn
            obtain ⟨kk, hkk, hsk⟩ := hR.2
            simp only [List.take_succ_cons, List.take_zero, frameF, Act.put, List.setIfInBounds_toArray, List.set_cons_zero, List.set_cons_succ]
            refine stepF_call (by rfl) (by go_simp) (HP2.out x kk hsk (by omega) (hca.only hbg hR.1)) ?_
            rintro e x' ⟨r, k2, rfl, h1, h2, h3, h4, h5⟩
            exact ⟨_, rfl, ⟨r, rfl, h1, h2⟩, h5, hR.1.trans h5, k2, by omega, h4⟩
          · refine ⟨fun _ _ _ _ _ h => h, fun _ _ _ _ h _ => h, fun v n x hn hR hk => ?_⟩
            have c0 := (hca.only hbg hR.1).2
            simp only [List.take_succ_cons, List.take_zero, frameF, Act.put, List.setIfInBounds_toArray, List.set_cons_zero, List.set_cons_succ]
            exact stepF_val (by rfl) (by go_simp) ⟨rfl, Only.refl _ _, hR.1, hR.2.imp fun kk h => ⟨by omega, h.2⟩⟩
          · refine ⟨fun _ _ _ _ _ h => h, fun _ _ _ _ h _ => h, fun v n x hn hR hk => ?_⟩
            have h0 : v 4 = Value.func (.func 31) #[] #[.pointer (some ⟨w.heap.size, 0, none⟩)] := hk 4 (by kernel_rfl)
            have hn11 : n < 11 := hn
            obtain ⟨kk, hkk, hsk⟩ := hR.2
            simp only [List.take_succ_cons, List.take_zero, frameF, Act.put, List.setIfInBounds_toArray, List.set_cons_zero, List.set_cons_succ]
            refine stepF_call (by rfl) (by go_simp) (HP2.out x kk hsk (by omega) (hca.only hbg hR.1)) ?_
            rintro e x' ⟨r, k2, rfl, h1, h2, h3, h4, h5⟩
            exact ⟨_, rfl, ⟨r, rfl, h1, h2⟩, h5, hR.1.trans h5, k2, by omega, h4⟩
          · refine ⟨fun _ _ _ _ _ h => h, fun _ _ _ _ h _ => h, fun v n x hn hR hk => ?_⟩
            have c0 := (hca.only hbg hR.1).2
            simp only [List.take_succ_cons, List.take_zero, frameF, Act.put, List.setIfInBounds_toArray, List.set_cons_zero, List.set_cons_succ]
            exact stepF_val (by rfl) (by go_simp) ⟨rfl, Only.refl _ _, hR.1, hR.2.imp fun kk h => ⟨by omega, h.2⟩⟩
          · refine ⟨fun _ _ _ _ _ h => h, fun _ _ _ _ h _ => h, fun v n x hn hR hk => ?_⟩
            have h0 : v 6 = .pointer (some ⟨g, 0, none⟩) := hk 6 (by kernel_rfl)
            have hn11 : n < 11 := hn
            obtain ⟨kk, hkk, hsk⟩ := hR.2
            simp only [List.take_succ_cons, List.take_zero, frameF, Act.put, List.setIfInBounds_toArray, List.set_cons_zero, List.set_cons_succ]
            refine stepF_call (by rfl) (by go_simp) (HFR.out x kk hsk (by omega)) ?_
            rintro e x' ⟨r, rfl, h1, h2, h4, h5⟩
            exact ⟨_, rfl, ⟨(r : Int), rfl, by omega, by omega⟩, h5, hR.1.trans h5, kk + 1, by omega, h4⟩
          · refine ⟨fun v v' u x h hs => ?_, fun _ _ _ _ h _ => h, fun v n x hn hR hk => ?_⟩
            · show u = .agg #[v' 1, v' 3, v' 5, v' 7]
              rw [← h 1 (by kernel_rfl), ← h 3 (by kernel_rfl), ← h 5 (by kernel_rfl), ← h 7 (by kernel_rfl)]
              exact hs
            · have h1 : ∃ r : Int, v 1 = iv r ∧ -1 ≤ r ∧ r ≤ 3 := hk 1 (by kernel_rfl)
              have h3 : ∃ r : Int, v 3 = iv r ∧ -1 ≤ r ∧ r ≤ 2 := hk 3 (by kernel_rfl)
              have h5 : ∃ r : Int, v 5 = iv r ∧ -1 ≤ r ∧ r ≤ 2 := hk 5 (by kernel_rfl)
              have h7 : ∃ r : Int, v 7 = iv r ∧ 10 ≤ r ∧ r ≤ 14 := hk 7 (by kernel_rfl)
              obtain ⟨r1, e1, _⟩ := h1
              obtain ⟨r3, e3, _⟩ := h3
              obtain ⟨r5, e5, _⟩ := h5
              obtain ⟨r7, e7, _⟩ := h7
              simp only [List.take_succ_cons, List.take_zero, frameF, Act.put, List.setIfInBounds_toArray, List.set_cons_zero, List.set_cons_succ]
              exact stepF_val (u := .agg #[iv r1, iv r3, iv r5, iv r7]) (by rfl) (by go_simp) ⟨by show _ = Value.agg #[v 1, v 3, v 5, v 7]; rw [e1, e3, e5, e7], Only.refl _ _, hR.1, hR.2.imp fun kk h => ⟨by omega, h.2⟩⟩
          · refine ⟨fun _ _ _ _ _ h => h, fun v u x x' h hS => ?_, fun v n x hn hR hk => ?_⟩
            · obtain ⟨gb, h1, h2, h3⟩ := h
              exact ⟨gb, h1, h2, h3.only (by omega) hS⟩
            · obtain ⟨kk, hkk, hsk⟩ := hR.2
              simp only [List.take_succ_cons, List.take_zero, frameF, Act.put, List.setIfInBounds_toArray, List.set_cons_zero, List.set_cons_succ]
              refine stepF_new (u := .pointer (some ⟨x.heap.size, 0, none⟩)) (w' := x.alloc (.cells #[iv 0, iv 0, iv 0, iv 0] 29)) (by rfl) (by go_simp) ⟨⟨x.heap.size, rfl, hR.1.below.size, Blk.new _ _ _⟩, (Only.refl _ _).alloc_ (Nat.le_trans hgw hR.1.below.size) _, hR.1.alloc_ hgw _, kk, by omega, hsk.alloc_ _⟩
        · intro v n x hn hR hall
          have hn11 : n ≤ 11 := hn
          obtain ⟨kk, hkk, hsk⟩ := hR.2
          have h1 : ∃ r : Int, v 1 = iv r ∧ -1 ≤ r ∧ r ≤ 3 := hall 1 (by decide)
          have h3 : ∃ r : Int, v 3 = iv r ∧ -1 ≤ r ∧ r ≤ 2 := hall 3 (by decide)
          have h5 : ∃ r : Int, v 5 = iv r ∧ -1 ≤ r ∧ r ≤ 2 := hall 5 (by decide)
          have h7 : ∃ r : Int, v 7 = iv r ∧ 10 ≤ r ∧ r ≤ 14 := hall 7 (by decide)
          have h8 : v 8 = .agg #[v 1, v 3, v 5, v 7] := hall 8 (by decide)
          have h9 : ∃ gb, v 9 = .pointer (some ⟨gb, 0, none⟩) ∧ wr.heap.size ≤ gb ∧ Blk x gb 29 #[iv 0, iv 0, iv 0, iv 0] := hall 9 (by decide)
          obtain ⟨r1, e1, b1⟩ := h1
          obtain ⟨r3, e3, b3⟩ := h3
          obtain ⟨r5, e5, b5⟩ := h5
          obtain ⟨r7, e7, b7⟩ := h7
          obtain ⟨gb, e9, hgb, hBx⟩ := h9
          rw [e1, e3, e5, e7] at h8
          have hRx := hR.1
          have n0 := hBx.cell
          have n1 := hBx.frozen
          have n2 := hBx.lt
          clear hall hR
          simp only [List.drop_succ_cons, List.drop_zero, List.take_succ_cons, List.take_zero, frameF, Act.put, List.setIfInBounds_toArray, List.set_cons_zero, List.set_cons_succ]
          go_wp2_with fail
          go_meet
          refine ⟨gb, ⟨r1, r3, r5, r7⟩, kk, e9, (((hBx.set_ 0 _).set_ 1 _).set_ 2 _).set_ 3 _, ?_, ?_, ?_, (((hsk.set_ ?_ _).set_ ?_ _).set_ ?_ _).set_ ?_ _, (((hRx.setCell ?_ ?_ _).setCell ?_ ?_ _).setCell ?_ ?_ _).setCell ?_ ?_ _, hgb⟩
          · simp only [Price.allowed, Price.inB, Bool.and_eq_true, decide_eq_true_eq]; omega
          · dsimp only; omega
          · omega
          all_goals (first | omega | (simp; omega))
      case rest =>
        obtain ⟨gb, ⟨ra, rb, rc, rd⟩, k2, rfl, hB, hal, hrp, hk2, hsx, hox, hgb⟩ := hcut
        have hownx := HOWN.out.only (by omega) hox
        obtain ⟨A, c, rfl, _, _⟩ := hownx.form
        have HC : Hid (∀ W, Sl ruleE W A l → Calls Tryz.prog 34 #[.slice A l.length c, .agg #[iv ra, iv rb, iv rc, iv rd]] W fun e w' => e = .returned (.bool (l.contains (⟨ra, rb, rc, rd⟩ : Rule))) ∧ Below W.heap.size W w') := fun W hW => containsRule A l c ⟨ra, rb, rc, rd⟩ W (by unfold big; omega) hW
        have HSL := Lib.hid hownx.sl
        obtain ⟨n0, n1, n2, n3, n4, n5⟩ := hB.facts
        have HB := Lib.hid hB
        have hzx := hox.below.size
        have HON := Lib.hid (hon.out.trans hox)
        have HOWX := Lib.hid hownx
        have HAL := Lib.hid hal
        clear hB hownx hox hon hal HOWN HP3 HP2 HFR HO0 HSd hspd hca
        cases hct : l.contains (⟨ra, rb, rc, rd⟩ : Rule)
        · rw [hct] at HC
          go_wp2_with (first
            | (go_at_call 34; refine (HC.out _ HSL.out).mono ?_; rintro e w5 ⟨rfl, hb5⟩; have hB5 := HB.out.under hb5; obtain ⟨p0, p1, p2, p3, p4, p5⟩ := hB5.facts; clear n0 n1 n2 n3 n4 n5 hB5; have hz5 := hb5.size; have HOW5 := Lib.hid (HOWX.out.below hb5); have HSP5 := Lib.hid (hsx.below hb5 (by omega)); have HON5 := Lib.hid (HON.out.next hb5 (by omega) (by omega)); clear hb5)
            | (at_builtin; refine wpApp1 ruleE tyRules rfl _ _ rfl HOW5.out ⟨ra, rb, rc, rd⟩ rfl rfl rfl (by omega) (by unfold big; omega) ?_; intro v' w6 hown6 hb6 hk6))
          have hsp6 := HSP5.out.below hb6 (by omega)
          have HON6 := Lib.hid (HON5.out.next hb6 (by omega) (by omega))
          clear hb6 hk6
          go_roundw
          case rel =>
            refine ⟨j + 1, l ++ [⟨ra, rb, rc, rd⟩], k2, by omega, by go_num, hown6, by simp; omega, ?_, by omega, hsp6, HON6.out⟩
            refine ⟨List.nodup_append.2 ⟨hml.out.1, by simp, fun r hr q hq e => ?_⟩, fun r hr => ?_⟩
            · rw [List.mem_singleton] at hq
              subst hq; subst e
              have := List.contains_iff_mem.2 hr
              rw [hct] at this; cases this
            · rcases List.mem_append.1 hr with h | h
              · exact hml.out.2 r h
              · rw [List.mem_singleton] at h; subst h; exact ⟨HAL.out, hrp⟩
          case measure => simp [intOf]; omega
        · rw [hct] at HC
          go_wp2_with (first
            | (go_at_call 34; refine (HC.out _ HSL.out).mono ?_; rintro e w5 ⟨rfl, hb5⟩; have hz5 := hb5.size; have HOW5 := Lib.hid (HOWX.out.below hb5); have HSP5 := Lib.hid (hsx.below hb5 (by omega)); have HON5 := Lib.hid (HON.out.next hb5 (by omega) (by omega)); clear hb5 n0 n1 n2 n3 n4 n5))
          go_roundw
          case rel => exact ⟨j + 1, l, k2, by omega, by go_num, HOW5.out, by omega, hml, by omega, HSP5.out, HON5.out⟩
          case measure => simp [intOf]; omega
    · obtain ⟨A, c, rfl, _, _⟩ := hown.form
      have HOWN := Lib.hid hown
      clear hown
      go_wp2_with fail
      go_ret
      exact ⟨_, l, k', rfl, HOWN.out.base (by omega), ⟨by omega, hml.out.1, hml.out.2⟩, by omega, hsp, HW2.out.trans hon.out⟩
end Go.Proofs.YtkmcacgeecfjgaaGreatDoor
end
section
namespace Go.Proofs.YtkmcacgeecfjgaaGreatDoor
namespace Fl
open Go.RowKit
set_option maxRecDepth 100000
theorem eqArr (a b c d : Int) (w : World) : (Op.equalIn 10000 47 (.agg #[iv a, iv b]) (.agg #[iv c, iv d])).run Tryz.prog w = .ok (a == c && b == d) w := by
  obtain ⟨i, hi⟩ : ∃ i, (Tryz.prog).info? 3 = some i := by
    obtain ⟨i, z, h1, _⟩ := tyInts.info
    exact ⟨i, h1⟩
  rw [run_equalIn_array (P := Tryz.prog) w 9999 #[iv a, iv b] #[iv c, iv d] (t := 47) (e := 3) (n := 2) Tryz.underlying47 hi]
  have hc : (Tryz.prog).cellsOf 3 = 1 := by kernel_rfl
  have h3 : ∀ (x y : Int) (d : Nat), (Op.equalIn (d + 1) 3 (iv x) (iv y)).run Tryz.prog w = .ok (x == y) w := fun x y d => run_equalIn_int w d _ _ _ _ _ Tryz.underlying3
  have hp0 : ∀ a b : Int, (part 3 #[iv a, iv b] 0).run Tryz.prog w = .ok (iv a) w := fun _ _ => by kernel_rfl
  have hp1 : ∀ a b : Int, (part 3 #[iv a, iv b] 1).run Tryz.prog w = .ok (iv b) w := fun _ _ => by kernel_rfl
  rw [hc]
  have hr : List.range 2 = [0, 1] := rfl
  rw [hr]
  simp only [Op.eqItems]
  by_cases h1 : a = c <;> by_cases h2 : b = d <;>
    simp [hp0, hp1, h3, Result.andThen, h1, h2, Sem.run_bind]
theorem eqArrD (p q : Nat × Nat) (w : World) : (Op.equalIn 10000 47 (.agg #[iv (p.1 : Int), iv (p.2 : Int)]) (.agg #[iv (q.1 : Int), iv (q.2 : Int)])).run Tryz.prog w = .ok (decide (p = q)) w := by
  obtain ⟨a, b⟩ := p
  obtain ⟨c, d⟩ := q
  rw [eqArr]
  congr 1
  by_cases h1 : a = c <;> by_cases h2 : b = d <;> simp [h1, h2] <;> omega
end Fl
end Go.Proofs.YtkmcacgeecfjgaaGreatDoor
end
section
namespace Go.Proofs.YtkmcacgeecfjgaaGreatDoor.fpriced
open Go.ChangeShapes Go.WideShapes Go.ChangeAt Go.RowKit Go.Shelf
set_option maxRecDepth 100000
theorem from3 (B : Nat) (w : World) (g k : Nat) (h : IsSpool B w g k) (hk : k < 4611686018427387904) :
    Calls Tryz.prog 7 #[.pointer (some ⟨g, 0, none⟩), .int .i64 (-1), .int .i64 3] w fun e w' => ∃ r : Nat, e = .returned (iv ((r : Int) - 1)) ∧ r ≤ 4 ∧ IsSpool B w' g (k + 1) ∧ Only g w w' := by
  have HU : Hid (Calls Tryz.prog 33 #[.pointer (some ⟨g, 0, none⟩), .int .i64 4] w fun e w' => ∃ r : Nat, e = .returned (iv r) ∧ r ≤ 4 ∧ IsSpool B w' g (k + 1) ∧ Only g w w') := Lib.hid (upto_spec B w g k 4 h hk (by omega))
  go_enter Tryz.func7, Tryz.ntmps7
  go_wp2_with (go_at_call 33; refine HU.out.mono ?_; rintro e w1 ⟨r, rfl, hr, hsp, ho⟩; have hs2 : IntKind.i64.wrap (-1 + (r : Int)) = (r : Int) - 1 := by rw [show (-1 : Int) + (r : Int) = (r : Int) - 1 by omega]; exact IntWalk.i64_in _ (by omega))
  go_ret
  exact ⟨r, rfl, hr, hsp, ho⟩
theorem from4 (B : Nat) (w : World) (g k : Nat) (h : IsSpool B w g k) (hk : k < 4611686018427387904) :
    Calls Tryz.prog 7 #[.pointer (some ⟨g, 0, none⟩), .int .i64 (-1), .int .i64 4] w fun e w' => ∃ r : Nat, e = .returned (iv ((r : Int) - 1)) ∧ r ≤ 5 ∧ IsSpool B w' g (k + 1) ∧ Only g w w' := by
  have HU : Hid (Calls Tryz.prog 33 #[.pointer (some ⟨g, 0, none⟩), .int .i64 5] w fun e w' => ∃ r : Nat, e = .returned (iv r) ∧ r ≤ 5 ∧ IsSpool B w' g (k + 1) ∧ Only g w w') := Lib.hid (upto_spec B w g k 5 h hk (by omega))
  go_enter Tryz.func7, Tryz.ntmps7
  go_wp2_with (go_at_call 33; refine HU.out.mono ?_; rintro e w1 ⟨r, rfl, hr, hsp, ho⟩; have hs2 : IntKind.i64.wrap (-1 + (r : Int)) = (r : Int) - 1 := by rw [show (-1 : Int) + (r : Int) = (r : Int) - 1 by omega]; exact IntWalk.i64_in _ (by omega))
  go_ret
  exact ⟨r, rfl, hr, hsp, ho⟩
theorem from2 (B : Nat) (w : World) (g k : Nat) (h : IsSpool B w g k) (hk : k < 4611686018427387904) :
    Calls Tryz.prog 7 #[.pointer (some ⟨g, 0, none⟩), .int .i64 (-1), .int .i64 2] w fun e w' => ∃ r : Nat, e = .returned (iv ((r : Int) - 1)) ∧ r ≤ 3 ∧ IsSpool B w' g (k + 1) ∧ Only g w w' := by
  have HU : Hid (Calls Tryz.prog 33 #[.pointer (some ⟨g, 0, none⟩), .int .i64 3] w fun e w' => ∃ r : Nat, e = .returned (iv r) ∧ r ≤ 3 ∧ IsSpool B w' g (k + 1) ∧ Only g w w') := Lib.hid (upto_spec B w g k 3 h hk (by omega))
  go_enter Tryz.func7, Tryz.ntmps7
  go_wp2_with (go_at_call 33; refine HU.out.mono ?_; rintro e w1 ⟨r, rfl, hr, hsp, ho⟩; have hs2 : IntKind.i64.wrap (-1 + (r : Int)) = (r : Int) - 1 := by rw [show (-1 : Int) + (r : Int) = (r : Int) - 1 by omega]; exact IntWalk.i64_in _ (by omega))
  go_ret
  exact ⟨r, rfl, hr, hsp, ho⟩
/-- What Shortest returns of a list without an error. -/
theorem short_of (A : Option Addr) (l : List Rule) (c : Nat) (w : World) (h0 : Price.check l = 0) (hc : l.length ≤ c) (hs : Sl ruleE w A l) :
    ∃ x, Price.Rises l.length 0 x ∧ x.length ≤ l.length ∧ Calls Tryz.prog 9 #[.slice A l.length c] w fun e w' => ∃ A c, e = .returned (.tuple #[.slice A x.length c, iv 0]) ∧ x.length ≤ c ∧ Sl intE w' A x ∧ Below w.heap.size w w' := by
  obtain ⟨x, hx, hfx⟩ := Price.short_some l
  have hl := Price.check_length h0
  refine ⟨x, hfx.rises, by have := Price.rises_len hfx.rises (by omega); omega, (Shortest_spec A l c w (by unfold big; omega) hc hs).mono ?_⟩
  have hso : Price.shortOf l = (x, 0) := by unfold Price.shortOf; rw [if_pos h0, hx]; rfl
  rintro e w' ⟨A', c', h1, h2, h5, h3, h4⟩
  rw [hso] at h1 h2 h3
  exact ⟨A', c', h1, h2, h3, h4⟩
set_option maxHeartbeats 8000000 in
theorem priced_law (A : Option Addr) (bs : List Int) (c : Nat) (A' : Option Addr) (bs' : List Int) (c' : Nat) (w : World) (hs : Sl byteE w A bs) (hs' : Sl byteE w A' bs') (ht : Fl.Tab w) :
    Calls Tryz.prog 3 #[.slice A bs.length c, .slice A' bs'.length c'] w fun e w' => e = .returned (.bool true) ∧ Below w.heap.size w w' := by
  have HT := Lib.hid ht
  have HAW : Hid (∀ W, Below w.heap.size w W → Calls Tryz.prog 15 #[] W fun e w' => e = .returned (.bool true) ∧ Below W.heap.size W w') := Lib.hid fun W h => Fl.awake_spec W (HT.out.below h)
  have hcf := callFunc_run (P := Tryz.prog) (K := 10) (by kernel_rfl)
  clear ht
  go_enter Tryz.func3, Tryz.ntmps3
  go_wp2_with fail
  refine (wound_spec A bs c w hs).mono ?_
  rintro e w1 ⟨g, rfl, rfl, hsp1, hb1⟩
  go_wp2_with fail
  refine (made_spec _ w.heap.size 0 7 w1 hsp1 (by omega) (by omega)).mono ?_
  rintro e w2 ⟨vl, l, k3, rfl, hol, hml, hk3, hsp2, ho2⟩
  have hl7 := hml.len
  obtain ⟨Al, cl, rfl, hcl, _⟩ := hol.form
  have hsl2 := hol.sl
  have hb02 : Below w.heap.size w w2 := hb1.trans ho2.below
  have HML := Lib.hid hml
  go_wp2_with fail
  refine (wound_spec A' bs' c' w2 (hs'.below hb02)).mono ?_
  rintro e w3 ⟨g, rfl, rfl, hsp3, hb3⟩
  clear hs hs' hsp1 hsp2 ho2 hb1 hol hml hk3
  go_wp2_with fail
  refine (from3 _ w3 w2.heap.size 0 hsp3 (by omega)).mono ?_
  rintro e w4 ⟨x1, rfl, hx1, hsp4, ho4⟩
  have hb4 := hb3.trans ho4.below
  clear hsp3 ho4 hb3
  go_wp2_with fail
  refine (from4 _ w4 w2.heap.size 1 hsp4 (by omega)).mono ?_
  rintro e w5 ⟨x2, rfl, hx2, hsp5, ho5⟩
  have hb5 := hb4.trans ho5.below
  clear hsp4 ho5 hb4
  go_wp2_with fail
  refine (from2 _ w5 w2.heap.size 2 hsp5 (by omega)).mono ?_
  rintro e w6 ⟨x3, rfl, hx3, hsp6, ho6⟩
  have hb6 := hb5.trans ho6.below
  clear hsp5 ho6 hb5
  go_wp2_with fail
  refine (from_spec _ w6 w2.heap.size 3 20 40 hsp6 (by omega) (by omega) (by omega)).mono ?_
  rintro e w7 ⟨x4, rfl, hx4, hx4', hsp7, ho7⟩
  have hb7 := hb6.trans ho7.below
  clear hsp6 ho7 hb6 hsp7
  obtain ⟨r, hr⟩ : ∃ r : Rule, r = ⟨(x1 : Int) - 1, (x2 : Int) - 1, (x3 : Int) - 1, (x4 : Int)⟩ := ⟨_, rfl⟩
  have hal : Price.allowed r = true := by
    rw [hr]
    simp only [Price.allowed, Price.inB, Bool.and_eq_true, decide_eq_true_eq]
    omega
  have HPL := Lib.hid (Fl.plus_of HML.out hal (by rw [hr]; show (20 : Int) ≤ (x4 : Int); omega))
  have hbA : Below w7.heap.size w7 (w7.alloc (.cells #[iv ((x1 : Int) - 1), iv ((x2 : Int) - 1), iv ((x3 : Int) - 1), iv (x4 : Int)] 29)) := (Below.refl _ _).alloc (Nat.le_refl _) _
  have hB8 : Blk (w7.alloc (.cells #[iv ((x1 : Int) - 1), iv ((x2 : Int) - 1), iv ((x3 : Int) - 1), iv (x4 : Int)] 29)) w7.heap.size 29 #[iv ((x1 : Int) - 1), iv ((x2 : Int) - 1), iv ((x3 : Int) - 1), iv (x4 : Int)] := Blk.new _ _ _
  have hb28 := hb7.next hbA (Nat.le_refl _)
  have HAD : ∀ W, Below w2.heap.size w2 W → Calls Tryz.prog 8 #[.slice Al l.length cl, .agg #[iv ((x1 : Int) - 1), iv ((x2 : Int) - 1), iv ((x3 : Int) - 1), iv (x4 : Int)]] W fun e w' => ∃ v, e = .returned (.tuple #[v, iv 0]) ∧ Own ruleE 29 W.heap.size w' v (l ++ [r]) ∧ Below W.heap.size W w' := fun W h => by
    have := Add_spec Al l cl r W (by omega) hcl (hsl2.below h)
    rw [HPL.out.add] at this
    subst hr
    exact this
  have HAD := Lib.hid HAD
  have HNU : Hid (∀ q ∈ l, ∀ n ∈ Fl.nums q, -1 ≤ n ∧ n ≤ 600) := Lib.hid fun q hq => Fl.allowed_nums (HML.out.ok q hq).1
  have HNU2 : Hid (∀ q ∈ l ++ [r], ∀ n ∈ Fl.nums q, -1 ≤ n ∧ n ≤ 600) := Lib.hid fun q hq => Fl.allowed_nums (HPL.out.all q hq)
  have HPLd : Hid (File.diff (l.map File.rline) ((l ++ [r]).map File.rline) = [⟨((l.map File.rline).length : Int), [], [File.rline r]⟩]) := Lib.hid (by rw [List.length_map]; exact HPL.out.diff)
  have HCK1 : Hid (File.check (l.map File.rline) = 0) := Lib.hid (Fl.rlines_check (by omega))
  have HCK2 : Hid (File.check ((l ++ [r]).map File.rline) = 0) := Lib.hid (Fl.rlines_check (by simp; omega))
  have HUL : Hid ((l ++ [r]).length = l.length + 1) := Lib.hid (by simp)
  have HBA : Hid ((l ++ [r]).map File.rline = l.map File.rline ++ [File.rline r]) := Lib.hid (by simp)
  obtain ⟨u, hu⟩ : ∃ u, u = l ++ [r] := ⟨_, rfl⟩
  rw [← hu] at HAD HNU2 HPLd HCK2 HUL HBA
  clear hal hr hbA hb7 HPL hu
  go_wp2_with fail
  refine (HAD.out _ hb28).mono ?_
  rintro e w9 ⟨vu, rfl, hou, hb9⟩
  obtain ⟨Au, cu, rfl, hcu, _⟩ := hou.form
  have hb29 := hb28.next hb9 (Nat.le_refl _)
  obtain ⟨x, hxr, hxl, HSH⟩ := short_of Al l cl w9 (HML.out.check (by omega)) hcl (hsl2.below hb29)
  have HXR := Lib.hid hxr
  have HOU := Lib.hid hou
  clear HAD hB8 hb28 hb9 hxr hou
  go_wp2_with fail
  refine HSH.mono ?_
  rintro e w10 ⟨Ax, cx, rfl, hcx, hsx, hb10⟩
  have hb210 := hb29.next hb10 (Nat.le_refl _)
  have hsu10 := HOU.out.sl.below hb10
  have hul : u.length ≤ 8 := by have := HUL.out; omega
  have HT1 := Lib.hid (Fl.text_spec Al l cl w10 (by omega) (hsl2.below hb210) HNU.out)
  have HT2 := Lib.hid fun W (h : Below w10.heap.size w10 W) => Fl.text_spec Au u cu W (by omega) (hsu10.below h) HNU2.out
  have HSX := Lib.hid hsx
  clear HSH hb29 hb10 HOU hsu10 hsx HNU HNU2
  go_wp2_with fail
  refine HT1.out.mono ?_
  rintro e w11 ⟨va, rfl, hoa, hb11⟩
  have hb211 := hb210.next hb11 (Nat.le_refl _)
  clear HT1
  go_wp2_with fail
  refine (HT2.out _ hb11).mono ?_
  rintro e w12 ⟨vb, rfl, hob, hb12⟩
  have hb212 := hb211.next hb12 (Nat.le_refl _)
  have hb102 := hb11.next hb12 (Nat.le_refl _)
  clear HT2
  obtain ⟨Aa, ca, rfl, hca, _⟩ := hoa.form
  obtain ⟨Ab, cb, rfl, hcb, _⟩ := hob.form
  have HSA := Lib.hid (hoa.sl.below hb12)
  have HSB := Lib.hid hob.sl
  have HAL : Hid ((l.map File.rline).length = l.length) := Lib.hid (by simp)
  have HBL : Hid ((u.map File.rline).length = l.length + 1) := Lib.hid (by rw [List.length_map]; exact HUL.out)
  generalize hae : l.map File.rline = a at *
  generalize hbe : u.map File.rline = b at *
  have HAE := Lib.hid hae
  clear hae hbe hoa hob HUL
  have hal : a.length ≤ 7 := by have := HAL.out; omega
  have hbl : b.length ≤ 8 := by have := HBL.out; omega
  have HDI := Fl.Diff_spec Aa a ca Ab b cb w12 (by unfold big; omega) (by unfold big; omega) hca hcb HSA.out HSB.out
  rw [show Fl.errOf a b = 0 from (by unfold Fl.errOf; rw [if_pos HCK1.out]; exact HCK2.out), if_pos rfl, HPLd.out] at HDI
  have HDI := Lib.hid HDI
  go_wp2_with fail
  refine HDI.out.mono ?_
  rintro e w13 ⟨v, rs, rfl, hv, hr, hb13⟩
  obtain ⟨vs, q1, k1, fc1, ln1⟩ := Fl.eds_of hr
  have ho1 := Fl.own_eds hv fc1 ln1
  obtain ⟨C1, d1, rfl, _, _⟩ := ho1.form
  have hb213 := hb212.next hb13 (Nat.le_refl _)
  have hb103 := hb102.next hb13 (Nat.le_refl _)
  have HSB3 := Lib.hid (HSB.out.below hb13)
  have HSA3 := Lib.hid (HSA.out.below hb13)
  have hcut := Fl.run_cutFrom Fl.strE Fl.tyStrs Ab b.length cb a.length (by have := HAL.out; have := HBL.out; omega)
  rw [show b.length - a.length = 1 by have := HAL.out; have := HBL.out; omega] at hcut
  have hscut : Sl Fl.strE w13 (Fl.cutA Ab cb a.length Fl.strE.sz) (File.cut b a.length b.length) := Fl.Sl.cut HSB3.out hcb (by have := HAL.out; have := HBL.out; omega) (Nat.le_refl _)
  have hcutv : File.cut b a.length b.length = [File.rline r] := by
    unfold File.cut
    rw [HBA.out]
    simp
  rw [hcutv] at hscut
  have hc1 : 1 ≤ cb - a.length := by have := HAL.out; have := HBL.out; omega
  generalize Fl.cutA Ab cb a.length Fl.strE.sz = X at *
  generalize cb - a.length = cX at *
  have hwr : IntKind.i64.wrap ((a.length : Int) + 1) = (b.length : Int) := by
    have h1 := HAL.out; have h2 := HBL.out
    rw [show (a.length : Int) + 1 = (b.length : Int) by omega]
    exact IntWalk.i64_in _ (by omega)
  have hE := Sl.fresh Fl.edE w13 43 #[iv (a.length : Int), .slice none 0 0, .slice X 1 cX] [⟨(a.length : Int), none, 0, [], X, cX, [File.rline r]⟩] rfl (by simp [maxLen])
  have hb14 : Below w13.heap.size w13 (w13.alloc (.cells #[iv (a.length : Int), .slice none 0 0, .slice X 1 cX] 43)) := (Below.refl _ _).alloc (Nat.le_refl _) _
  have hSM := Fl.same_spec C1 vs d1 (some ⟨w13.heap.size, 0, none⟩) [⟨(a.length : Int), none, 0, [], X, cX, [File.rline r]⟩] 1 _ (by have := congrArg List.length q1; rw [List.length_map] at this; rw [this]; simp [big]) (ho1.sl.below hb14) (by simp [big]) hE (fun q hq => ⟨(k1 q hq).below hb14, by
    have hm : q.ed ∈ vs.map Fl.EdV.ed := List.mem_map_of_mem hq
    rw [q1, List.mem_singleton] at hm
    have h1 : q.old = [] := congrArg File.Edit.old hm
    have h2 : q.new = [File.rline r] := congrArg File.Edit.new hm
    rw [h1, h2]
    simp [big]⟩) (fun q hq => by
      obtain rfl := List.mem_singleton.1 hq
      exact ⟨⟨Sl.nil, hscut.below hb14, Nat.le_refl _, hc1⟩, by simp [big], by simp [big]⟩)
  rw [q1] at hSM
  rw [decide_eq_true (show ([(⟨(a.length : Int), [], [File.rline r]⟩ : File.Edit ByteArray)] = [(⟨(a.length : Int), none, 0, [], X, cX, [File.rline r]⟩ : Fl.EdV)].map Fl.EdV.ed) from rfl)] at hSM
  simp only [List.length_cons, List.length_nil, Nat.zero_add] at hSM
  have hb214 := hb213.next hb14 (Nat.le_refl _)
  have hb104 := hb103.next hb14 (Nat.le_refl _)
  have HSM := Lib.hid hSM
  clear HDI hv hr fc1 ln1 ho1 k1 q1 hscut hcutv hE hSM hb12 hb13 hc1 HSB HSB3 HSA HCK2 HBA HPLd
  go_wp2_with fail
  refine HSM.out.mono ?_
  rintro e w15 ⟨rfl, hb15⟩
  have hb215 := hb214.next hb15 (Nat.le_refl _)
  have hb1015 := hb104.next hb15 (Nat.le_refl _)
  have hb1315 := hb14.next hb15 (Nat.le_refl _)
  have HSLX : Hid (∀ W, Below w15.heap.size w15 W → Sl intE W Ax x) := Lib.hid fun W h => HSX.out.below (hb1015.next h (Nat.le_refl _))
  have HSLL : Hid (∀ W, Below w15.heap.size w15 W → Sl ruleE W Al l) := Lib.hid fun W h => hsl2.below (hb215.next h (Nat.le_refl _))
  have HXI : Hid (∀ i ∈ x, 0 ≤ i ∧ i < l.length) := Lib.hid fun i hi => by have := Price.rises_mem HXR.out i hi; omega
  clear HSM hb14 hb15 HSX hb104 hb103 hb102
  go_wp2_with fail
  go_loopw [16, 18, 90] (fun v _ i wr => ∃ k : Nat, k ≤ x.length ∧ i = iv k ∧ Own ruleE 29 w15.heap.size wr v (Price.chosen l (x.take k)) ∧ Below w15.heap.size w15 wr) (fun _ _ i _ => x.length - (intOf i).toNat)
  case atStart => exact ⟨0, by omega, rfl, Own.nil, Below.refl _ _⟩
  case round =>
    obtain ⟨k, hk, rfl, hown, hbw⟩ := hrel
    have hzr := hbw.size
    by_cases hlt : k < x.length
    · obtain ⟨b1, off, i, rfl, hb, hx, hc⟩ := (HSLX.out wr hbw).atI hlt
      have hib := HXI.out i (mem_at hx)
      obtain ⟨jj, rfl⟩ := Int.eq_ofNat_of_zero_le hib.1
      have hjl : jj < l.length := by omega
      obtain ⟨b2, off2, q, rfl, hb2, hr, hc0, hc1, hc2, hc3⟩ := (HSLL.out wr hbw).atR hjl
      have hta : Price.chosen l (x.take (k + 1)) = Price.chosen l (x.take k) ++ [q] := by
        rw [take_at hx]; unfold Price.chosen; rw [List.map_append]
        simp only [List.map_cons, List.map_nil, Int.toNat_natCast]
        rw [List.getD_eq_getElem?_getD, hr]; rfl
      have HTA := Lib.hid hta
      have hll : (Price.chosen l (x.take k)).length ≤ 1000 := by unfold Price.chosen; rw [List.length_map, List.length_take]; omega
      obtain ⟨ra, rb, rc, rd⟩ := q
      dsimp only at hc0 hc1 hc2 hc3
      have hji : (jj : Int) < (l.length : Int) := by omega
      have hji0 : ¬ (jj : Int) < 0 := by omega
      have hji2 : ¬ (l.length : Int) ≤ (jj : Int) := by omega
      have hki : (k : Int) < (x.length : Int) := by omega
      clear hta hx hr hib
      go_wp2_with (at_builtin; refine wpApp1 ruleE tyRules rfl _ _ rfl hown ⟨ra, rb, rc, rd⟩ rfl rfl rfl hzr (by unfold big; omega) ?_; intro v' w5 hown5 hb5 hk5)
      clear hk5
      go_roundw
      case rel => exact ⟨k + 1, by omega, by go_num, by rw [HTA.out]; exact hown5, hbw.trans hb5⟩
      case measure => simp [intOf]; omega
    · have hki : ¬ (k : Int) < (x.length : Int) := by omega
      rw [List.take_of_length_le (by omega)] at hown
      have HSC : Hid (File.common ((Price.chosen l x).map File.rline) a = (x.map Int.toNat).zipIdx.map fun z => (z.2, z.1)) := Lib.hid (by
        rw [← HAE.out]; exact Fl.short_common HML.out.nodup (fun q hq => (HML.out.ok q hq).1) HXR.out)
      have HNC : Hid (∀ q ∈ Price.chosen l x, ∀ n ∈ Fl.nums q, -1 ≤ n ∧ n ≤ 600) := Lib.hid fun q hq => by
        obtain ⟨j, hj, rfl⟩ := List.mem_map.1 hq
        have hj2 := HXI.out j hj
        have hjl : j.toNat < l.length := by omega
        rw [List.getD_eq_getElem?_getD, List.getElem?_eq_getElem hjl, Option.getD_some]
        exact Fl.allowed_nums (HML.out.ok _ (List.getElem_mem hjl)).1
      have HCK3 : Hid (File.check ((Price.chosen l x).map File.rline) = 0) := Lib.hid (Fl.rlines_check (by unfold Price.chosen; rw [List.length_map]; omega))
      have hSl : (Price.chosen l x).length ≤ 7 := by unfold Price.chosen; rw [List.length_map]; omega
      generalize Price.chosen l x = S at *
      obtain ⟨As, cs, rfl, hcs, _⟩ := hown.form
      obtain ⟨w16, rfl⟩ : ∃ w16 : World, w16 = wr := ⟨_, rfl⟩
      have hb216 := hb215.next hbw (Nat.le_refl _)
      have HSX6 : Hid (∀ W, Below w16.heap.size w16 W → Sl intE W Ax x) := Lib.hid fun W h => HSLX.out W (hbw.next h (Nat.le_refl _))
      have HSA6 : Hid (∀ W, Below w16.heap.size w16 W → Sl Fl.strE W Aa a) := Lib.hid fun W h => HSA3.out.below ((hb1315.next hbw (Nat.le_refl _)).next h (Nat.le_refl _))
      have HT3 := Lib.hid (Fl.text_spec As S cs w16 (by omega) hown.sl HNC.out)
      clear hown hbw hb215 HSLX HSLL HSA3 hzr HNC
      go_wp2_with fail
      refine HT3.out.mono ?_
      rintro e w17 ⟨vz, rfl, hoz, hb17⟩
      obtain ⟨Az, cz, rfl, hcz, _⟩ := hoz.form
      have hb217 := hb216.next hb17 (Nat.le_refl _)
      have hzl : (S.map File.rline).length ≤ 7 := by rw [List.length_map]; exact hSl
      generalize S.map File.rline = z at *
      have HCO := Fl.Common_spec Az z cz Aa a ca w17 (by unfold big; omega) (by unfold big; omega) hoz.sl (HSA6.out _ hb17)
      rw [show Fl.errOf z a = 0 from (by unfold Fl.errOf; rw [if_pos HCK3.out]; exact HCK1.out), if_pos rfl, HSC.out] at HCO
      have HCO := Lib.hid HCO
      clear HT3 hoz HSA6 hb216
      go_wp2_with fail
      refine HCO.out.mono ?_
      rintro e w18 ⟨vp, rfl, hop, hb18⟩
      obtain ⟨Ap, cp, hvp, hcp, _⟩ := hop.form
      have hpl : ((x.map Int.toNat).zipIdx.map fun z => (z.2, z.1)).length = x.length := by simp
      rw [hpl] at hvp
      subst hvp
      have hb218 := hb217.next hb18 (Nat.le_refl _)
      have hb178 := hb17.next hb18 (Nat.le_refl _)
      have HSP : Hid (∀ W, Below w18.heap.size w18 W → Sl Fl.pairE W Ap ((x.map Int.toNat).zipIdx.map fun z => (z.2, z.1))) := Lib.hid fun W h => hop.sl.below h
      have HSX8 : Hid (∀ W, Below w18.heap.size w18 W → Sl intE W Ax x) := Lib.hid fun W h => HSX6.out W (hb178.next h (Nat.le_refl _))
      have HPL := Lib.hid hpl
      have HPV : Hid (∀ (k : Nat) (p : Nat × Nat), ((x.map Int.toNat).zipIdx.map fun z => (z.2, z.1))[k]? = some p → ∃ i, x[k]? = some i ∧ p = (k, i.toNat)) := Lib.hid fun k p h => by
        rw [List.getElem?_map, List.getElem?_zipIdx, List.getElem?_map] at h
        obtain ⟨y, hy, rfl⟩ := Option.map_eq_some_iff.1 h
        obtain ⟨y1, hy1, rfl⟩ := Option.map_eq_some_iff.1 hy
        obtain ⟨i, hi, rfl⟩ := Option.map_eq_some_iff.1 hy1
        exact ⟨i, hi, by simp⟩
      generalize ((x.map Int.toNat).zipIdx.map fun z => (z.2, z.1)) = P at *
      clear HCO hop hpl hb217 hb17 hb18 hb178 HSX6 HSC HCK3
      go_wp2_with fail
      go_loopw [20, 21, 129] (fun _ _ i wr => ∃ k : Nat, k ≤ x.length ∧ i = iv k ∧ Below w18.heap.size w18 wr) (fun _ _ i _ => x.length - (intOf i).toNat)
      case atStart => exact ⟨0, by omega, rfl, Below.refl _ _⟩
      case round =>
        obtain ⟨k, hk, rfl, hbw⟩ := hrel
        by_cases hlt : k < x.length
        · have hki : (k : Int) < (x.length : Int) := by omega
          obtain ⟨b1, off1, p, rfl, hb1, hp, hp0, hp1⟩ := Fl.Sl.atPr (HSP.out wr hbw) (by have := HPL.out; omega : k < P.length)
          obtain ⟨i, hi, rfl⟩ := HPV.out k p hp
          have hib := HXI.out i (mem_at hi)
          obtain ⟨n, rfl⟩ := Int.eq_ofNat_of_zero_le hib.1
          simp only [Int.toNat_natCast] at hp0 hp1
          have hbM : Below wr.heap.size wr (wr.alloc (.cells #[iv (k : Int), iv (n : Int)] 47)) := (Below.refl _ _).alloc (Nat.le_refl _) _
          have hbw2 := hbw.next hbM (Nat.le_refl _)
          obtain ⟨b2, off2, j, rfl, hb2, hj, hcj⟩ := (HSX8.out _ hbw2).atI hlt
          rw [hi] at hj
          obtain rfl := Option.some.inj hj
          have hM : Blk (wr.alloc (.cells #[iv (k : Int), iv (n : Int)] 47)) wr.heap.size 47 #[iv (k : Int), iv (n : Int)] := Blk.new _ _ _
          have heq := Fl.eqArrD (k, n) (k, n)
          rw [decide_eq_true rfl] at heq
          clear hp hi hib hj
          go_upto_region 27 with fail
          go_region
          all_goals
            have hqd : Below w18.heap.size w18 wr.drew := by first | exact hbw | exact hbw.drew
            go_wp2_with fail
            go_roundw
            case rel => exact ⟨k + 1, by omega, by go_num, by first | exact hbw2 | exact hbw2.drew⟩
            case measure => simp [intOf]; omega
        · have hki : ¬ (k : Int) < (x.length : Int) := by omega
          have hb0w := hb02.next (hb218.next hbw (Nat.le_refl _)) (Nat.le_refl _)
          go_wp2_with fail
          refine (HAW.out _ hb0w).mono ?_
          rintro _ wz ⟨rfl, hbz⟩
          go_wp2_with fail
          go_ret
          exact ⟨rfl, hb0w.next hbz (Nat.le_refl _)⟩
theorem contract (H : Type) (enc : TypeId × Value → H) (W : World) (base : Nat) (args : Array Value) (ds gs : List (DataW H)) (before : List MemPlace)
    (hval : ∀ (j : Nat) t v, Tryz.f3.params[j]? = some t → args[j]? = some v → Value.okWide Tryz.prog W .any base t v)
    (hW : DataW.Whole enc Tryz.prog Tryz.f3.params.toList Rows.filePricedSpec.vars false W args.toList ds gs before) (hL : laidMetH Tryz.prog Rows.filePricedRow.laid W) :
    Calls Tryz.prog 3 args W fun e W' => ∃ v, e = .returned v ∧ Rows.filePricedSpec.post enc Tryz.prog Tryz.f3 false true false false W args v W' := by
  have hW' := hW
  obtain ⟨p, q, hA0, hV, he, hfz, hnd⟩ := hW
  have hA : DataW.TrodAll enc Tryz.prog W 0 (fun _ => true) true Tryz.f3.params.toList args.toList ds p := hA0
  rw [Tryz.params3] at hA hval
  obtain ⟨v0, vs0, d0, ds0, p0, q0, hargs, rfl, rfl, h0, r0⟩ := trodAll_cons hA
  obtain ⟨v1, vs1, d1, ds1, p1, q1, rfl, rfl, rfl, h1, r1⟩ := trodAll_cons r0
  obtain ⟨rfl, rfl, rfl⟩ := trodAll_nil r1
  obtain rfl : args = #[v0, v1] := by cases args; simp_all
  obtain ⟨rfl, rfl⟩ := trodVars_none hV
  obtain ⟨A, bs, c, rfl, hc, hm, hs⟩ := openBytes (hval 0 _ v0 rfl rfl) h0
  obtain ⟨A', bs', c', rfl, hc', hm', hs'⟩ := openBytes (hval 1 _ v1 rfl rfl) h1
  refine (priced_law A bs c A' bs' c' W hs hs' (tab_of hL)).mono fun e W' ⟨he', hb⟩ => ?_
  subst he'
  exact ⟨_, rfl, law_post (by rw [Tryz.params3]; decide) rfl rfl Tryz.underlying4 hW' hb rfl rfl rfl⟩
theorem reads (os : Os) {H : Type} (enc : TypeId × Value → H) : ∃ places, DataW.whole enc Tryz.prog ((laidWorld os).forCall (fun _ _ => 0) ⟨#[], #[.slice none 0 0, .slice none 0 0], []⟩).memory Tryz.f3.params.toList Rows.filePricedSpec.vars false #[Value.slice none 0 0, Value.slice none 0 0].toList 8 = some ([.nil, .nil], [], places) :=
  ⟨[], by kernel_rfl⟩
theorem lifted (os : Os) (started : os.Started) (H : Type) (enc : TypeId × Value → H) (F : Stop.Interp) :
    ReturnsInHanded {} Tryz.checked os 3 .any ((OpenSpec.ofChange Rows.filePricedSpec).preRow enc Tryz.prog Tryz.f3 Rows.filePricedRow.domain false Rows.filePricedRow.laid) (((OpenSpec.ofChange Rows.filePricedSpec).at F).post enc Tryz.prog Tryz.f3 false true false false) := by
  obtain ⟨places, hx⟩ := reads os enc
  refine returnsInHanded_of_row (C := Tryz.checked) (s := OpenSpec.ofChange Rows.filePricedSpec) own started (by kernel_rfl) Tryz.func3
    (witness_row_at (enc := enc) (C := Tryz.checked) false (laidWorld os) #[.slice none 0 0, .slice none 0 0] rfl (by kernel_rfl) (by kernel_rfl) (by kernel_rfl)
      (OpenSpec.preRow_of_cond 8 hx (by kernel_rfl) (fun k hk => by cases hk) (by kernel_rfl) (laid_met os _))) ?_
  intro W base args ds gs before hval hW _ _ _ hL _ _
  exact contract H enc W base args ds gs before hval hW hL
theorem said : Rows.FilePricedSaid :=
  OpenClaim.holds_of_cond 3 Tryz.f3 rfl rfl rfl rfl rfl rfl rfl ⟨rfl, rfl, rfl, rfl, rfl⟩ rfl rfl rfl rfl rfl (by kernel_rfl) Tryz.func3 (by kernel_rfl)
    (of_decide_eq_true (by kernel_rfl)) (by unfold Func.isWrapper; first | (rw [if_pos (by decide +kernel)]; kernel_rfl) | (rw [if_neg (by decide +kernel)]; exact ⟨rfl, rfl⟩))
    (fun os started H enc _ F => by rw [OpenClaim.pre_eq_preRow]; exact lifted os started H enc F)
theorem plain (f : FuncId) (fn : Func) (hf : Tryz.pinned.checked.prog.funcNamed "petersham/petershamlaw11.FilePriced" = some f) (hfn : Tryz.pinned.checked.prog.funcs[f]? = some fn) :
    false = Tryz.pinned.checked.prog.looks [] ∧ ∀ (j : Nat) t, fn.params[j]? = some t → Tryz.pinned.checked.prog.wantsStandIn t = false := by
  obtain rfl : f = 3 := Option.some.inj ((show Tryz.prog.funcNamed "petersham/petershamlaw11.FilePriced" = some 3 by kernel_rfl).symm.trans hf) |>.symm
  obtain rfl : fn = Tryz.f3 := (Option.some.inj (Tryz.func3.symm.trans hfn)).symm
  refine ⟨by kernel_rfl, fun j t ht => ?_⟩
  rw [Tryz.params3] at ht
  have ht' := Array.mem_of_getElem? ht
  simp at ht'
  subst ht'
  exact (show Tryz.prog.wantsStandIn 22 = false by kernel_rfl)
/-- THE CARD. -/
theorem card : Rows.FilePricedCardSaid :=
  Claim7.holds_tied_plain_at .later [] _ _ _ _ said (fun _ h => by cases h) (by kernel_rfl) (fun _ h => by cases h) filePriced_row_tie rfl ⟨rfl, rfl⟩ (by kernel_rfl) rfl plain (by kernel_rfl)
end Go.Proofs.YtkmcacgeecfjgaaGreatDoor.fpriced
end
