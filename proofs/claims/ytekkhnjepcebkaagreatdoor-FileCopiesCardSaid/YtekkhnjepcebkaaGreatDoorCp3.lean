/- What the proof of the claim's theorem uses, part 3. The conditions stand in each statement. -/
import Derived.WalkKit
import Derived.WalkSpells
import Derived.WalkLawsBesides
import Derived.WalkSmall
import Derived.Lib.Hide
import Derived.Laws.OwnMore
import Derived.Laws.CopyOwn
import Derived.Deep.Draws
import Derived.Laws.AppendOwnNone
import Derived.Test.YtekkhnjepcebkaaGreatDoorProg
import Derived.Outline
import Derived.BigQuiet
import Derived.Deep.QuietTactic
import Derived.Lib.OthersKept
import Derived.Laws.EntriesVeiled
import Derived.Shelf.Strings.Builder1
import Derived.Shelf.LaysM
import Derived.Shelf.Strconv.Itoa3
import Derived.Orders
import Derived.RegionTactic
import Derived.BigRegion
import Derived.Deep.DeepCutAuto
import Derived.Maps.OwnRows
import Derived.Maps.GroupsBeside
import Derived.Deep.RegionHeld3
import Derived.Lib.SliceRun
import Derived.RangeFuncNested
import Derived.RangeFuncBound
import Derived.RangeFuncCalls
import Derived.RangeFuncLeaves
import Derived.Shelf.Abstract
import Derived.Shelf.RegionOpen
import Derived.OwnWalkIn
import Derived.TacticsInMore
import Derived.LoopNIn
import Derived.LoopIn
import Derived.Sort.QuietIn
import Derived.Deep.Quiet
import Derived.Maps.AppendAt
import Derived.Shelf.Bits.Mul64
import Derived.ArgAppend
import Derived.Lib.MinMax
import Derived.ChangeKeysEq
import Derived.WalkMore
import Derived.Deep.CutBlock
import Derived.Laws.BytesArg
import Derived.Laws.IdiomStrings
import Derived.Shelf.Spec.SlicesInsert
import Derived.Shelf.Spec.SlicesInsertGrow
import Derived.Deep.RegionLaw
import Derived.Test.YtekkhnjepcebkaaGreatDoorCards
import Derived.Test.YtekkhnjepcebkaaGreatDoorTie
import Derived.ProofKit
import Derived.Deep.DeepHandedRow
import Derived.Lib.LaidTab
import Derived.Stop.LaidErr
import Derived.ChangeSame
import Derived.RowKit3
import Derived.ReadAgain
import Derived.OpenShut
import Derived.ChangeSlices
import Derived.SliceStrings
import Derived.Deep.Slices
import Derived.Deep.Fields
import Derived.Test.YtekkhnjepcebkaaGreatDoorCp2
set_option linter.unusedVariables false
set_option linter.unusedSimpArgs false
section
namespace Go.Proofs.YtekkhnjepcebkaaGreatDoor
namespace File
/-- No next edit of a copy meets one of the other copy's block. -/
def Calm (X Y : List (Edit ByteArray)) (ky jx jy : Nat) : Prop := ∀ x, X[jx]? = some x → ∀ m y, ky ≤ m → m < jy → Y[m]? = some y → meet x y = false
/-- What is so while nothing grew. -/
def Idle (C D : List (Edit ByteArray)) (k0 k1 i0 i1 t j0 j1 : Nat) (z : Bool) : Prop := z = false → j0 = i0 ∧ j1 = i1 ∧ (1 ≤ t → Calm C D k1 i0 i1) ∧ (2 ≤ t → Calm D C k0 i1 i0)
/-- The pair of places where one copy's (t) is n. -/
def at2 (t n p0 p1 : Nat) : Nat × Nat := if t = 0 then (n, p1) else (p0, n)
end File
namespace Fl
open Go.RowKit
set_option maxRecDepth 100000
/-- The number in a cell, and a truth as a number: measures. -/
def cellN (w : World) (g o : Nat) : Nat := match w.cell? ⟨g, o, none⟩ with
  | some v => (intOf v).toNat
  | none => 0
def boolN : Value → Nat
  | .bool true => 1
  | _ => 0
theorem Blk.cellN {w : World} {g o : Nat} {t : TypeId} {cs : Array Value} {n : Nat} (h : Blk w g t cs) (hc : cs[o]? = some (iv (n : Int))) : cellN w g o = n := by
  unfold Fl.cellN
  rw [h.cell o, hc]
  simp [intOf]
/-- The two copies from one of them (t): its edits, its place, the other one's. -/
structure Twin (wR : World) (gC gD : Nat) (C D : List (File.Edit ByteArray)) (k0 k1 : Nat) (bk : File.Block ByteArray) (j0 j1 t : Nat) (vX vY : List EdV) (AX AY : Option Addr) (dX dY u jx jy ky : Nat) : Prop where
  ut : u + t = 1
  lx : vX.length ≤ 25
  ly : vY.length ≤ 25
  hjx : jx ≤ vX.length
  hky : ky ≤ jy
  hjy : jy ≤ vY.length
  cells : ∀ W, Below wR.heap.size wR W → W.cell? ⟨gC, t, none⟩ = some (.slice AX vX.length dX) ∧ W.cell? ⟨gC, u, none⟩ = some (.slice AY vY.length dY) ∧ W.cell? ⟨gD, u, none⟩ = some (iv (ky : Int)) ∧ gC < W.heap.size ∧ gD < W.heap.size
  slx : ∀ W, Below wR.heap.size wR W → Sl edE W AX vX
  sly : ∀ W, Below wR.heap.size wR W → Sl edE W AY vY
  small : ∀ r, r ∈ vX ∨ r ∈ vY → 0 ≤ r.at_ ∧ r.at_ ≤ 24 ∧ r.old.length ≤ 24 ∧ r.new.length ≤ 24
  grow : ∀ n m x y, File.Grows C D k0 k1 bk (File.at2 t n j0 j1).1 (File.at2 t n j0 j1).2 → (vX.map EdV.ed)[n]? = some x → ky ≤ m → m < jy → (vY.map EdV.ed)[m]? = some y → File.meet x y = true → File.Grows C D k0 k1 bk (File.at2 t (n + 1) j0 j1).1 (File.at2 t (n + 1) j0 j1).2
  place : ∀ n, (#[iv ((File.at2 t n j0 j1).1 : Int), iv ((File.at2 t n j0 j1).2 : Int)] : Array Value)[t]? = some (iv (n : Int)) ∧ (#[iv ((File.at2 t n j0 j1).1 : Int), iv ((File.at2 t n j0 j1).2 : Int)] : Array Value)[u]? = some (iv (jy : Int)) ∧ (File.at2 t n j0 j1).1 + (File.at2 t n j0 j1).2 + jx = j0 + j1 + n
  set_ : ∀ n, (#[iv ((File.at2 t n j0 j1).1 : Int), iv ((File.at2 t n j0 j1).2 : Int)] : Array Value).setIfInBounds t (iv ((n : Int) + 1)) = #[iv ((File.at2 t (n + 1) j0 j1).1 : Int), iv ((File.at2 t (n + 1) j0 j1).2 : Int)]
  self : File.at2 t jx j0 j1 = (j0, j1)
  calm : File.Calm (vX.map EdV.ed) (vY.map EdV.ed) ky jx jy → (t = 0 → File.Calm C D k1 j0 j1) ∧ (t = 1 → File.Calm D C k0 j1 j0)
theorem alike_of {wR : World} {gC gD : Nat} {C D : List (File.Edit ByteArray)} {k0 k1 j0 j1 t : Nat} {bk : File.Block ByteArray} {rl : List (File.Block ByteArray)} {vs0 vs1 : List EdV} {C0 C1 : Option Addr} {d0 d1 : Nat}
    (hst : File.Steps (C.drop k0) (D.drop k1) (bk :: rl)) (hg : File.Grows C D k0 k1 bk j0 j1) (hq0 : vs0.map EdV.ed = C) (hq1 : vs1.map EdV.ed = D) (hv0 : vs0.length ≤ 25) (hv1 : vs1.length ≤ 25) (hn0 : k0 + bk.e0.length ≤ vs0.length) (hn1 : k1 + bk.e1.length ≤ vs1.length)
    (hw : ∀ W, Below wR.heap.size wR W → Blk W gC 120 #[.slice C0 vs0.length d0, .slice C1 vs1.length d1] ∧ Blk W gD 83 #[iv (k0 : Int), iv (k1 : Int)] ∧ Sl edE W C0 vs0 ∧ Sl edE W C1 vs1)
    (hsm : ∀ r, r ∈ vs0 ∨ r ∈ vs1 → 0 ≤ r.at_ ∧ r.at_ ≤ 24 ∧ r.old.length ≤ 24 ∧ r.new.length ≤ 24) (ht : t < 2) :
    ∃ (vX vY : List EdV) (AX AY : Option Addr) (dX dY u jx jy ky : Nat), Twin wR gC gD C D k0 k1 bk j0 j1 t vX vY AX AY dX dY u jx jy ky := by
  have e1 := hg.lo0
  have e2 := hg.hi0
  have e3 := hg.lo1
  have e4 := hg.hi1
  by_cases ht0 : t = 0
  · subst ht0
    refine ⟨vs0, vs1, C0, C1, d0, d1, 1, j0, j1, k1, ⟨rfl, hv0, hv1, by omega, by omega, by omega, fun W h => ?_, fun W h => (hw W h).2.2.1, fun W h => (hw W h).2.2.2, hsm, fun n m x y hgr hx hm hm2 hy hmt => ?_, fun n => ⟨rfl, rfl, ?_⟩, fun n => by simp [File.at2], rfl, fun h => ⟨fun _ => ?_, fun h => by cases h⟩⟩⟩
    · obtain ⟨q1, q2, _⟩ := hw W h
      exact ⟨q1.cell 0, q1.cell 1, q2.cell 1, q1.lt, q2.lt⟩
    · rw [hq0] at hx
      rw [hq1] at hy
      exact File.Grows.in0 hst hgr hx hm hm2 hy hmt
    · simp [File.at2]; omega
    · rw [hq0, hq1] at h; exact h
  · have ht1 : t = 1 := by omega
    subst ht1
    refine ⟨vs1, vs0, C1, C0, d1, d0, 0, j1, j0, k0, ⟨rfl, hv1, hv0, by omega, by omega, by omega, fun W h => ?_, fun W h => (hw W h).2.2.2, fun W h => (hw W h).2.2.1, fun r hr => hsm r hr.symm, fun n m x y hgr hx hm hm2 hy hmt => ?_, fun n => ⟨rfl, rfl, ?_⟩, fun n => by simp [File.at2], rfl, fun h => ⟨fun h => (by cases h), fun _ => ?_⟩⟩⟩
    · obtain ⟨q1, q2, _⟩ := hw W h
      exact ⟨q1.cell 1, q1.cell 0, q2.cell 0, q1.lt, q2.lt⟩
    · rw [hq1] at hx
      rw [hq0] at hy
      exact File.Grows.in1 hst hgr hx hm hm2 hy hmt
    · simp [File.at2]; omega
    · rw [hq0, hq1] at h; exact h
/-- One copy (t) of a block that grew: its edits, from where to where. -/
structure Half (w8 : World) (gC gD gB : Nat) (bk : File.Block ByteArray) (t : Nat) (vT : List EdV) (AT : Option Addr) (dT kT iT : Nat) : Prop where
  hki : kT ≤ iT
  hil : iT ≤ vT.length
  hvl : vT.length ≤ 25
  cells : ∀ W, Below w8.heap.size w8 W → W.cell? ⟨gC, t, none⟩ = some (.slice AT vT.length dT) ∧ W.cell? ⟨gD, t, none⟩ = some (iv (kT : Int)) ∧ W.cell? ⟨gB, t, none⟩ = some (iv (iT : Int)) ∧ gC < W.heap.size ∧ gD < W.heap.size ∧ gB < W.heap.size
  slt : ∀ W, Below w8.heap.size w8 W → Sl edE W AT vT
  small : ∀ r, r ∈ vT → 0 ≤ r.at_ ∧ r.at_ ≤ 24 ∧ r.old.length ≤ 24 ∧ r.new.length ≤ 24
  part : ((vT.map EdV.ed).drop kT).take (iT - kT) = if t = 0 then bk.e0 else bk.e1
theorem half_of {w8 : World} {gC gD gB : Nat} {C D : List (File.Edit ByteArray)} {k0 k1 t : Nat} {bk : File.Block ByteArray} {vs0 vs1 : List EdV} {C0 C1 : Option Addr} {d0 d1 : Nat}
    (hf0 : bk.e0 = (C.drop k0).take bk.e0.length) (hf1 : bk.e1 = (D.drop k1).take bk.e1.length) (hq0 : vs0.map EdV.ed = C) (hq1 : vs1.map EdV.ed = D) (hv0 : vs0.length ≤ 25) (hv1 : vs1.length ≤ 25) (hn0 : k0 + bk.e0.length ≤ vs0.length) (hn1 : k1 + bk.e1.length ≤ vs1.length)
    (hw : ∀ W, Below w8.heap.size w8 W → Blk W gC 120 #[.slice C0 vs0.length d0, .slice C1 vs1.length d1] ∧ Blk W gD 83 #[iv (k0 : Int), iv (k1 : Int)] ∧ Blk W gB 83 #[iv ((k0 + bk.e0.length : Nat) : Int), iv ((k1 + bk.e1.length : Nat) : Int)] ∧ Sl edE W C0 vs0 ∧ Sl edE W C1 vs1)
    (hsm : ∀ r, r ∈ vs0 ∨ r ∈ vs1 → 0 ≤ r.at_ ∧ r.at_ ≤ 24 ∧ r.old.length ≤ 24 ∧ r.new.length ≤ 24) (ht : t < 2) :
    ∃ (vT : List EdV) (AT : Option Addr) (dT kT iT : Nat), Half w8 gC gD gB bk t vT AT dT kT iT := by
  by_cases ht0 : t = 0
  · subst ht0
    refine ⟨vs0, C0, d0, k0, k0 + bk.e0.length, ⟨by omega, hn0, hv0, fun W h => ?_, fun W h => (hw W h).2.2.2.1, fun r hr => hsm r (.inl hr), ?_⟩⟩
    · obtain ⟨q1, q2, q3, _⟩ := hw W h
      exact ⟨q1.cell 0, q2.cell 0, q3.cell 0, q1.lt, q2.lt, q3.lt⟩
    · rw [hq0, if_pos rfl, show k0 + bk.e0.length - k0 = bk.e0.length by omega]; exact hf0.symm
  · have ht1 : t = 1 := by omega
    subst ht1
    refine ⟨vs1, C1, d1, k1, k1 + bk.e1.length, ⟨by omega, hn1, hv1, fun W h => ?_, fun W h => (hw W h).2.2.2.2, fun r hr => hsm r (.inr hr), ?_⟩⟩
    · obtain ⟨q1, q2, q3, _⟩ := hw W h
      exact ⟨q1.cell 1, q2.cell 1, q3.cell 1, q1.lt, q2.lt, q3.lt⟩
    · rw [hq1, if_neg (by decide), show k1 + bk.e1.length - k1 = bk.e1.length by omega]; exact hf1.symm
theorem part_cons {L : List (File.Edit ByteArray)} {m i : Nat} {x : File.Edit ByteArray} (hx : L[m]? = some x) (hm : m < i) : (L.drop m).take (i - m) = x :: (L.drop (m + 1)).take (i - (m + 1)) := by
  rw [drop_at hx, show i - m = (i - (m + 1)) + 1 by omega, List.take_succ_cons]
theorem cut_ed {A : Option Addr} {vs : List EdV} {c i x : Nat} {w : World} (hc : vs.length ≤ c) (hi : i ≤ x) (hx : x ≤ vs.length) (hs : Sl edE w A vs) :
    ∃ (X : Option Addr) (n : Nat) (ys : List EdV), ys = File.cut vs i x ∧ Sl edE w X ys ∧ ∀ W : World, (Instr.slice 48 (.slice A vs.length c) (some (iv (i : Int))) (some (iv (x : Int))) none).run Tryz.prog W = .ok (.slice X ys.length n) W := by
  refine ⟨cutA A c i 3, c - i, File.cut vs i x, rfl, Sl.cut hs hc hi hx, ?_⟩
  have h1 := run_cut edE tyEdR A vs.length c i x hi (Nat.le_trans hx hc)
  have hl : (File.cut vs i x).length = x - i := by unfold File.cut; rw [List.length_take, List.length_drop]; omega
  rw [hl]
  exact h1
theorem ownSetE {α : Type} {E : Enc α} {e t : TypeId} {B : Nat} {w : World} {v : Value} {xs : List α} (h : Own E e B w v xs) {g o : Nat} {cs : Array Value} (hB : Blk w g t cs) (ht : t ≠ e) (u : Value) : Own E e B (w.setCell ⟨g, o, none⟩ u) v xs :=
  h.keep (by simp [World.setCell]) fun b hb => Below.heap_setCell w ⟨g, o, none⟩ u b fun e => ownNeBlk h hB ht (by rw [hb, e])
set_option maxHeartbeats 16000000 in
theorem rjoin_spec (A : Option Addr) (base : List ByteArray) (c : Nat) (A1 : Option Addr) (a : List ByteArray) (c1 : Nat) (A2 : Option Addr) (b : List ByteArray) (c2 : Nat) (w : World) (gB : Good base) (ga : Good a) (gb : Good b)
    (hc : base.length ≤ c) (hc1 : a.length ≤ c1) (hc2 : b.length ≤ c2) (hs : Sl strE w A base) (hs1 : Sl strE w A1 a) (hs2 : Sl strE w A2 b) :
    Calls Tryz.prog 14 #[.slice A base.length c, .slice A1 a.length c1, .slice A2 b.length c2] w fun e w' => ∃ v0 v1, e = .returned (.tuple #[v0, v1, iv (File.joinAns base a b).1]) ∧ Own strE 9 w.heap.size w' v0 (File.joinAns base a b).2.1 ∧ Own pairE 40 w.heap.size w' v1 (File.joinAns base a b).2.2 ∧ Below w.heap.size w w' := by
  obtain ⟨ans, hans⟩ : ∃ ans, ans = File.joinAns base a b := ⟨_, rfl⟩
  rw [← hans]
  have hans2 := File.joinAns_good gB ga gb
  rw [← hans] at hans2
  have HANS := Lib.hid hans2
  have hB24 : base.length ≤ 24 := gB.many
  have hR0 := rdiff_spec A base c A1 a c1 w gB.many ga.many hc hc1 hs hs1
  have HR1 := Lib.hid fun W (h : Below w.heap.size w W) => rdiff_spec A base c A2 b c2 W gB.many gb.many hc hc2 (hs.below h) (hs2.below h)
  have k0 := File.ch_of (File.back_facts gB ga).1
  have k1 := File.ch_of (File.back_facts gB gb).1
  have hst := File.blocks_steps (File.chain_diff base a) (File.chain_diff base b)
  have hbo := File.blocks_ok (File.chain_diff base a) (File.chain_diff base b) (File.within_diff base a) (File.within_diff base b)
  have hl0 := File.diff_len base a
  have hl1 := File.diff_len base b
  have hj : File.join base a b = File.joinGo base 0 (File.blocks (File.diff base a) (File.diff base b)) := rfl
  obtain ⟨C, hC⟩ : ∃ C, C = File.diff base a := ⟨_, rfl⟩
  obtain ⟨D, hD⟩ : ∃ D, D = File.diff base b := ⟨_, rfl⟩
  obtain ⟨bl, hbl⟩ : ∃ bl, bl = File.blocks C D := ⟨_, rfl⟩
  obtain ⟨J, hJ⟩ : ∃ J, J = File.join base a b := ⟨_, rfl⟩
  rw [← hC] at hR0 k0 hl0
  rw [← hD] at HR1 k1 hl1
  rw [← hC, ← hD, ← hbl] at hst hbo hj
  rw [← hJ] at hj HANS
  have HJ := Lib.hid hj
  have HST := Lib.hid hst
  have HBO := Lib.hid hbo
  have K0 := Lib.hid k0
  have K1 := Lib.hid k1
  clear hans hans2 hC hD hbl hJ hst hbo hj k0 k1 gB ga gb hs1 hs2
  go_enter Tryz.func14, Tryz.ntmps14
  go_wp2_with fail
  refine hR0.mono ?_
  rintro e w1 ⟨v, rfl, vs0, ho0, hq0, hk0, hb1⟩
  obtain ⟨C0, d0, rfl, hd0, _⟩ := ho0.form
  go_wp2_with fail
  refine (HR1.out w1 hb1).mono ?_
  rintro e w2 ⟨v, rfl, vs1, ho1, hq1, hk1, hb2⟩
  obtain ⟨C1, d1, rfl, hd1, _⟩ := ho1.form
  have hb02 := hb1.next hb2 (Nat.le_refl _)
  have hv0 : vs0.length ≤ 25 := by have := congrArg List.length hq0; rw [List.length_map] at this; omega
  have hv1 : vs1.length ≤ 25 := by have := congrArg List.length hq1; rw [List.length_map] at this; omega
  have HQ0 := Lib.hid hq0
  have HQ1 := Lib.hid hq1
  have HSM : Hid (∀ r, r ∈ vs0 ∨ r ∈ vs1 → 0 ≤ r.at_ ∧ r.at_ ≤ 24 ∧ r.old.length ≤ 24 ∧ r.new.length ≤ 24) := Lib.hid fun r hr => by
    rcases hr with hr | hr
    · have hm : r.ed ∈ C := by rw [← hq0]; exact List.mem_map_of_mem hr
      exact ⟨(K0.out.at_ _ hm).1, (K0.out.at_ _ hm).2, K0.out.old _ hm, K0.out.new _ hm⟩
    · have hm : r.ed ∈ D := by rw [← hq1]; exact List.mem_map_of_mem hr
      exact ⟨(K1.out.at_ _ hm).1, (K1.out.at_ _ hm).2, K1.out.old _ hm, K1.out.new _ hm⟩
  have hbC : Below w2.heap.size w2 (w2.alloc (.cells #[.slice C0 vs0.length d0, .slice C1 vs1.length d1] 120)) := (Below.refl _ _).alloc (Nat.le_refl _) _
  have hC : Blk (w2.alloc (.cells #[.slice C0 vs0.length d0, .slice C1 vs1.length d1] 120)) w2.heap.size 120 #[.slice C0 vs0.length d0, .slice C1 vs1.length d1] := Blk.new _ _ _
  have HV0 := Lib.hid ((ho0.below hb2).sl.below hbC)
  have HV1 := Lib.hid (ho1.sl.below hbC)
  have HK : Hid (∀ r, r ∈ vs0 ∨ r ∈ vs1 → EdOk w2 r) := Lib.hid fun r hr => by
    rcases hr with hr | hr
    · exact (hk0 r hr).below hb02
    · exact (hk1 r hr).below hb2
  clear ho0 ho1 hk0 hk1 hq0 hq1 HR1 hR0 hl0 hl1
  go_upto_region 5 with fail
  generalize w2.alloc (.cells #[.slice C0 vs0.length d0, .slice C1 vs1.length d1] 120) = w4 at *
  have hb04 := hb02.next hbC (Nat.le_refl _)
  have HK4 : Hid (∀ r, r ∈ vs0 ∨ r ∈ vs1 → EdOk w4 r) := Lib.hid fun r hr => (HK.out r hr).below hbC
  have HSB := Lib.hid (hs.below hb04)
  have HB04 := Lib.hid hb04
  have HC := Lib.hid hC
  have hgC : w2.heap.size < w4.heap.size := hC.lt
  generalize w2.heap.size = gC at *
  clear hbC hC HK hb1 hb2 hb02 hs hb04
  have hbD : Below w4.heap.size w4 (w4.alloc (.cells #[iv 0, iv 0] 83)) := (Below.refl _ _).alloc (Nat.le_refl _) _
  have HD0 := Lib.hid (Blk.new w4 83 #[iv 0, iv 0])
  have hgD : w4.heap.size < (w4.alloc (.cells #[iv 0, iv 0] 83)).heap.size := HD0.out.lt
  go_wp2_with fail
  generalize w4.alloc (.cells #[iv 0, iv 0] 83) = wD at *
  have HJ0 : Hid ([] ++ (File.joinGo base 0 bl).1 = J.1 ∧ [] ++ (File.joinGo base 0 bl).2 = J.2) := Lib.hid (by rw [HJ.out]; exact ⟨rfl, rfl⟩)
  go_loopw [10, 11, 12] (fun vo vc va wr => ∃ (k0 k1 q : Nat) (out : List ByteArray) (cf : List (Nat × Nat)) (bl : List (File.Block ByteArray)), va = iv (q : Int) ∧ q ≤ base.length ∧ k0 ≤ vs0.length ∧ k1 ≤ vs1.length ∧ out.length ≤ (k0 + k1) * 5000 ∧ cf.length ≤ k0 + k1 ∧
    Hid (File.Steps (C.drop k0) (D.drop k1) bl) ∧ Hid (File.BlocksOk base.length q bl) ∧ Hid (out ++ (File.joinGo base q bl).1 = J.1 ∧ cf ++ (File.joinGo base q bl).2 = J.2) ∧
    Hid (Own strE 9 w4.heap.size wr vo out) ∧ Hid (Own pairE 40 w4.heap.size wr vc cf) ∧ Hid (Blk wr w4.heap.size 83 #[iv (k0 : Int), iv (k1 : Int)]) ∧ Below w4.heap.size w4 wr)
    (fun _ _ _ wr => vs0.length + vs1.length - cellN wr w4.heap.size 0 - cellN wr w4.heap.size 1)
  case atStart => exact ⟨0, 0, 0, [], [], bl, rfl, Nat.zero_le _, Nat.zero_le _, Nat.zero_le _, Nat.zero_le _, Nat.zero_le _, HST, HBO, HJ0, Own.nil, Own.nil, HD0, hbD⟩
  case round =>
    clear HST HBO HJ0 HJ HD0 hbD bl
    obtain ⟨k0, k1, q, out, cf, bl, rfl, hq, hk0, hk1, hol, hcl, HST, HBO, HREL, HO, HCF, HD, hbr⟩ := hrel
    have hmd : vs0.length + vs1.length - cellN wr w4.heap.size 0 - cellN wr w4.heap.size 1 = vs0.length + vs1.length - k0 - k1 := by
      rw [Blk.cellN HD.out (n := k0) rfl, Blk.cellN HD.out (n := k1) rfl]
    have hCr := HC.out.under hbr
    have hDr := HD.out
    have gc0 := hCr.cell 0
    have gc1 := hCr.cell 1
    have gcl := hCr.lt
    have gd0 := hDr.cell 0
    have gd1 := hDr.cell 1
    have gdl := hDr.lt
    clear hCr hDr
    cases bl with
    | nil =>
      as_aux_lemma =>
        obtain ⟨z0, z1⟩ := HST.out
        have hl0 : C.length = vs0.length := by rw [← HQ0.out, List.length_map]
        have hl1 : D.length = vs1.length := by rw [← HQ1.out, List.length_map]
        have t0 : ¬ (k0 : Int) < (vs0.length : Int) := by have := List.drop_eq_nil_iff.1 z0; omega
        have t1 : ¬ (k1 : Int) < (vs1.length : Int) := by have := List.drop_eq_nil_iff.1 z1; omega
        have hd := HREL.out
        simp only [File.joinGo, List.append_nil] at hd
        obtain ⟨X, n, ys, hys, hyl, hsy, RC⟩ := cut_from hc hq (HSB.out.below hbr)
        have HYS := Lib.hid hys
        have HDD := Lib.hid hd
        have HO2 := HO.out
        obtain ⟨A6, c6, rfl, hc6, _⟩ := HO2.form
        have hsz := hbr.size
        clear hys hd HST HBO HREL z0 z1 hl0 hl1 hmd
        have htot : out ++ ys = J.1 := by rw [HYS.out]; exact HDD.out.1
        have hcf : cf = J.2 := HDD.out.2
        have hjl : J.1.length ≤ 1000000 := by rw [← htot, List.length_append]; omega
        subst hcf
        have HTOT := Lib.hid htot
        clear htot HDD
        by_cases h24 : 24 < J.1.length
        · have h24i : (J.1.length : Int) > 24 := by omega
          have HA : Hid (ans = (2, [], [])) := Lib.hid (by rw [HANS.out, if_pos h24])
          clear h24
          go_wp2_with (at_builtin; refine wpAppS strE tyStrs rfl _ _ rfl HO2 hsy rfl rfl hsz (by unfold big; omega) ?_; intro v7 w7 hown7 hb7 hk7; rw [HTOT.out] at hown7; obtain ⟨A7, c7, rfl, hc7, _⟩ := hown7.form)
          go_ret3
          exact ⟨_, _, by rw [HA.out]; rfl, by rw [HA.out]; exact Own.nil, by rw [HA.out]; exact Own.nil, HB04.out.next (hbr.trans hb7) (Nat.le_refl _)⟩
        · have h24i : ¬ (J.1.length : Int) > 24 := by omega
          have HA : Hid (ans = (0, J.1, J.2)) := Lib.hid (by rw [HANS.out, if_neg h24])
          clear h24
          go_wp2_with (at_builtin; refine wpAppS strE tyStrs rfl _ _ rfl HO2 hsy rfl rfl hsz (by unfold big; omega) ?_; intro v7 w7 hown7 hb7 hk7; rw [HTOT.out] at hown7; obtain ⟨A7, c7, rfl, hc7, _⟩ := hown7.form)
          go_ret3
          exact ⟨_, _, by rw [HA.out]; rfl, by rw [HA.out]; exact hown7.base HB04.out.size, by rw [HA.out]; exact Own.base (HCF.out.keep hb7.size fun b hb => hk7 b (HCF.out.lt b hb).2 (Own.two HCF.out HO2 (by decide) hb)) HB04.out.size, HB04.out.next (hbr.trans hb7) (Nat.le_refl _)⟩
    | cons bk rl =>
      have hfr := HST.out.front
      obtain ⟨f0, f1, hcn, hs2, haf⟩ := hfr
      obtain ⟨p1, p2, p3, p4, p5, p6, p7, p8⟩ := HBO.out
      have hl0 : C.length = vs0.length := by rw [← HQ0.out, List.length_map]
      have hl1 : D.length = vs1.length := by rw [← HQ1.out, List.length_map]
      have hn0 : k0 + bk.e0.length ≤ vs0.length := by
        have := congrArg List.length f0
        rw [List.length_take, List.length_drop] at this
        omega
      have hn1 : k1 + bk.e1.length ≤ vs1.length := by
        have := congrArg List.length f1
        rw [List.length_take, List.length_drop] at this
        omega
      have hfi := hcn.first
      obtain ⟨f, hf⟩ : ∃ f, f = File.firstCopy (C.drop k0) (D.drop k1) := ⟨_, rfl⟩
      rw [← hf] at hfi hcn
      have hor : k0 < vs0.length ∨ k1 < vs1.length := by
        cases f
        · have := List.length_pos_iff.2 (show bk.e0 ≠ [] from hfi); omega
        · have := List.length_pos_iff.2 (show bk.e1 ≠ [] from hfi); omega
      have HF := Lib.hid hf
      have HFI := Lib.hid hfi
      have HCN := Lib.hid hcn
      have HS2 := Lib.hid hs2
      have HF0 := Lib.hid f0
      have HF1 := Lib.hid f1
      have HP4 := Lib.hid p4
      have HP5 := Lib.hid p5
      have HP6 := Lib.hid p6
      have HP7 := Lib.hid p7
      have HP8 := Lib.hid p8
      have HL0 := Lib.hid hl0
      have HL1 := Lib.hid hl1
      clear hf hfi hcn hs2 f0 f1 p4 p5 p6 p7 p8 haf hl0 hl1 HBO
      go_upto_region 6 with fail
      go_cut [46] from 33 to 46 (fun v wx => v = .bool true ∧ wx = wr)
      case first =>
        by_cases h0 : k0 < vs0.length
        · have t0 : (k0 : Int) < (vs0.length : Int) := by omega
          clear hor
          go_wp2_with fail
          go_meet
          exact ⟨rfl, rfl⟩
        · have t0 : ¬ (k0 : Int) < (vs0.length : Int) := by omega
          have t1 : (k1 : Int) < (vs1.length : Int) := by omega
          clear hor
          go_wp2_with fail
          go_meet
          exact ⟨rfl, rfl⟩
      case rest =>
      obtain ⟨rfl, hwc⟩ := hcut
      rw [hwc]
      clear hwc wc hor
      generalize hwR : wr = wR at *
      have HWR := Lib.hid hwR
      clear hwR
      have hbB : Below wR.heap.size wR (wR.alloc (.cells #[iv (k0 : Int), iv (k1 : Int)] 83)) := (Below.refl _ _).alloc (Nat.le_refl _) _
      have HB5 := Lib.hid (Blk.new wR 83 #[iv (k0 : Int), iv (k1 : Int)])
      go_upto_region 9 with fail
      generalize wR.alloc (.cells #[iv (k0 : Int), iv (k1 : Int)] 83) = w5 at *
      have HFW : Hid (∀ W, Below wR.heap.size wR W → Blk W gC 120 #[.slice C0 vs0.length d0, .slice C1 vs1.length d1] ∧ Blk W w4.heap.size 83 #[iv (k0 : Int), iv (k1 : Int)] ∧ Sl edE W C0 vs0 ∧ Sl edE W C1 vs1 ∧ Own strE 9 w4.heap.size W u10 out ∧ Own pairE 40 w4.heap.size W u11 cf ∧ Below w4.heap.size w4 W) := Lib.hid fun W h =>
        ⟨HC.out.under (hbr.next h (Nat.le_refl _)), HD.out.under h, HV0.out.below (hbr.next h (Nat.le_refl _)), HV1.out.below (hbr.next h (Nat.le_refl _)), HO.out.below h, HCF.out.below h, hbr.next h (Nat.le_refl _)⟩
      clear gc0 gc1 gcl gd0 gd1 gdl
      go_cut [82] from 52 to 82 (fun v wx => v = .bool f ∧ Below w5.heap.size w5 wx)
      case first =>
        as_aux_lemma =>
          obtain ⟨q1, q2, q3, q4, q5, q6, q7⟩ := HFW.out w5 hbB
          have gc0 := q1.cell 0
          have gc1 := q1.cell 1
          have gcl := q1.lt
          have gd0 := q2.cell 0
          have gd1 := q2.cell 1
          have gdl := q2.lt
          by_cases h0 : k0 < vs0.length
          · have t0 : ((k0 : Int) == (vs0.length : Int)) = false := by simp; omega
            have t0i : (k0 : Int) < (vs0.length : Int) := by omega
            obtain ⟨bx, ox, x, eX, hbx, hx, x0, _, _⟩ := Sl.atEd q3 h0
            have hCx : C.drop k0 = x.ed :: C.drop (k0 + 1) := by rw [← HQ0.out]; exact drop_ed hx
            by_cases h1 : k1 < vs1.length
            · have t1 : (k1 : Int) < (vs1.length : Int) := by omega
              obtain ⟨by_, oy, y, eY, hby, hy, y0, _, _⟩ := Sl.atEd q4 h1
              have hDy : D.drop k1 = y.ed :: D.drop (k1 + 1) := by rw [← HQ1.out]; exact drop_ed hy
              have hfv : f = decide (y.at_ < x.at_) := by rw [HF.out, hCx, hDy]; rfl
              subst eX eY
              have HFV : Hid (decide (y.at_ < x.at_) = f) := Lib.hid hfv.symm
              clear q1 q2 q3 q4 q5 q6 q7 hx hy hCx hDy hfv
              go_quiet (fail)
              have hqd : Below w5.heap.size w5 (w5.drewN nq) := ⟨rfl, rfl, rfl, Nat.le_refl _, fun _ _ => rfl⟩
              generalize w5.drewN nq = wq at *
              go_wp2_with fail
              go_meet
              exact ⟨by rw [HFV.out], hqd⟩
            · have t1 : ¬ (k1 : Int) < (vs1.length : Int) := by omega
              have hfv : f = false := by rw [HF.out, hCx, List.drop_eq_nil_of_le (show D.length ≤ k1 by rw [HL1.out]; omega)]; rfl
              have HFV := Lib.hid hfv
              clear q1 q2 q3 q4 q5 q6 q7 hx hCx hfv eX hbx x0
              go_quiet (fail)
              have hqd : Below w5.heap.size w5 (w5.drewN nq) := ⟨rfl, rfl, rfl, Nat.le_refl _, fun _ _ => rfl⟩
              generalize w5.drewN nq = wq at *
              go_wp2_with fail
              go_meet
              exact ⟨by rw [HFV.out], hqd⟩
          · have t0 : ((k0 : Int) == (vs0.length : Int)) = true := by simp; omega
            have hfv : f = true := by rw [HF.out, List.drop_eq_nil_of_le (show C.length ≤ k0 by rw [HL0.out]; omega)]; rfl
            have HFV := Lib.hid hfv
            clear q1 q2 q3 q4 q5 q6 q7 hfv
            go_quiet (fail)
            have hqd : Below w5.heap.size w5 (w5.drewN nq) := ⟨rfl, rfl, rfl, Nat.le_refl _, fun _ _ => rfl⟩
            generalize w5.drewN nq = wq at *
            go_wp2_with fail
            go_meet
            exact ⟨by rw [HFV.out], hqd⟩
      case rest =>
      obtain ⟨rfl, hb56⟩ := hcut
      have hbR6 := hbB.next hb56 (Nat.le_refl _)
      have HB6 := Lib.hid (HB5.out.under hb56)
      generalize wc = w6 at *
      clear hb56 hbB HB5
      go_upto_if 82 with fail
      obtain ⟨kf, hkf⟩ : ∃ kf : Nat, kf = if f then 1 else 0 := ⟨_, rfl⟩
      have HKF := Lib.hid hkf
      have hkf2 : kf < 2 := by rw [hkf]; cases f <;> decide
      clear hkf
      go_cut [15] (fun v wx => v = iv (kf : Int) ∧ wx = w6)
      case first =>
        cases f
        · have HK0' : Hid (kf = 0) := Lib.hid (by rw [HKF.out]; rfl)
          go_wp2_with fail
          go_meet
          exact ⟨by rw [HK0'.out]; rfl, rfl⟩
        · have HK0' : Hid (kf = 1) := Lib.hid (by rw [HKF.out]; rfl)
          go_wp2_with fail
          go_meet
          exact ⟨by rw [HK0'.out]; rfl, rfl⟩
      case rest =>
      obtain ⟨rfl, hwc⟩ := hcut
      rw [hwc]
      clear hwc wc
      -- the first edit of the block
      obtain ⟨i0, i1, ifk, hG0, hifk, hset⟩ : ∃ (i0 i1 n : Nat), File.Grows C D k0 k1 bk i0 i1 ∧ (#[iv (k0 : Int), iv (k1 : Int)] : Array Value)[kf]? = some (iv (n : Int)) ∧ (#[iv (k0 : Int), iv (k1 : Int)] : Array Value).setIfInBounds kf (iv ((n : Int) + 1)) = #[iv (i0 : Int), iv (i1 : Int)] ∧ n ≤ 25 := by
        rw [HKF.out]
        have hfi := HFI.out
        cases f
        · have := List.length_pos_iff.2 (show bk.e0 ≠ [] from hfi)
          exact ⟨k0 + 1, k1, k0, ⟨by omega, by omega, by omega, by omega, by rw [← HF.out]; simp⟩, rfl, by simp, by omega⟩
        · have := List.length_pos_iff.2 (show bk.e1 ≠ [] from hfi)
          exact ⟨k0, k1 + 1, k1, ⟨by omega, by omega, by omega, by omega, by rw [← HF.out]; simp⟩, rfl, by simp, by omega⟩
      obtain ⟨hset, hif25⟩ := hset
      have b0 := HB6.out.cell kf
      rw [hifk] at b0
      have bf := HB6.out.frozen kf
      have bl := HB6.out.lt
      have ewb : IntKind.i64.wrap ((ifk : Int) + 1) = (ifk : Int) + 1 := IntWalk.i64_in _ (by omega)
      have hkfi : (kf : Int) < 2 := by omega
      have HB7 : Hid (Blk (w6.setCell ⟨wR.heap.size, kf, none⟩ (iv ((ifk : Int) + 1))) wR.heap.size 83 #[iv (i0 : Int), iv (i1 : Int)]) := Lib.hid (by rw [← hset]; exact HB6.out.set_ _ _)
      have hbR7 : Below wR.heap.size wR (w6.setCell ⟨wR.heap.size, kf, none⟩ (iv ((ifk : Int) + 1))) := hbR6.setCell (p := ⟨wR.heap.size, kf, none⟩) (Nat.le_refl _) _
      have HG := Lib.hid hG0
      clear hG0 hifk hset HB6
      go_upto_region 12 with fail
      generalize w6.setCell ⟨wR.heap.size, kf, none⟩ (iv ((ifk : Int) + 1)) = w7 at *
      clear b0 bf bl ewb hbR6 HKF
      have hgbl := HB7.out.lt
      have HZ0 : Hid (true = false → File.Calm C D k1 i0 i1 ∧ File.Calm D C k0 i1 i0) := Lib.hid fun h => by cases h
      go_wp2_with fail
      go_loopw [16] (fun g wx => ∃ (i0 i1 : Nat) (z : Bool), g = .bool z ∧ Hid (File.Grows C D k0 k1 bk i0 i1) ∧ Hid (Blk wx wR.heap.size 83 #[iv (i0 : Int), iv (i1 : Int)]) ∧ Hid (z = false → File.Calm C D k1 i0 i1 ∧ File.Calm D C k0 i1 i0) ∧ Below wR.heap.size wR wx)
        (fun g wx => (k0 + bk.e0.length + k1 + bk.e1.length) - cellN wx wR.heap.size 0 - cellN wx wR.heap.size 1 + boolN g)
      case atStart => exact ⟨i0, i1, true, rfl, HG, HB7, HZ0, hbR7⟩
      case round =>
        clear HZ0 HG HB7 hbR7 i0 i1
        obtain ⟨i0, i1, z, rfl, HG, HB, HZ, hbx⟩ := hrel
        have hmz : (k0 + bk.e0.length + k1 + bk.e1.length) - cellN wr wR.heap.size 0 - cellN wr wR.heap.size 1 + boolN (.bool z) = (k0 + bk.e0.length + k1 + bk.e1.length) - i0 - i1 + boolN (.bool z) := by
          rw [Blk.cellN HB.out (n := i0) rfl, Blk.cellN HB.out (n := i1) rfl]
        cases z
        · obtain ⟨hc0, hc1'⟩ := HZ.out rfl
          obtain ⟨he0, he1⟩ := File.Grows.done HST.out HG.out hc0 hc1'
          subst he0 he1
          clear hc0 hc1' HG HZ hmz
          have HFW8 : Hid (∀ W, Below wr.heap.size wr W → Blk W gC 120 #[.slice C0 vs0.length d0, .slice C1 vs1.length d1] ∧ Blk W w4.heap.size 83 #[iv (k0 : Int), iv (k1 : Int)] ∧ Blk W wR.heap.size 83 #[iv ((k0 + bk.e0.length : Nat) : Int), iv ((k1 + bk.e1.length : Nat) : Int)] ∧ Sl edE W C0 vs0 ∧ Sl edE W C1 vs1) := Lib.hid fun W h =>
            ⟨(HFW.out W (hbx.next h (Nat.le_refl _))).1, (HFW.out W (hbx.next h (Nat.le_refl _))).2.1, HB.out.under h, (HFW.out W (hbx.next h (Nat.le_refl _))).2.2.1, (HFW.out W (hbx.next h (Nat.le_refl _))).2.2.2.1⟩
          have HLH0 : Hid ((0 = 0 → base.length = base.length ∧ 0 = 0) ∧ (0 = 1 → base.length = File.loOf base.length bk.e0 ∧ 0 = File.hiOf 0 bk.e0) ∧ (0 = 2 → base.length = bk.lo ∧ 0 = bk.hi)) := Lib.hid ⟨fun _ => ⟨rfl, rfl⟩, fun h => by omega, fun h => by omega⟩
          generalize wr = w8 at *
          clear HB
          as_aux_lemma =>
            go_wp2_with fail
            go_loopw [19, 20, 21] (fun l h kk wx => ∃ (t lo hi : Nat), t ≤ 2 ∧ kk = iv (t : Int) ∧ l = iv (lo : Int) ∧ h = iv (hi : Int) ∧ lo ≤ 100 ∧ hi ≤ 100 ∧ Hid ((t = 0 → lo = base.length ∧ hi = 0) ∧ (t = 1 → lo = File.loOf base.length bk.e0 ∧ hi = File.hiOf 0 bk.e0) ∧ (t = 2 → lo = bk.lo ∧ hi = bk.hi)) ∧ Below w8.heap.size w8 wx) (fun _ _ kk _ => 2 - (intOf kk).toNat)
            case atStart => exact ⟨0, base.length, 0, by omega, rfl, rfl, rfl, by omega, by omega, Lib.hid ⟨fun _ => ⟨rfl, rfl⟩, fun h => by omega, fun h => by omega⟩, Below.refl _ _⟩
            case round =>
              clear HLH0
              obtain ⟨t, lo, hi, ht, rfl, rfl, rfl, hlo, hhi, HLH, hbz⟩ := hrel
              by_cases ht2 : t < 2
              · have hti : (t : Int) < 2 := by omega
                obtain ⟨vT, AT, dT, kT, iT, hha⟩ := half_of HF0.out HF1.out HQ0.out HQ1.out hv0 hv1 hn0 hn1 HFW8.out HSM.out ht2
                have h1 := hha.hki
                have h2 := hha.hil
                have h3 := hha.hvl
                have HH := Lib.hid hha
                clear hha
                obtain ⟨g1, g2, g3, g4, g5, g6⟩ := HH.out.cells wr hbz
                have HLR : Hid (File.loOf lo (((vT.map EdV.ed).drop kT).take (iT - kT)) = File.loOf lo (if t = 0 then bk.e0 else bk.e1) ∧ File.hiOf hi (((vT.map EdV.ed).drop kT).take (iT - kT)) = File.hiOf hi (if t = 0 then bk.e0 else bk.e1)) := Lib.hid (by rw [HH.out.part]; exact ⟨rfl, rfl⟩)
                go_wp2_with fail
                clear g1 g2 g3 g4 g5 g6
                go_loopw [19, 20, 22] (fun l h ii wx => ∃ (m l' h' : Nat), kT ≤ m ∧ m ≤ iT ∧ ii = iv (m : Int) ∧ l = iv (l' : Int) ∧ h = iv (h' : Int) ∧ l' ≤ 100 ∧ h' ≤ 100 ∧ Hid (File.loOf l' (((vT.map EdV.ed).drop m).take (iT - m)) = File.loOf lo (if t = 0 then bk.e0 else bk.e1) ∧ File.hiOf h' (((vT.map EdV.ed).drop m).take (iT - m)) = File.hiOf hi (if t = 0 then bk.e0 else bk.e1)) ∧ Below w8.heap.size w8 wx) (fun _ _ ii _ => iT - (intOf ii).toNat)
                case atStart => exact ⟨kT, lo, hi, Nat.le_refl _, h1, rfl, rfl, rfl, hlo, hhi, HLR, hbz⟩
                case round =>
                  clear HLR hbz
                  obtain ⟨m, l', h', hm1, hm2, rfl, rfl, rfl, hl', hh', HLR, hbz⟩ := hrel
                  obtain ⟨g1, g2, g3, g4, g5, g6⟩ := HH.out.cells wr hbz
                  by_cases hmi : m < iT
                  · have hmii : (m : Int) < (iT : Int) := by omega
                    obtain ⟨bT, oT, x0, eT, hbT, hx, x0c, x1c, _⟩ := Sl.atEd (HH.out.slt wr hbz) (show m < vT.length by omega)
                    have hms : (m : Int) < (vT.length : Int) := by omega
                    have hsx := HH.out.small x0 (mem_at hx)
                    subst eT
                    have hpc := part_cons (L := vT.map EdV.ed) (x := x0.ed) (by rw [List.getElem?_map, hx]; rfl) hmi
                    obtain ⟨xa, xA, xc, xo, xA', xc', xn⟩ := x0
                    simp only at hsx x0c x1c
                    obtain ⟨na, rfl⟩ : ∃ na : Nat, xa = (na : Int) := ⟨xa.toNat, by omega⟩
                    have HLR2 : Hid (File.loOf (min l' na) (((vT.map EdV.ed).drop (m + 1)).take (iT - (m + 1))) = File.loOf lo (if t = 0 then bk.e0 else bk.e1) ∧ File.hiOf (max h' (na + xo.length)) (((vT.map EdV.ed).drop (m + 1)).take (iT - (m + 1))) = File.hiOf hi (if t = 0 then bk.e0 else bk.e1)) := Lib.hid (by
                      have h := HLR.out
                      rw [hpc] at h
                      exact h)
                    have emin : min (l' : Int) (na : Int) = ((min l' na : Nat) : Int) := by omega
                    have emax : max (h' : Int) ((na : Int) + (xo.length : Int)) = ((max h' (na + xo.length) : Nat) : Int) := by omega
                    have ewx : IntKind.i64.wrap ((na : Int) + (xo.length : Int)) = (na : Int) + (xo.length : Int) := IntWalk.i64_in _ (by omega)
                    clear hx hpc HLR
                    go_upto_region 33 with fail
                    go_quiet (fail)
                    have hqd : Below w8.heap.size w8 (wr.drewN nq) := ⟨hbz.os, hbz.tape, hbz.output, hbz.size, hbz.block⟩
                    generalize wr.drewN nq = wq at *
                    clear x0c x1c g1 g2 g3 g4 g5 g6
                    go_wp2_with fail
                    go_roundw
                    case rel => exact ⟨m + 1, min l' na, max h' (na + xo.length), by omega, by omega, by go_num, by first | rfl | (rw [emin]), by first | rfl | (rw [emax]), by omega, by omega, HLR2, hqd⟩
                    case measure => simp [intOf]; omega
                  · have hmii : ¬ (m : Int) < (iT : Int) := by omega
                    have hmm : m = iT := by omega
                    have hlr := HLR.out
                    rw [hmm, Nat.sub_self, List.take_zero] at hlr
                    have hL : l' = File.loOf lo (if t = 0 then bk.e0 else bk.e1) := hlr.1
                    have hH : h' = File.hiOf hi (if t = 0 then bk.e0 else bk.e1) := hlr.2
                    have HLH2 : Hid ((t + 1 = 0 → l' = base.length ∧ h' = 0) ∧ (t + 1 = 1 → l' = File.loOf base.length bk.e0 ∧ h' = File.hiOf 0 bk.e0) ∧ (t + 1 = 2 → l' = bk.lo ∧ h' = bk.hi)) := Lib.hid (by
                      obtain ⟨q1, q2, q3⟩ := HLH.out
                      refine ⟨fun h => by omega, fun h => ?_, fun h => ?_⟩
                      · have h0 : t = 0 := by omega
                        obtain ⟨e1, e2⟩ := q1 h0
                        rw [if_pos h0] at hL hH
                        rw [hL, hH, e1, e2]; exact ⟨rfl, rfl⟩
                      · have h0 : t = 1 := by omega
                        obtain ⟨e1, e2⟩ := q2 h0
                        rw [if_neg (by omega)] at hL hH
                        rw [hL, hH, e1, e2]
                        exact ⟨HCN.out.los (by omega), HCN.out.his⟩)
                    clear hlr hL hH hmm HLR
                    go_wp2_with fail
                    go_roundw
                    case rel => exact ⟨t + 1, l', h', by omega, by go_num, rfl, rfl, hl', hh', HLH2, hbz⟩
                    case measure => simp [intOf]; omega
              · have hti : ¬ (t : Int) < 2 := by omega
                obtain ⟨elo, ehi⟩ := HLH.out.2.2 (by omega)
                subst elo ehi
                clear HLH
                generalize wr = w9 at *
                as_aux_lemma =>
                  obtain ⟨i0, hi0⟩ : ∃ i0, i0 = k0 + bk.e0.length := ⟨_, rfl⟩
                  obtain ⟨i1, hi1⟩ : ∃ i1, i1 = k1 + bk.e1.length := ⟨_, rfl⟩
                  rw [← hi0, ← hi1] at HFW8
                  have hi0l : i0 ≤ vs0.length := by omega
                  have hi1l : i1 ≤ vs1.length := by omega
                  have hki0 : k0 ≤ i0 := by omega
                  have hki1 : k1 ≤ i1 := by omega
                  have hnz : k0 + k1 < i0 + i1 := by
                    have hfi := HFI.out
                    cases f
                    · have := List.length_pos_iff.2 (show bk.e0 ≠ [] from hfi); omega
                    · have := List.length_pos_iff.2 (show bk.e1 ≠ [] from hfi); omega
                  have HE0 : Hid (bk.e0 = [] ↔ i0 = k0) := Lib.hid ⟨fun h => by rw [hi0, h]; rfl, fun h => List.eq_nil_of_length_eq_zero (by omega)⟩
                  have HE1 : Hid (bk.e1 = [] ↔ i1 = k1) := Lib.hid ⟨fun h => by rw [hi1, h]; rfl, fun h => List.eq_nil_of_length_eq_zero (by omega)⟩
                  have HMD := Lib.hid hmd
                  have HSN : Hid (File.Steps (C.drop i0) (D.drop i1) rl) := Lib.hid (by
                    have := HS2.out
                    rw [List.drop_drop, List.drop_drop] at this
                    rw [hi0, hi1]; exact this)
                  have HBN : Hid (File.BlocksOk base.length bk.hi rl) := Lib.hid (HP8.out.weaken (Nat.le_succ _))
                  have hbw9 := hbx.next hbz (Nat.le_refl _)
                  obtain ⟨q1, q2, q3, q4, q5⟩ := HFW8.out w9 hbz
                  obtain ⟨X0, n0, ys0, hys0, hsy0, RC0⟩ := cut_ed hd0 hki0 hi0l q4
                  obtain ⟨X1, n1, ys1, hys1, hsy1, RC1⟩ := cut_ed hd1 hki1 hi1l q5
                  have hb49 := (HFW.out w9 hbw9).2.2.2.2.2.2
                  have hm0 : ys0.map EdV.ed = bk.e0 := by
                    rw [hys0, HF0.out, hi0, ← HQ0.out]
                    unfold File.cut
                    rw [List.map_take, List.map_drop, show k0 + bk.e0.length - k0 = bk.e0.length by omega]
                  have hm1 : ys1.map EdV.ed = bk.e1 := by
                    rw [hys1, HF1.out, hi1, ← HQ1.out]
                    unfold File.cut
                    rw [List.map_take, List.map_drop, show k1 + bk.e1.length - k1 = bk.e1.length by omega]
                  have hsub0 : ∀ r ∈ ys0, r ∈ vs0 := fun r hr => by rw [hys0] at hr; exact List.mem_of_mem_drop (List.mem_of_mem_take hr)
                  have hsub1 : ∀ r ∈ ys1, r ∈ vs1 := fun r hr => by rw [hys1] at hr; exact List.mem_of_mem_drop (List.mem_of_mem_take hr)
                  have hyl0 : ys0.length ≤ 25 := by have := congrArg List.length hm0; rw [List.length_map] at this; omega
                  have hyl1 : ys1.length ≤ 25 := by have := congrArg List.length hm1; rw [List.length_map] at this; omega
                  obtain ⟨H0, hH0⟩ : ∃ H0, H0 = File.hasGo base bk.hi bk.lo bk.e0 := ⟨_, rfl⟩
                  obtain ⟨H1, hH1⟩ : ∃ H1, H1 = File.hasGo base bk.hi bk.lo bk.e1 := ⟨_, rfl⟩
                  have hHl0 : H0.length ≤ 2000 := by
                    have := hasGo_le (base := base) (hi := bk.hi) (c := ys0.map EdV.ed) (at_ := bk.lo) (fun x hx => by
                      obtain ⟨r, hr, rfl⟩ := List.mem_map.1 hx
                      exact (HSM.out r (.inl (hsub0 r hr))).2.2.2)
                    rw [List.length_map, hm0, ← hH0] at this
                    have h2 : ys0.length * (base.length + 24) ≤ 25 * 48 := Nat.mul_le_mul hyl0 (by omega)
                    omega
                  have hHl1 : H1.length ≤ 2000 := by
                    have := hasGo_le (base := base) (hi := bk.hi) (c := ys1.map EdV.ed) (at_ := bk.lo) (fun x hx => by
                      obtain ⟨r, hr, rfl⟩ := List.mem_map.1 hx
                      exact (HSM.out r (.inr (hsub1 r hr))).2.2.2)
                    rw [List.length_map, hm1, ← hH1] at this
                    have h2 : ys1.length * (base.length + 24) ≤ 25 * 48 := Nat.mul_le_mul hyl1 (by omega)
                    omega
                  have HH0 := Lib.hid fun W (h : Below w9.heap.size w9 W) => rhas_spec A base c X0 ys0 n0 bk.lo bk.hi W hB24 (by omega) hc p2 p3 (HSB.out.below (hb49.next h (Nat.le_refl _))) (hsy0.below h) (fun r hr => (HK4.out r (.inl (hsub0 r hr))).below (hb49.next h (Nat.le_refl _))) (fun r hr => HSM.out r (.inl (hsub0 r hr))) (by rw [hm0]; exact HP4.out) (by rw [hm0]; exact HP5.out)
                  have HH1 := Lib.hid fun W (h : Below w9.heap.size w9 W) => rhas_spec A base c X1 ys1 n1 bk.lo bk.hi W hB24 (by omega) hc p2 p3 (HSB.out.below (hb49.next h (Nat.le_refl _))) (hsy1.below h) (fun r hr => (HK4.out r (.inr (hsub1 r hr))).below (hb49.next h (Nat.le_refl _))) (fun r hr => HSM.out r (.inr (hsub1 r hr))) (by rw [hm1]; exact HP6.out) (by rw [hm1]; exact HP7.out)
                  simp only [hm0, ← hH0] at HH0
                  simp only [hm1, ← hH1] at HH1
                  have HCELL : Hid (∀ x, Below w9.heap.size w9 x → x.cell? ⟨gC, 0, none⟩ = some (.slice C0 vs0.length d0) ∧ x.cell? ⟨gC, 1, none⟩ = some (.slice C1 vs1.length d1) ∧ x.cell? ⟨w4.heap.size, 0, none⟩ = some (iv (k0 : Int)) ∧ x.cell? ⟨w4.heap.size, 1, none⟩ = some (iv (k1 : Int)) ∧ x.cell? ⟨wR.heap.size, 0, none⟩ = some (iv (i0 : Int)) ∧ x.cell? ⟨wR.heap.size, 1, none⟩ = some (iv (i1 : Int)) ∧ gC < x.heap.size ∧ w4.heap.size < x.heap.size ∧ wR.heap.size < x.heap.size) := Lib.hid fun x h =>
                    ⟨(q1.under h).cell 0, (q1.under h).cell 1, (q2.under h).cell 0, (q2.under h).cell 1, (q3.under h).cell 0, (q3.under h).cell 1, (q1.under h).lt, (q2.under h).lt, (q3.under h).lt⟩
                  obtain ⟨Xc, nc, yc, hyc, hycl, hsyc, RCc⟩ := cut_run hc p1 (Nat.le_trans p2 p3) HSB.out
                  obtain ⟨Xd, nd, yd, hyd, hydl, hsyd, RCd⟩ := cut_run hc p2 p3 HSB.out
                  have HJG : Hid ((bk.e1 = [] ∨ H0 = H1 → (((out ++ yc) ++ H0) ++ (File.joinGo base bk.hi rl).1 = J.1 ∧ cf ++ (File.joinGo base bk.hi rl).2 = J.2)) ∧ (¬ (bk.e1 = [] ∨ H0 = H1) → bk.e0 = [] → (((out ++ yc) ++ H1) ++ (File.joinGo base bk.hi rl).1 = J.1 ∧ cf ++ (File.joinGo base bk.hi rl).2 = J.2)) ∧ (¬ (bk.e1 = [] ∨ H0 = H1) → ¬ bk.e0 = [] → (((out ++ yc) ++ yd) ++ (File.joinGo base bk.hi rl).1 = J.1 ∧ (cf ++ [(bk.lo, bk.hi)]) ++ (File.joinGo base bk.hi rl).2 = J.2))) := Lib.hid (by
                    have h := HREL.out
                    unfold File.joinGo at h
                    rw [← hH0, ← hH1, ← hyc, ← hyd] at h
                    refine ⟨fun h1 => ?_, fun h1 h2 => ?_, fun h1 h2 => ?_⟩
                    · rw [if_pos h1] at h; simpa using h
                    · rw [if_neg h1, if_pos h2] at h; simpa using h
                    · rw [if_neg h1, if_neg h2] at h; simpa using h)
                  have HSC := Lib.hid fun W (h : Below w4.heap.size w4 W) => And.intro (hsyc.below h) (hsyd.below h)
                  have HO9 := Lib.hid (HFW.out w9 hbw9).2.2.2.2.1
                  have HCF9 := Lib.hid (HFW.out w9 hbw9).2.2.2.2.2.1
                  have HB49 := Lib.hid hb49
                  have HD9 := Lib.hid q2
                  have HB9 := Lib.hid q3
                  have hnr0 : k0 ≤ 25 := by omega
                  have hnr1 : k1 ≤ 25 := by omega
                  clear hys0 hys1 hsy0 hsy1 hm0 hm1 hsub0 hsub1 hH0 hH1 hyc hyd hsyc hsyd q1 q2 q3 q4 q5 hi0 hi1 HREL HS2 HP4 HP5 HP6 HP7 HP8 HF0 HF1 HFW8 HFW hmd hb49 hbw9 hbz hbx hn0 hn1 hyl0 hyl1 HST HCN HFI
                  go_upto_region 34 with fail
                  refine wp_free_lit (by kernel_rfl) 22 (by kernel_rfl) (by kernel_rfl) (by decide) (fun nR x => Below w9.heap.size w9 x) (fun x x' => Below x.heap.size x x')
                    [fun _ u _ => u = .slice A base.length c,
                     fun _ u _ => u = .pointer (some ⟨gC, 0, none⟩),
                     fun _ u _ => u = .slice C0 vs0.length d0,
                     fun _ u _ => u = .pointer (some ⟨w4.heap.size, 0, none⟩),
                     fun _ u _ => u = iv (k0 : Int),
                     fun _ u _ => u = .pointer (some ⟨wR.heap.size, 0, none⟩),
                     fun _ u _ => u = iv (i0 : Int),
                     fun _ u _ => u = .slice X0 ys0.length n0,
                     fun _ u _ => u = iv (bk.lo : Int),
                     fun _ u _ => u = iv (bk.hi : Int),
                     fun _ u x => ∃ A1 c1, u = .slice A1 H0.length c1 ∧ Own strE 9 w9.heap.size x (.slice A1 H0.length c1) H0,
                     fun _ u _ => u = .slice A base.length c,
                     fun _ u _ => u = .pointer (some ⟨gC, 1, none⟩),
                     fun _ u _ => u = .slice C1 vs1.length d1,
                     fun _ u _ => u = .pointer (some ⟨w4.heap.size, 1, none⟩),
                     fun _ u _ => u = iv (k1 : Int),
                     fun _ u _ => u = .pointer (some ⟨wR.heap.size, 1, none⟩),
                     fun _ u _ => u = iv (i1 : Int),
                     fun _ u _ => u = .slice X1 ys1.length n1,
                     fun _ u _ => u = iv (bk.lo : Int),
                     fun _ u _ => u = iv (bk.hi : Int),
                     fun _ u x => ∃ A1 c1, u = .slice A1 H1.length c1 ∧ Own strE 9 w9.heap.size x (.slice A1 H1.length c1) H1]
                    (Below.refl _ w9).drew ?_ ?_
                  · simp only [List.take_succ_cons, List.take_zero, HopL]
                    refine ⟨?_, ?_, ?_, ?_, ?_, ?_, ?_, ?_, ?_, ?_, ?_, ?_, ?_, ?_, ?_, ?_, ?_, ?_, ?_, ?_, ?_, ?_, trivial⟩
                    · refine ⟨fun _ _ _ _ _ h => h, fun _ _ _ _ h _ => h, fun v nR x hnR hR hk => ?_⟩
                      simp only [List.take_succ_cons, List.take_zero, frameF, Act.put, List.setIfInBounds_toArray, List.set_cons_zero, List.set_cons_succ]
                      exact stepF_val (by first | rfl | simp [Region.wanted, yielded, *]) (by go_simp <;> omega) ⟨rfl, Below.refl _ _, hR⟩
                    · refine ⟨fun _ _ _ _ _ h => h, fun _ _ _ _ h _ => h, fun v nR x hnR hR hk => ?_⟩
                      have g1 := (HCELL.out x hR).2.2.2.2.2.2.1
                      simp only [List.take_succ_cons, List.take_zero, frameF, Act.put, List.setIfInBounds_toArray, List.set_cons_zero, List.set_cons_succ]
                      exact stepF_val (by first | rfl | simp [Region.wanted, yielded, *]) (by go_simp <;> omega) ⟨rfl, Below.refl _ _, hR⟩
                    · refine ⟨fun _ _ _ _ _ h => h, fun _ _ _ _ h _ => h, fun v nR x hnR hR hk => ?_⟩
                      have h1 : v 1 = .pointer (some ⟨gC, 0, none⟩) := hk 1 (by kernel_rfl)
                      have g1 := (HCELL.out x hR).1
                      simp only [List.take_succ_cons, List.take_zero, frameF, Act.put, List.setIfInBounds_toArray, List.set_cons_zero, List.set_cons_succ]
                      exact stepF_val (by first | rfl | simp [Region.wanted, yielded, *]) (by go_simp <;> omega) ⟨rfl, Below.refl _ _, hR⟩
                    · refine ⟨fun _ _ _ _ _ h => h, fun _ _ _ _ h _ => h, fun v nR x hnR hR hk => ?_⟩
                      have g1 := (HCELL.out x hR).2.2.2.2.2.2.2.1
                      simp only [List.take_succ_cons, List.take_zero, frameF, Act.put, List.setIfInBounds_toArray, List.set_cons_zero, List.set_cons_succ]
                      exact stepF_val (by first | rfl | simp [Region.wanted, yielded, *]) (by go_simp <;> omega) ⟨rfl, Below.refl _ _, hR⟩
                    · refine ⟨fun _ _ _ _ _ h => h, fun _ _ _ _ h _ => h, fun v nR x hnR hR hk => ?_⟩
                      have h3 : v 3 = .pointer (some ⟨w4.heap.size, 0, none⟩) := hk 3 (by kernel_rfl)
                      have g1 := (HCELL.out x hR).2.2.1
                      simp only [List.take_succ_cons, List.take_zero, frameF, Act.put, List.setIfInBounds_toArray, List.set_cons_zero, List.set_cons_succ]
                      exact stepF_val (by first | rfl | simp [Region.wanted, yielded, *]) (by go_simp <;> omega) ⟨rfl, Below.refl _ _, hR⟩
                    · refine ⟨fun _ _ _ _ _ h => h, fun _ _ _ _ h _ => h, fun v nR x hnR hR hk => ?_⟩
                      have g1 := (HCELL.out x hR).2.2.2.2.2.2.2.2
                      simp only [List.take_succ_cons, List.take_zero, frameF, Act.put, List.setIfInBounds_toArray, List.set_cons_zero, List.set_cons_succ]
                      exact stepF_val (by first | rfl | simp [Region.wanted, yielded, *]) (by go_simp <;> omega) ⟨rfl, Below.refl _ _, hR⟩
                    · refine ⟨fun _ _ _ _ _ h => h, fun _ _ _ _ h _ => h, fun v nR x hnR hR hk => ?_⟩
                      have h5 : v 5 = .pointer (some ⟨wR.heap.size, 0, none⟩) := hk 5 (by kernel_rfl)
                      have g1 := (HCELL.out x hR).2.2.2.2.1
                      simp only [List.take_succ_cons, List.take_zero, frameF, Act.put, List.setIfInBounds_toArray, List.set_cons_zero, List.set_cons_succ]
                      exact stepF_val (by first | rfl | simp [Region.wanted, yielded, *]) (by go_simp <;> omega) ⟨rfl, Below.refl _ _, hR⟩
                    · refine ⟨fun _ _ _ _ _ h => h, fun _ _ _ _ h _ => h, fun v nR x hnR hR hk => ?_⟩
                      have h2 : v 2 = .slice C0 vs0.length d0 := hk 2 (by kernel_rfl)
                      have h4 : v 4 = iv (k0 : Int) := hk 4 (by kernel_rfl)
                      have h6 : v 6 = iv (i0 : Int) := hk 6 (by kernel_rfl)
                      simp only [List.take_succ_cons, List.take_zero, frameF, Act.put, List.setIfInBounds_toArray, List.set_cons_zero, List.set_cons_succ]
                      exact stepF_val (by first | rfl | simp [Region.wanted, yielded, *]) (by go_simp <;> omega) ⟨rfl, Below.refl _ _, hR⟩
                    · refine ⟨fun _ _ _ _ _ h => h, fun _ _ _ _ h _ => h, fun v nR x hnR hR hk => ?_⟩
                      simp only [List.take_succ_cons, List.take_zero, frameF, Act.put, List.setIfInBounds_toArray, List.set_cons_zero, List.set_cons_succ]
                      exact stepF_val (by first | rfl | simp [Region.wanted, yielded, *]) (by go_simp <;> omega) ⟨rfl, Below.refl _ _, hR⟩
                    · refine ⟨fun _ _ _ _ _ h => h, fun _ _ _ _ h _ => h, fun v nR x hnR hR hk => ?_⟩
                      simp only [List.take_succ_cons, List.take_zero, frameF, Act.put, List.setIfInBounds_toArray, List.set_cons_zero, List.set_cons_succ]
                      exact stepF_val (by first | rfl | simp [Region.wanted, yielded, *]) (by go_simp <;> omega) ⟨rfl, Below.refl _ _, hR⟩
                    · refine ⟨fun _ _ _ _ _ h => h, fun _ _ _ _ h hS => (by obtain ⟨Ah0, ch0, e0, oh0⟩ := h; exact ⟨Ah0, ch0, e0, oh0.below hS⟩), fun v nR x hnR hR hk => ?_⟩
                      have h0 : v 0 = .slice A base.length c := hk 0 (by kernel_rfl)
                      have h7 : v 7 = .slice X0 ys0.length n0 := hk 7 (by kernel_rfl)
                      have h8 : v 8 = iv (bk.lo : Int) := hk 8 (by kernel_rfl)
                      have h9 : v 9 = iv (bk.hi : Int) := hk 9 (by kernel_rfl)
                      simp only [List.take_succ_cons, List.take_zero, frameF, Act.put, List.setIfInBounds_toArray, List.set_cons_zero, List.set_cons_succ]
                      refine stepF_call (by rfl) (by go_simp) (HH0.out x hR) ?_
                      rintro e x' ⟨u, rfl, ho, hb⟩
                      obtain ⟨A1, c1, rfl, _, _⟩ := ho.form
                      exact ⟨_, rfl, ⟨A1, c1, rfl, ho.base hR.size⟩, hb, hR.next hb (Nat.le_refl _)⟩
                    · refine ⟨fun _ _ _ _ _ h => h, fun _ _ _ _ h _ => h, fun v nR x hnR hR hk => ?_⟩
                      simp only [List.take_succ_cons, List.take_zero, frameF, Act.put, List.setIfInBounds_toArray, List.set_cons_zero, List.set_cons_succ]
                      exact stepF_val (by first | rfl | simp [Region.wanted, yielded, *]) (by go_simp <;> omega) ⟨rfl, Below.refl _ _, hR⟩
                    · refine ⟨fun _ _ _ _ _ h => h, fun _ _ _ _ h _ => h, fun v nR x hnR hR hk => ?_⟩
                      have g1 := (HCELL.out x hR).2.2.2.2.2.2.1
                      simp only [List.take_succ_cons, List.take_zero, frameF, Act.put, List.setIfInBounds_toArray, List.set_cons_zero, List.set_cons_succ]
                      exact stepF_val (by first | rfl | simp [Region.wanted, yielded, *]) (by go_simp <;> omega) ⟨rfl, Below.refl _ _, hR⟩
                    · refine ⟨fun _ _ _ _ _ h => h, fun _ _ _ _ h _ => h, fun v nR x hnR hR hk => ?_⟩
                      have h12 : v 12 = .pointer (some ⟨gC, 1, none⟩) := hk 12 (by kernel_rfl)
                      have g1 := (HCELL.out x hR).2.1
                      simp only [List.take_succ_cons, List.take_zero, frameF, Act.put, List.setIfInBounds_toArray, List.set_cons_zero, List.set_cons_succ]
                      exact stepF_val (by first | rfl | simp [Region.wanted, yielded, *]) (by go_simp <;> omega) ⟨rfl, Below.refl _ _, hR⟩
                    · refine ⟨fun _ _ _ _ _ h => h, fun _ _ _ _ h _ => h, fun v nR x hnR hR hk => ?_⟩
                      have g1 := (HCELL.out x hR).2.2.2.2.2.2.2.1
                      simp only [List.take_succ_cons, List.take_zero, frameF, Act.put, List.setIfInBounds_toArray, List.set_cons_zero, List.set_cons_succ]
                      exact stepF_val (by first | rfl | simp [Region.wanted, yielded, *]) (by go_simp <;> omega) ⟨rfl, Below.refl _ _, hR⟩
                    · refine ⟨fun _ _ _ _ _ h => h, fun _ _ _ _ h _ => h, fun v nR x hnR hR hk => ?_⟩
                      have h14 : v 14 = .pointer (some ⟨w4.heap.size, 1, none⟩) := hk 14 (by kernel_rfl)
                      have g1 := (HCELL.out x hR).2.2.2.1
                      simp only [List.take_succ_cons, List.take_zero, frameF, Act.put, List.setIfInBounds_toArray, List.set_cons_zero, List.set_cons_succ]
                      exact stepF_val (by first | rfl | simp [Region.wanted, yielded, *]) (by go_simp <;> omega) ⟨rfl, Below.refl _ _, hR⟩
                    · refine ⟨fun _ _ _ _ _ h => h, fun _ _ _ _ h _ => h, fun v nR x hnR hR hk => ?_⟩
                      have g1 := (HCELL.out x hR).2.2.2.2.2.2.2.2
                      simp only [List.take_succ_cons, List.take_zero, frameF, Act.put, List.setIfInBounds_toArray, List.set_cons_zero, List.set_cons_succ]
                      exact stepF_val (by first | rfl | simp [Region.wanted, yielded, *]) (by go_simp <;> omega) ⟨rfl, Below.refl _ _, hR⟩
                    · refine ⟨fun _ _ _ _ _ h => h, fun _ _ _ _ h _ => h, fun v nR x hnR hR hk => ?_⟩
                      have h16 : v 16 = .pointer (some ⟨wR.heap.size, 1, none⟩) := hk 16 (by kernel_rfl)
                      have g1 := (HCELL.out x hR).2.2.2.2.2.1
                      simp only [List.take_succ_cons, List.take_zero, frameF, Act.put, List.setIfInBounds_toArray, List.set_cons_zero, List.set_cons_succ]
                      exact stepF_val (by first | rfl | simp [Region.wanted, yielded, *]) (by go_simp <;> omega) ⟨rfl, Below.refl _ _, hR⟩
                    · refine ⟨fun _ _ _ _ _ h => h, fun _ _ _ _ h _ => h, fun v nR x hnR hR hk => ?_⟩
                      have h13 : v 13 = .slice C1 vs1.length d1 := hk 13 (by kernel_rfl)
                      have h15 : v 15 = iv (k1 : Int) := hk 15 (by kernel_rfl)
                      have h17 : v 17 = iv (i1 : Int) := hk 17 (by kernel_rfl)
                      simp only [List.take_succ_cons, List.take_zero, frameF, Act.put, List.setIfInBounds_toArray, List.set_cons_zero, List.set_cons_succ]
                      exact stepF_val (by first | rfl | simp [Region.wanted, yielded, *]) (by go_simp <;> omega) ⟨rfl, Below.refl _ _, hR⟩
                    · refine ⟨fun _ _ _ _ _ h => h, fun _ _ _ _ h _ => h, fun v nR x hnR hR hk => ?_⟩
                      simp only [List.take_succ_cons, List.take_zero, frameF, Act.put, List.setIfInBounds_toArray, List.set_cons_zero, List.set_cons_succ]
                      exact stepF_val (by first | rfl | simp [Region.wanted, yielded, *]) (by go_simp <;> omega) ⟨rfl, Below.refl _ _, hR⟩
                    · refine ⟨fun _ _ _ _ _ h => h, fun _ _ _ _ h _ => h, fun v nR x hnR hR hk => ?_⟩
                      simp only [List.take_succ_cons, List.take_zero, frameF, Act.put, List.setIfInBounds_toArray, List.set_cons_zero, List.set_cons_succ]
                      exact stepF_val (by first | rfl | simp [Region.wanted, yielded, *]) (by go_simp <;> omega) ⟨rfl, Below.refl _ _, hR⟩
                    · refine ⟨fun _ _ _ _ _ h => h, fun _ _ _ _ h hS => (by obtain ⟨Ah1, ch1, e0, oh1⟩ := h; exact ⟨Ah1, ch1, e0, oh1.below hS⟩), fun v nR x hnR hR hk => ?_⟩
                      have h11 : v 11 = .slice A base.length c := hk 11 (by kernel_rfl)
                      have h18 : v 18 = .slice X1 ys1.length n1 := hk 18 (by kernel_rfl)
                      have h19 : v 19 = iv (bk.lo : Int) := hk 19 (by kernel_rfl)
                      have h20 : v 20 = iv (bk.hi : Int) := hk 20 (by kernel_rfl)
                      simp only [List.take_succ_cons, List.take_zero, frameF, Act.put, List.setIfInBounds_toArray, List.set_cons_zero, List.set_cons_succ]
                      refine stepF_call (by rfl) (by go_simp) (HH1.out x hR) ?_
                      rintro e x' ⟨u, rfl, ho, hb⟩
                      obtain ⟨A1, c1, rfl, _, _⟩ := ho.form
                      exact ⟨_, rfl, ⟨A1, c1, rfl, ho.base hR.size⟩, hb, hR.next hb (Nat.le_refl _)⟩
                  · intro v nR x1 hnR hR hall
                    obtain ⟨Ah0, ch0, h10, oh0⟩ := hall 10 (by decide)
                    obtain ⟨Ah1, ch1, h21, oh1⟩ := hall 21 (by decide)
                    clear hall hnR
                    simp only [List.drop_succ_cons, List.drop_zero, List.take_succ_cons, List.take_zero, frameF, Act.put, List.setIfInBounds_toArray, List.set_cons_zero, List.set_cons_succ, Nat.zero_add, Nat.reduceAdd, h10, h21]
                    have hOx := HO9.out.below hR
                    have hCx := HCF9.out.below hR
                    have hBx := HB9.out.under hR
                    have hDx := HD9.out.under hR
                    have hb4x := HB49.out.next hR (Nat.le_refl _)
                    have hsz := hb4x.size
                    have hne0 : ∀ b, (Value.slice Ah0 H0.length ch0).ownBlock = some b → u10.ownBlock ≠ some b := fun b hb e => by
                      have h1 := (oh0.lt b hb).1
                      have h2 := (HO9.out.lt b e).2
                      omega
                    have hne1 : ∀ b, (Value.slice Ah1 H1.length ch1).ownBlock = some b → u10.ownBlock ≠ some b := fun b hb e => by
                      have h1 := (oh1.lt b hb).1
                      have h2 := (HO9.out.lt b e).2
                      omega
                    have HN0 := Lib.hid hne0
                    have HN1 := Lib.hid hne1
                    clear hne0 hne1
                    go_upto_region 36 with (at_builtin; refine wpAppS strE tyStrs rfl _ _ rfl hOx (HSC.out x1 hb4x).1 rfl rfl hsz (by unfold big; omega) ?_; intro v11 w11 hown11 hb11 hk11)
                    have HH011 := Lib.hid (oh0.keep hb11.size fun b hb => hk11 b (oh0.lt b hb).2 (HN0.out b hb)).sl
                    have HH111 := Lib.hid (oh1.keep hb11.size fun b hb => hk11 b (oh1.lt b hb).2 (HN1.out b hb)).sl
                    have HC11 := Lib.hid (hCx.keep hb11.size fun b hb => hk11 b (hCx.lt b hb).2 (Own.two hCx hOx (by decide) hb))
                    have hB11 : Blk w11 wR.heap.size 83 #[iv (i0 : Int), iv (i1 : Int)] := (hk11 _ hBx.lt (ownNeBlk hOx hBx (by decide))).trans hBx
                    have hD11 : Blk w11 w4.heap.size 83 #[iv (k0 : Int), iv (k1 : Int)] := (hk11 _ hDx.lt (ownNeBlk hOx hDx (by decide))).trans hDx
                    have hb411 := hb4x.trans hb11
                    have HO11 := Lib.hid hown11
                    have hYl : (out ++ yc).length ≤ (k0 + k1) * 5000 + 24 := by rw [List.length_append]; omega
                    obtain ⟨Y, hY⟩ : ∃ Y, Y = out ++ yc := ⟨_, rfl⟩
                    rw [← hY] at HO11 HJG hYl
                    clear hY hOx hCx hBx hDx hb4x oh0 oh1 hown11 hb11 hk11 hR HN0 HN1 hsz HCELL HO9 HCF9 HD9 HB9 HB49 HH0 HH1 RC0 RC1 RCc
                    have b0 := hB11.cell 0
                    have b1 := hB11.cell 1
                    have bl := hB11.lt
                    have e0 := hD11.cell 0
                    have e1 := hD11.cell 1
                    have el := hD11.lt
                    have hsz := hb411.size
                    by_cases h1 : i1 = k1
                    · have t1 : ((i1 : Int) == (k1 : Int)) = true := by simp [h1]
                      have HRN := Lib.hid (HJG.out.1 (.inl (HE1.out.2 h1)))
                      have hli : (Y ++ H0).length ≤ (i0 + i1) * 5000 := by rw [List.length_append]; omega
                      have hci : cf.length ≤ i0 + i1 := by omega
                      clear h1 HJG
                      go_upto_region 42 with (at_builtin; refine wpAppS strE tyStrs rfl _ _ rfl HO11.out HH011.out rfl rfl hsz (by unfold big; omega) ?_; intro v12 w12 hown12 hb12 hk12)
                      have hC12 := HC11.out.keep hb12.size fun b hb => hk12 b (HC11.out.lt b hb).2 (Own.two HC11.out HO11.out (by decide) hb)
                      have hB12 : Blk w12 wR.heap.size 83 #[iv (i0 : Int), iv (i1 : Int)] := (hk12 _ hB11.lt (ownNeBlk HO11.out hB11 (by decide))).trans hB11
                      have hD12 : Blk w12 w4.heap.size 83 #[iv (k0 : Int), iv (k1 : Int)] := (hk12 _ hD11.lt (ownNeBlk HO11.out hD11 (by decide))).trans hD11
                      have hb412 := hb411.trans hb12
                      clear b0 b1 bl e0 e1 el hk12 hb12 hB11 hD11 HO11 HC11 HH011 HH111
                      -- behind the block's lines: world w12, Own of the join hown12 : hli, of the conflicts hC12 : hci, Blk gB hB12, Blk gD hD12, Below w4 w4 w12 : hb412
                      have hsx := (hb412).size
                      have HE2 := Lib.hid (hown12)
                      have HE4 := Lib.hid (hC12)
                      have HX6 : Hid (∀ x, Below (w12).heap.size w12 x → x.cell? ⟨wR.heap.size, 0, none⟩ = some (iv (i0 : Int)) ∧ x.cell? ⟨wR.heap.size, 1, none⟩ = some (iv (i1 : Int)) ∧ wR.heap.size < x.heap.size) := Lib.hid fun x h => ⟨((hB12).under h).cell 0, ((hB12).under h).cell 1, ((hB12).under h).lt⟩
                      have HX7 := Lib.hid (hD12)
                      have HX8 := Lib.hid (hb412)
                      go_upto_region 42 with fail
                      refine wp_free_lit (by kernel_rfl) 3 (by kernel_rfl) (by kernel_rfl) (by decide) (fun nR x => Below w12.heap.size w12 x) (fun x x' => Below x.heap.size x x')
                        [fun _ u _ => u = iv (bk.hi : Int),
                         fun _ u _ => u = .agg #[iv (i0 : Int), iv (i1 : Int)],
                         fun _ u _ => u = iv (bk.hi : Int)]
                        (Below.refl _ w12).drew ?_ ?_
                      · simp only [List.take_succ_cons, List.take_zero, HopL]
                        refine ⟨?_, ?_, ?_, trivial⟩
                        · refine ⟨fun _ _ _ _ _ h => h, fun _ _ _ _ h _ => h, fun v nR x hnR hR hk => ?_⟩
                          simp only [List.take_succ_cons, List.take_zero, frameF, Act.put, List.setIfInBounds_toArray, List.set_cons_zero, List.set_cons_succ]
                          exact stepF_val (by first | rfl | simp [Region.wanted, yielded, *]) (by go_simp <;> omega) ⟨rfl, Below.refl _ _, hR⟩
                        · refine ⟨fun _ _ _ _ _ h => h, fun _ _ _ _ h _ => h, fun v nR x hnR hR hk => ?_⟩
                          obtain ⟨g1, g2, g3⟩ := HX6.out x hR
                          simp only [List.take_succ_cons, List.take_zero, frameF, Act.put, List.setIfInBounds_toArray, List.set_cons_zero, List.set_cons_succ]
                          exact stepF_val (by first | rfl | simp [Region.wanted, yielded, *]) (by go_simp <;> omega) ⟨rfl, Below.refl _ _, hR⟩
                        · refine ⟨fun _ _ _ _ _ h => h, fun _ _ _ _ h _ => h, fun v nR x hnR hR hk => ?_⟩
                          have h0 : v 0 = iv (bk.hi : Int) := hk 0 (by kernel_rfl)
                          simp only [List.take_succ_cons, List.take_zero, frameF, Act.put, List.setIfInBounds_toArray, List.set_cons_zero, List.set_cons_succ]
                          exact stepF_val (by first | rfl | simp [Region.wanted, yielded, *]) (by go_simp <;> omega) ⟨rfl, Below.refl _ _, hR⟩
                      · intro v nR x9 hnR hR hall
                        have h1 : v 1 = .agg #[iv (i0 : Int), iv (i1 : Int)] := hall 1 (by decide)
                        have h2 : v 2 = iv (bk.hi : Int) := hall 2 (by decide)
                        clear hall hnR
                        simp only [List.drop_succ_cons, List.drop_zero, List.take_succ_cons, List.take_zero, frameF, Act.put, List.setIfInBounds_toArray, List.set_cons_zero, List.set_cons_succ, Nat.zero_add, Nat.reduceAdd, h1, h2]
                        have hD9 := HX7.out.under hR
                        have s0 := hD9.cell 0
                        have s1 := hD9.cell 1
                        have z0 := hD9.frozen 0
                        have z1 := hD9.frozen 1
                        have sl := hD9.lt
                        have hD10 := hD9.set_ 0 (iv (i0 : Int))
                        have HDE : Hid (Blk ((x9.setCell ⟨w4.heap.size, 0, none⟩ (iv (i0 : Int))).setCell ⟨w4.heap.size, 1, none⟩ (iv (i1 : Int))) w4.heap.size 83 #[iv (i0 : Int), iv (i1 : Int)]) := Lib.hid (hD10.set_ 1 (iv (i1 : Int)))
                        have HOE : Hid (Own strE 9 w4.heap.size ((x9.setCell ⟨w4.heap.size, 0, none⟩ (iv (i0 : Int))).setCell ⟨w4.heap.size, 1, none⟩ (iv (i1 : Int))) _ _) := Lib.hid (ownSetE (ownSetE (HE2.out.below hR) hD9 (by decide) _) hD10 (by decide) _)
                        have HCE : Hid (Own pairE 40 w4.heap.size ((x9.setCell ⟨w4.heap.size, 0, none⟩ (iv (i0 : Int))).setCell ⟨w4.heap.size, 1, none⟩ (iv (i1 : Int))) _ _) := Lib.hid (ownSetE (ownSetE (HE4.out.below hR) hD9 (by decide) _) hD10 (by decide) _)
                        have hbE : Below w4.heap.size w4 ((x9.setCell ⟨w4.heap.size, 0, none⟩ (iv (i0 : Int))).setCell ⟨w4.heap.size, 1, none⟩ (iv (i1 : Int))) := ((HX8.out.next hR (Nat.le_refl _)).setCell (p := ⟨w4.heap.size, 0, none⟩) (Nat.le_refl _) _).setCell (p := ⟨w4.heap.size, 1, none⟩) (Nat.le_refl _) _
                        have hme : vs0.length + vs1.length - cellN ((x9.setCell ⟨w4.heap.size, 0, none⟩ (iv (i0 : Int))).setCell ⟨w4.heap.size, 1, none⟩ (iv (i1 : Int))) w4.heap.size 0 - cellN ((x9.setCell ⟨w4.heap.size, 0, none⟩ (iv (i0 : Int))).setCell ⟨w4.heap.size, 1, none⟩ (iv (i1 : Int))) w4.heap.size 1 = vs0.length + vs1.length - i0 - i1 := by
                          rw [Blk.cellN HDE.out (n := i0) rfl, Blk.cellN HDE.out (n := i1) rfl]
                        have HME := Lib.hid hme
                        clear hD9 hD10 hR HE2 HE4 hme
                        go_wp2_with fail
                        go_roundw
                        case rel => exact ⟨i0, i1, bk.hi, _, _, rl, rfl, p3, hi0l, hi1l, hli, hci, HSN, HBN, HRN, HOE, HCE, HDE, hbE⟩
                        case measure =>
                          refine Nat.lt_of_le_of_lt (Nat.le_of_eq HME.out) ?_
                          rw [HWR.out]
                          refine Nat.lt_of_lt_of_le ?_ (Nat.le_of_eq HMD.out.symm)
                          omega
                    · have t1 : ((i1 : Int) == (k1 : Int)) = false := by simp; omega
                      have HNE1 : Hid (¬ bk.e1 = []) := Lib.hid fun h => h1 (HE1.out.1 h)
                      by_cases h0 : i0 = k0
                      · have t0 : ((i0 : Int) == (k0 : Int)) = true := by simp [h0]
                        have t2 : ¬ (i0 : Int) > (k0 : Int) := by omega
                        have HRN : Hid ((Y ++ H1) ++ (File.joinGo base bk.hi rl).1 = J.1 ∧ cf ++ (File.joinGo base bk.hi rl).2 = J.2) := Lib.hid (by
                          by_cases hH : H0 = H1
                          · have := HJG.out.1 (.inr hH)
                            rwa [hH] at this
                          · exact HJG.out.2.1 (fun h => h.elim HNE1.out hH) (HE0.out.2 h0))
                        have hli : (Y ++ H1).length ≤ (i0 + i1) * 5000 := by rw [List.length_append]; omega
                        have hci : cf.length ≤ i0 + i1 := by omega
                        clear h1 h0 HJG
                        go_upto_region 42 with (at_builtin; refine wpAppS strE tyStrs rfl _ _ rfl HO11.out HH111.out rfl rfl hsz (by unfold big; omega) ?_; intro v12 w12 hown12 hb12 hk12)
                        have hC12 := HC11.out.keep hb12.size fun b hb => hk12 b (HC11.out.lt b hb).2 (Own.two HC11.out HO11.out (by decide) hb)
                        have hB12 : Blk w12 wR.heap.size 83 #[iv (i0 : Int), iv (i1 : Int)] := (hk12 _ hB11.lt (ownNeBlk HO11.out hB11 (by decide))).trans hB11
                        have hD12 : Blk w12 w4.heap.size 83 #[iv (k0 : Int), iv (k1 : Int)] := (hk12 _ hD11.lt (ownNeBlk HO11.out hD11 (by decide))).trans hD11
                        have hb412 := hb411.trans hb12
                        clear b0 b1 bl e0 e1 el hk12 hb12 hB11 hD11 HO11 HC11 HH011 HH111
                        -- behind the block's lines: world w12, Own of the join hown12 : hli, of the conflicts hC12 : hci, Blk gB hB12, Blk gD hD12, Below w4 w4 w12 : hb412
                        have hsx := (hb412).size
                        have HE2 := Lib.hid (hown12)
                        have HE4 := Lib.hid (hC12)
                        have HX6 : Hid (∀ x, Below (w12).heap.size w12 x → x.cell? ⟨wR.heap.size, 0, none⟩ = some (iv (i0 : Int)) ∧ x.cell? ⟨wR.heap.size, 1, none⟩ = some (iv (i1 : Int)) ∧ wR.heap.size < x.heap.size) := Lib.hid fun x h => ⟨((hB12).under h).cell 0, ((hB12).under h).cell 1, ((hB12).under h).lt⟩
                        have HX7 := Lib.hid (hD12)
                        have HX8 := Lib.hid (hb412)
                        go_upto_region 42 with fail
                        refine wp_free_lit (by kernel_rfl) 3 (by kernel_rfl) (by kernel_rfl) (by decide) (fun nR x => Below w12.heap.size w12 x) (fun x x' => Below x.heap.size x x')
                          [fun _ u _ => u = iv (bk.hi : Int),
                           fun _ u _ => u = .agg #[iv (i0 : Int), iv (i1 : Int)],
                           fun _ u _ => u = iv (bk.hi : Int)]
                          (Below.refl _ w12).drew ?_ ?_
                        · simp only [List.take_succ_cons, List.take_zero, HopL]
                          refine ⟨?_, ?_, ?_, trivial⟩
                          · refine ⟨fun _ _ _ _ _ h => h, fun _ _ _ _ h _ => h, fun v nR x hnR hR hk => ?_⟩
                            simp only [List.take_succ_cons, List.take_zero, frameF, Act.put, List.setIfInBounds_toArray, List.set_cons_zero, List.set_cons_succ]
                            exact stepF_val (by first | rfl | simp [Region.wanted, yielded, *]) (by go_simp <;> omega) ⟨rfl, Below.refl _ _, hR⟩
                          · refine ⟨fun _ _ _ _ _ h => h, fun _ _ _ _ h _ => h, fun v nR x hnR hR hk => ?_⟩
                            obtain ⟨g1, g2, g3⟩ := HX6.out x hR
                            simp only [List.take_succ_cons, List.take_zero, frameF, Act.put, List.setIfInBounds_toArray, List.set_cons_zero, List.set_cons_succ]
                            exact stepF_val (by first | rfl | simp [Region.wanted, yielded, *]) (by go_simp <;> omega) ⟨rfl, Below.refl _ _, hR⟩
                          · refine ⟨fun _ _ _ _ _ h => h, fun _ _ _ _ h _ => h, fun v nR x hnR hR hk => ?_⟩
                            have h0 : v 0 = iv (bk.hi : Int) := hk 0 (by kernel_rfl)
                            simp only [List.take_succ_cons, List.take_zero, frameF, Act.put, List.setIfInBounds_toArray, List.set_cons_zero, List.set_cons_succ]
                            exact stepF_val (by first | rfl | simp [Region.wanted, yielded, *]) (by go_simp <;> omega) ⟨rfl, Below.refl _ _, hR⟩
                        · intro v nR x9 hnR hR hall
                          have h1 : v 1 = .agg #[iv (i0 : Int), iv (i1 : Int)] := hall 1 (by decide)
                          have h2 : v 2 = iv (bk.hi : Int) := hall 2 (by decide)
                          clear hall hnR
                          simp only [List.drop_succ_cons, List.drop_zero, List.take_succ_cons, List.take_zero, frameF, Act.put, List.setIfInBounds_toArray, List.set_cons_zero, List.set_cons_succ, Nat.zero_add, Nat.reduceAdd, h1, h2]
                          have hD9 := HX7.out.under hR
                          have s0 := hD9.cell 0
                          have s1 := hD9.cell 1
                          have z0 := hD9.frozen 0
                          have z1 := hD9.frozen 1
                          have sl := hD9.lt
                          have hD10 := hD9.set_ 0 (iv (i0 : Int))
                          have HDE : Hid (Blk ((x9.setCell ⟨w4.heap.size, 0, none⟩ (iv (i0 : Int))).setCell ⟨w4.heap.size, 1, none⟩ (iv (i1 : Int))) w4.heap.size 83 #[iv (i0 : Int), iv (i1 : Int)]) := Lib.hid (hD10.set_ 1 (iv (i1 : Int)))
                          have HOE : Hid (Own strE 9 w4.heap.size ((x9.setCell ⟨w4.heap.size, 0, none⟩ (iv (i0 : Int))).setCell ⟨w4.heap.size, 1, none⟩ (iv (i1 : Int))) _ _) := Lib.hid (ownSetE (ownSetE (HE2.out.below hR) hD9 (by decide) _) hD10 (by decide) _)
                          have HCE : Hid (Own pairE 40 w4.heap.size ((x9.setCell ⟨w4.heap.size, 0, none⟩ (iv (i0 : Int))).setCell ⟨w4.heap.size, 1, none⟩ (iv (i1 : Int))) _ _) := Lib.hid (ownSetE (ownSetE (HE4.out.below hR) hD9 (by decide) _) hD10 (by decide) _)
                          have hbE : Below w4.heap.size w4 ((x9.setCell ⟨w4.heap.size, 0, none⟩ (iv (i0 : Int))).setCell ⟨w4.heap.size, 1, none⟩ (iv (i1 : Int))) := ((HX8.out.next hR (Nat.le_refl _)).setCell (p := ⟨w4.heap.size, 0, none⟩) (Nat.le_refl _) _).setCell (p := ⟨w4.heap.size, 1, none⟩) (Nat.le_refl _) _
                          have hme : vs0.length + vs1.length - cellN ((x9.setCell ⟨w4.heap.size, 0, none⟩ (iv (i0 : Int))).setCell ⟨w4.heap.size, 1, none⟩ (iv (i1 : Int))) w4.heap.size 0 - cellN ((x9.setCell ⟨w4.heap.size, 0, none⟩ (iv (i0 : Int))).setCell ⟨w4.heap.size, 1, none⟩ (iv (i1 : Int))) w4.heap.size 1 = vs0.length + vs1.length - i0 - i1 := by
                            rw [Blk.cellN HDE.out (n := i0) rfl, Blk.cellN HDE.out (n := i1) rfl]
                          have HME := Lib.hid hme
                          clear hD9 hD10 hR HE2 HE4 hme
                          go_wp2_with fail
                          go_roundw
                          case rel => exact ⟨i0, i1, bk.hi, _, _, rl, rfl, p3, hi0l, hi1l, hli, hci, HSN, HBN, HRN, HOE, HCE, HDE, hbE⟩
                          case measure =>
                            refine Nat.lt_of_le_of_lt (Nat.le_of_eq HME.out) ?_
                            rw [HWR.out]
                            refine Nat.lt_of_lt_of_le ?_ (Nat.le_of_eq HMD.out.symm)
                            omega
                      · have t0 : ((i0 : Int) == (k0 : Int)) = false := by simp; omega
                        have t2 : (i0 : Int) > (k0 : Int) := by omega
                        have HSME := Lib.hid (rsame_spec Ah0 H0 ch0 Ah1 H1 ch1 w11 (by unfold big; omega) HH011.out (by unfold big; omega) HH111.out)
                        have HE0N : Hid (¬ bk.e0 = []) := Lib.hid fun h => h0 (HE0.out.1 h)
                        by_cases hH : H0 = H1
                        · have HRN := Lib.hid (HJG.out.1 (.inr hH))
                          rw [decide_eq_true hH] at HSME
                          have hli : (Y ++ H0).length ≤ (i0 + i1) * 5000 := by rw [List.length_append]; omega
                          have hci : cf.length ≤ i0 + i1 := by omega
                          clear h1 h0 HJG hH
                          go_wp2_with fail
                          refine HSME.out.mono ?_
                          rintro e w12 ⟨rfl, hb12⟩
                          have HO12 := Lib.hid (HO11.out.below hb12)
                          have HC12 := Lib.hid (HC11.out.below hb12)
                          have hB12 := hB11.under hb12
                          have hD12 := hD11.under hb12
                          have HH012 := Lib.hid (HH011.out.below hb12)
                          have hb412 := hb411.next hb12 (Nat.le_refl _)
                          have hsz2 := hb412.size
                          clear b0 b1 bl e0 e1 el hB11 hD11 HO11 HC11 HH011 HH111 hsz
                          go_upto_region 42 with (at_builtin; refine wpAppS strE tyStrs rfl _ _ rfl HO12.out HH012.out rfl rfl hsz2 (by unfold big; omega) ?_; intro v13 w13 hown13 hb13 hk13)
                          have hC13 := HC12.out.keep hb13.size fun b hb => hk13 b (HC12.out.lt b hb).2 (Own.two HC12.out HO12.out (by decide) hb)
                          have hB13 : Blk w13 wR.heap.size 83 #[iv (i0 : Int), iv (i1 : Int)] := (hk13 _ hB12.lt (ownNeBlk HO12.out hB12 (by decide))).trans hB12
                          have hD13 : Blk w13 w4.heap.size 83 #[iv (k0 : Int), iv (k1 : Int)] := (hk13 _ hD12.lt (ownNeBlk HO12.out hD12 (by decide))).trans hD12
                          have hb413 := hb412.trans hb13
                          clear hk13 hb13 hB12 hD12 HO12 HC12 HH012 hb12 hb411
                          -- behind the block's lines: world w13, Own of the join hown13 : hli, of the conflicts hC13 : hci, Blk gB hB13, Blk gD hD13, Below w4 w4 w13 : hb413
                          have hsx := (hb413).size
                          have HE2 := Lib.hid (hown13)
                          have HE4 := Lib.hid (hC13)
                          have HX6 : Hid (∀ x, Below (w13).heap.size w13 x → x.cell? ⟨wR.heap.size, 0, none⟩ = some (iv (i0 : Int)) ∧ x.cell? ⟨wR.heap.size, 1, none⟩ = some (iv (i1 : Int)) ∧ wR.heap.size < x.heap.size) := Lib.hid fun x h => ⟨((hB13).under h).cell 0, ((hB13).under h).cell 1, ((hB13).under h).lt⟩
                          have HX7 := Lib.hid (hD13)
                          have HX8 := Lib.hid (hb413)
                          go_upto_region 42 with fail
                          refine wp_free_lit (by kernel_rfl) 3 (by kernel_rfl) (by kernel_rfl) (by decide) (fun nR x => Below w13.heap.size w13 x) (fun x x' => Below x.heap.size x x')
                            [fun _ u _ => u = iv (bk.hi : Int),
                             fun _ u _ => u = .agg #[iv (i0 : Int), iv (i1 : Int)],
                             fun _ u _ => u = iv (bk.hi : Int)]
                            (Below.refl _ w13).drew ?_ ?_
                          · simp only [List.take_succ_cons, List.take_zero, HopL]
                            refine ⟨?_, ?_, ?_, trivial⟩
                            · refine ⟨fun _ _ _ _ _ h => h, fun _ _ _ _ h _ => h, fun v nR x hnR hR hk => ?_⟩
                              simp only [List.take_succ_cons, List.take_zero, frameF, Act.put, List.setIfInBounds_toArray, List.set_cons_zero, List.set_cons_succ]
                              exact stepF_val (by first | rfl | simp [Region.wanted, yielded, *]) (by go_simp <;> omega) ⟨rfl, Below.refl _ _, hR⟩
                            · refine ⟨fun _ _ _ _ _ h => h, fun _ _ _ _ h _ => h, fun v nR x hnR hR hk => ?_⟩
                              obtain ⟨g1, g2, g3⟩ := HX6.out x hR
                              simp only [List.take_succ_cons, List.take_zero, frameF, Act.put, List.setIfInBounds_toArray, List.set_cons_zero, List.set_cons_succ]
                              exact stepF_val (by first | rfl | simp [Region.wanted, yielded, *]) (by go_simp <;> omega) ⟨rfl, Below.refl _ _, hR⟩
                            · refine ⟨fun _ _ _ _ _ h => h, fun _ _ _ _ h _ => h, fun v nR x hnR hR hk => ?_⟩
                              have h0 : v 0 = iv (bk.hi : Int) := hk 0 (by kernel_rfl)
                              simp only [List.take_succ_cons, List.take_zero, frameF, Act.put, List.setIfInBounds_toArray, List.set_cons_zero, List.set_cons_succ]
                              exact stepF_val (by first | rfl | simp [Region.wanted, yielded, *]) (by go_simp <;> omega) ⟨rfl, Below.refl _ _, hR⟩
                          · intro v nR x9 hnR hR hall
                            have h1 : v 1 = .agg #[iv (i0 : Int), iv (i1 : Int)] := hall 1 (by decide)
                            have h2 : v 2 = iv (bk.hi : Int) := hall 2 (by decide)
                            clear hall hnR
                            simp only [List.drop_succ_cons, List.drop_zero, List.take_succ_cons, List.take_zero, frameF, Act.put, List.setIfInBounds_toArray, List.set_cons_zero, List.set_cons_succ, Nat.zero_add, Nat.reduceAdd, h1, h2]
                            have hD9 := HX7.out.under hR
                            have s0 := hD9.cell 0
                            have s1 := hD9.cell 1
                            have z0 := hD9.frozen 0
                            have z1 := hD9.frozen 1
                            have sl := hD9.lt
                            have hD10 := hD9.set_ 0 (iv (i0 : Int))
                            have HDE : Hid (Blk ((x9.setCell ⟨w4.heap.size, 0, none⟩ (iv (i0 : Int))).setCell ⟨w4.heap.size, 1, none⟩ (iv (i1 : Int))) w4.heap.size 83 #[iv (i0 : Int), iv (i1 : Int)]) := Lib.hid (hD10.set_ 1 (iv (i1 : Int)))
                            have HOE : Hid (Own strE 9 w4.heap.size ((x9.setCell ⟨w4.heap.size, 0, none⟩ (iv (i0 : Int))).setCell ⟨w4.heap.size, 1, none⟩ (iv (i1 : Int))) _ _) := Lib.hid (ownSetE (ownSetE (HE2.out.below hR) hD9 (by decide) _) hD10 (by decide) _)
                            have HCE : Hid (Own pairE 40 w4.heap.size ((x9.setCell ⟨w4.heap.size, 0, none⟩ (iv (i0 : Int))).setCell ⟨w4.heap.size, 1, none⟩ (iv (i1 : Int))) _ _) := Lib.hid (ownSetE (ownSetE (HE4.out.below hR) hD9 (by decide) _) hD10 (by decide) _)
                            have hbE : Below w4.heap.size w4 ((x9.setCell ⟨w4.heap.size, 0, none⟩ (iv (i0 : Int))).setCell ⟨w4.heap.size, 1, none⟩ (iv (i1 : Int))) := ((HX8.out.next hR (Nat.le_refl _)).setCell (p := ⟨w4.heap.size, 0, none⟩) (Nat.le_refl _) _).setCell (p := ⟨w4.heap.size, 1, none⟩) (Nat.le_refl _) _
                            have hme : vs0.length + vs1.length - cellN ((x9.setCell ⟨w4.heap.size, 0, none⟩ (iv (i0 : Int))).setCell ⟨w4.heap.size, 1, none⟩ (iv (i1 : Int))) w4.heap.size 0 - cellN ((x9.setCell ⟨w4.heap.size, 0, none⟩ (iv (i0 : Int))).setCell ⟨w4.heap.size, 1, none⟩ (iv (i1 : Int))) w4.heap.size 1 = vs0.length + vs1.length - i0 - i1 := by
                              rw [Blk.cellN HDE.out (n := i0) rfl, Blk.cellN HDE.out (n := i1) rfl]
                            have HME := Lib.hid hme
                            clear hD9 hD10 hR HE2 HE4 hme
                            go_wp2_with fail
                            go_roundw
                            case rel => exact ⟨i0, i1, bk.hi, _, _, rl, rfl, p3, hi0l, hi1l, hli, hci, HSN, HBN, HRN, HOE, HCE, HDE, hbE⟩
                            case measure =>
                              refine Nat.lt_of_le_of_lt (Nat.le_of_eq HME.out) ?_
                              rw [HWR.out]
                              refine Nat.lt_of_lt_of_le ?_ (Nat.le_of_eq HMD.out.symm)
                              omega
                        · have HRN := Lib.hid (HJG.out.2.2 (fun h => h.elim HNE1.out hH) HE0N.out)
                          rw [decide_eq_false hH] at HSME
                          have hli : (Y ++ yd).length ≤ (i0 + i1) * 5000 := by rw [List.length_append]; omega
                          have hci : (cf ++ [(bk.lo, bk.hi)]).length ≤ i0 + i1 := by rw [List.length_append]; simp; omega
                          clear h1 h0 HJG hH
                          go_wp2_with fail
                          refine HSME.out.mono ?_
                          rintro e w12 ⟨rfl, hb12⟩
                          have HO12 := Lib.hid (HO11.out.below hb12)
                          have HC12 := Lib.hid (HC11.out.below hb12)
                          have hB12 := hB11.under hb12
                          have hD12 := hD11.under hb12
                          have hb412 := hb411.next hb12 (Nat.le_refl _)
                          have hsz2 := hb412.size
                          have HSD12 := Lib.hid (HSC.out w12 hb412).2
                          clear b0 b1 bl e0 e1 el hB11 hD11 HO11 HC11 HH011 HH111 hsz
                          have e0 := hD12.cell 0
                          have el := hD12.lt
                          have b0 := hB12.cell 0
                          have bl := hB12.lt
                          go_upto_region 41 with (at_builtin; refine wpAppS strE tyStrs rfl _ _ rfl HO12.out HSD12.out rfl rfl hsz2 (by unfold big; omega) ?_; intro v13 w13 hown13 hb13 hk13)
                          have HC13 := Lib.hid (HC12.out.keep hb13.size fun b hb => hk13 b (HC12.out.lt b hb).2 (Own.two HC12.out HO12.out (by decide) hb))
                          have hB13 : Blk w13 wR.heap.size 83 #[iv (i0 : Int), iv (i1 : Int)] := (hk13 _ hB12.lt (ownNeBlk HO12.out hB12 (by decide))).trans hB12
                          have hD13 : Blk w13 w4.heap.size 83 #[iv (k0 : Int), iv (k1 : Int)] := (hk13 _ hD12.lt (ownNeBlk HO12.out hD12 (by decide))).trans hD12
                          have hb413 := hb412.trans hb13
                          have HO13 := Lib.hid hown13
                          have hsz3 := hb413.size
                          have hcl9 : cf.length + 1 ≤ big := by unfold big; omega
                          clear hk13 hb13 hB12 hD12 HO12 HC12 HSD12 hb12 hb411 hown13 e0 el b0 bl
                          go_upto_region 42 with (at_builtin; refine wpApp1 pairE tySpans rfl _ _ rfl HC13.out (bk.lo, bk.hi) rfl rfl rfl hsz3 hcl9 ?_; intro v14 w14 hown14 hb14 hk14)
                          have hO14 := HO13.out.keep hb14.size fun b hb => hk14 b (HO13.out.lt b hb).2 (Own.two HO13.out HC13.out (by decide) hb)
                          have hB14 : Blk w14 wR.heap.size 83 #[iv (i0 : Int), iv (i1 : Int)] := (hk14 _ hB13.lt (ownNeBlk HC13.out hB13 (by decide))).trans hB13
                          have hD14 : Blk w14 w4.heap.size 83 #[iv (k0 : Int), iv (k1 : Int)] := (hk14 _ hD13.lt (ownNeBlk HC13.out hD13 (by decide))).trans hD13
                          have hb414 := hb413.trans hb14
                          clear hk14 hb14 hB13 hD13 HO13 HC13 hb413
                          -- behind the block's lines: world w14, Own of the join hO14 : hli, of the conflicts hown14 : hci, Blk gB hB14, Blk gD hD14, Below w4 w4 w14 : hb414
                          have hsx := (hb414).size
                          have HE2 := Lib.hid (hO14)
                          have HE4 := Lib.hid (hown14)
                          have HX6 : Hid (∀ x, Below (w14).heap.size w14 x → x.cell? ⟨wR.heap.size, 0, none⟩ = some (iv (i0 : Int)) ∧ x.cell? ⟨wR.heap.size, 1, none⟩ = some (iv (i1 : Int)) ∧ wR.heap.size < x.heap.size) := Lib.hid fun x h => ⟨((hB14).under h).cell 0, ((hB14).under h).cell 1, ((hB14).under h).lt⟩
                          have HX7 := Lib.hid (hD14)
                          have HX8 := Lib.hid (hb414)
                          go_upto_region 42 with fail
                          refine wp_free_lit (by kernel_rfl) 3 (by kernel_rfl) (by kernel_rfl) (by decide) (fun nR x => Below w14.heap.size w14 x) (fun x x' => Below x.heap.size x x')
                            [fun _ u _ => u = iv (bk.hi : Int),
                             fun _ u _ => u = .agg #[iv (i0 : Int), iv (i1 : Int)],
                             fun _ u _ => u = iv (bk.hi : Int)]
                            (Below.refl _ w14).drew ?_ ?_
                          · simp only [List.take_succ_cons, List.take_zero, HopL]
                            refine ⟨?_, ?_, ?_, trivial⟩
                            · refine ⟨fun _ _ _ _ _ h => h, fun _ _ _ _ h _ => h, fun v nR x hnR hR hk => ?_⟩
                              simp only [List.take_succ_cons, List.take_zero, frameF, Act.put, List.setIfInBounds_toArray, List.set_cons_zero, List.set_cons_succ]
                              exact stepF_val (by first | rfl | simp [Region.wanted, yielded, *]) (by go_simp <;> omega) ⟨rfl, Below.refl _ _, hR⟩
                            · refine ⟨fun _ _ _ _ _ h => h, fun _ _ _ _ h _ => h, fun v nR x hnR hR hk => ?_⟩
                              obtain ⟨g1, g2, g3⟩ := HX6.out x hR
                              simp only [List.take_succ_cons, List.take_zero, frameF, Act.put, List.setIfInBounds_toArray, List.set_cons_zero, List.set_cons_succ]
                              exact stepF_val (by first | rfl | simp [Region.wanted, yielded, *]) (by go_simp <;> omega) ⟨rfl, Below.refl _ _, hR⟩
                            · refine ⟨fun _ _ _ _ _ h => h, fun _ _ _ _ h _ => h, fun v nR x hnR hR hk => ?_⟩
                              have h0 : v 0 = iv (bk.hi : Int) := hk 0 (by kernel_rfl)
                              simp only [List.take_succ_cons, List.take_zero, frameF, Act.put, List.setIfInBounds_toArray, List.set_cons_zero, List.set_cons_succ]
                              exact stepF_val (by first | rfl | simp [Region.wanted, yielded, *]) (by go_simp <;> omega) ⟨rfl, Below.refl _ _, hR⟩
                          · intro v nR x9 hnR hR hall
                            have h1 : v 1 = .agg #[iv (i0 : Int), iv (i1 : Int)] := hall 1 (by decide)
                            have h2 : v 2 = iv (bk.hi : Int) := hall 2 (by decide)
                            clear hall hnR
                            simp only [List.drop_succ_cons, List.drop_zero, List.take_succ_cons, List.take_zero, frameF, Act.put, List.setIfInBounds_toArray, List.set_cons_zero, List.set_cons_succ, Nat.zero_add, Nat.reduceAdd, h1, h2]
                            have hD9 := HX7.out.under hR
                            have s0 := hD9.cell 0
                            have s1 := hD9.cell 1
                            have z0 := hD9.frozen 0
                            have z1 := hD9.frozen 1
                            have sl := hD9.lt
                            have hD10 := hD9.set_ 0 (iv (i0 : Int))
                            have HDE : Hid (Blk ((x9.setCell ⟨w4.heap.size, 0, none⟩ (iv (i0 : Int))).setCell ⟨w4.heap.size, 1, none⟩ (iv (i1 : Int))) w4.heap.size 83 #[iv (i0 : Int), iv (i1 : Int)]) := Lib.hid (hD10.set_ 1 (iv (i1 : Int)))
                            have HOE : Hid (Own strE 9 w4.heap.size ((x9.setCell ⟨w4.heap.size, 0, none⟩ (iv (i0 : Int))).setCell ⟨w4.heap.size, 1, none⟩ (iv (i1 : Int))) _ _) := Lib.hid (ownSetE (ownSetE (HE2.out.below hR) hD9 (by decide) _) hD10 (by decide) _)
                            have HCE : Hid (Own pairE 40 w4.heap.size ((x9.setCell ⟨w4.heap.size, 0, none⟩ (iv (i0 : Int))).setCell ⟨w4.heap.size, 1, none⟩ (iv (i1 : Int))) _ _) := Lib.hid (ownSetE (ownSetE (HE4.out.below hR) hD9 (by decide) _) hD10 (by decide) _)
                            have hbE : Below w4.heap.size w4 ((x9.setCell ⟨w4.heap.size, 0, none⟩ (iv (i0 : Int))).setCell ⟨w4.heap.size, 1, none⟩ (iv (i1 : Int))) := ((HX8.out.next hR (Nat.le_refl _)).setCell (p := ⟨w4.heap.size, 0, none⟩) (Nat.le_refl _) _).setCell (p := ⟨w4.heap.size, 1, none⟩) (Nat.le_refl _) _
                            have hme : vs0.length + vs1.length - cellN ((x9.setCell ⟨w4.heap.size, 0, none⟩ (iv (i0 : Int))).setCell ⟨w4.heap.size, 1, none⟩ (iv (i1 : Int))) w4.heap.size 0 - cellN ((x9.setCell ⟨w4.heap.size, 0, none⟩ (iv (i0 : Int))).setCell ⟨w4.heap.size, 1, none⟩ (iv (i1 : Int))) w4.heap.size 1 = vs0.length + vs1.length - i0 - i1 := by
                              rw [Blk.cellN HDE.out (n := i0) rfl, Blk.cellN HDE.out (n := i1) rfl]
                            have HME := Lib.hid hme
                            clear hD9 hD10 hR HE2 HE4 hme
                            go_wp2_with fail
                            go_roundw
                            case rel => exact ⟨i0, i1, bk.hi, _, _, rl, rfl, p3, hi0l, hi1l, hli, hci, HSN, HBN, HRN, HOE, HCE, HDE, hbE⟩
                            case measure =>
                              refine Nat.lt_of_le_of_lt (Nat.le_of_eq HME.out) ?_
                              rw [HWR.out]
                              refine Nat.lt_of_lt_of_le ?_ (Nat.le_of_eq HMD.out.symm)
                              omega
        · as_aux_lemma =>
          have HM2 := Lib.hid hmz
          have HI0 : Hid (true = true → i0 + i1 ≤ i0 + i1) := Lib.hid fun _ => Nat.le_refl _
          have HF3 : Hid (File.Idle C D k0 k1 i0 i1 0 i0 i1 false) := Lib.hid fun _ => ⟨rfl, rfl, fun h => absurd h (by decide), fun h => absurd h (by decide)⟩
          have HT3 : Hid (false = true → i0 + i1 < i0 + i1) := Lib.hid fun h => by cases h
          clear hmz HZ
          go_wp2_with fail
          go_loopw [16, 17] (fun g kk wx => ∃ (t j0 j1 : Nat) (z : Bool), t ≤ 2 ∧ kk = iv (t : Int) ∧ g = .bool z ∧ Hid (File.Grows C D k0 k1 bk j0 j1) ∧ Hid (Blk wx wR.heap.size 83 #[iv (j0 : Int), iv (j1 : Int)]) ∧ Hid (z = true → i0 + i1 < j0 + j1) ∧ Hid (File.Idle C D k0 k1 i0 i1 t j0 j1 z) ∧ Below wR.heap.size wR wx) (fun _ kk _ => 2 - (intOf kk).toNat)
          case atStart => exact ⟨0, i0, i1, false, by omega, rfl, rfl, HG, HB, HT3, HF3, hbx⟩
          case round =>
            clear HT3 HF3 HI0 HG HB hbx
            obtain ⟨t, j0, j1, z, ht, rfl, rfl, HG, HB, HT, HF3, hbx⟩ := hrel
            by_cases ht2 : t < 2
            · have hti : (t : Int) < 2 := by omega
              obtain ⟨vX, vY, AX, AY, dX, dY, tu, jx, jy, ky, hal⟩ := alike_of HST.out HG.out HQ0.out HQ1.out hv0 hv1 hn0 hn1 (fun W h => ⟨(HFW.out W h).1, (HFW.out W h).2.1, (HFW.out W h).2.2.1, (HFW.out W h).2.2.2.1⟩) HSM.out ht2
              have hut := hal.ut
              have hX := hal.lx
              have hY := hal.ly
              have hjx := hal.hjx
              have hky := hal.hky
              have hjy := hal.hjy
              have HAL := Lib.hid hal
              clear hal
              have hui : IntKind.i64.wrap (1 - (t : Int)) = (tu : Int) := by rw [show 1 - (t : Int) = (tu : Int) by omega]; exact IntWalk.i64_in _ (by omega)
              have hui2 : (tu : Int) < 2 := by omega
              have hu2 : tu < 2 := by omega
              have hzt := HT.out
              have HP0 := Lib.hid (HAL.out.self)
              have HB0 : Hid (Blk wr wR.heap.size 83 #[iv ((File.at2 t jx j0 j1).1 : Int), iv ((File.at2 t jx j0 j1).2 : Int)]) := Lib.hid (by rw [HP0.out]; exact HB.out)
              have hBr := HB0.out
              obtain ⟨g1, g2, g3, g4, g5⟩ := HAL.out.cells wr hbx
              have b1 := hBr.cell t
              have b2 := hBr.cell tu
              rw [(HAL.out.place jx).1] at b1
              rw [(HAL.out.place jx).2.1] at b2
              have bl := hBr.lt
              clear hBr hzt HB
              by_cases hend : jx = vX.length
              · have he1 : ((jx : Int) == (vX.length : Int)) = true := by simp [hend]
                have HC9 : Hid (File.Calm (vX.map EdV.ed) (vY.map EdV.ed) ky jx jy) := Lib.hid fun x hx => by
                  rw [List.getElem?_eq_none (by rw [List.length_map]; omega)] at hx
                  cases hx
                have HF4 : Hid (File.Idle C D k0 k1 i0 i1 (t + 1) j0 j1 z) := Lib.hid fun hz => by
                  obtain ⟨e1, e2, e3, e4⟩ := HF3.out hz
                  obtain ⟨c1, c2⟩ := HAL.out.calm HC9.out
                  rw [e1, e2] at c1 c2
                  refine ⟨e1, e2, fun _ => ?_, fun h => c2 (by omega)⟩
                  by_cases h0 : t = 0
                  · exact c1 h0
                  · exact e3 (by omega)
                clear hend b2 g2 g3 g5 HC9 HF3
                go_wp2_with fail
                go_quiet (fail)
                have hqd : Below wR.heap.size wR (wr.drewN nq) := ⟨hbx.os, hbx.tape, hbx.output, hbx.size, hbx.block⟩
                have HBq : Hid (Blk (wr.drewN nq) wR.heap.size 83 #[iv (j0 : Int), iv (j1 : Int)]) := Lib.hid (by have := HB0.out; rw [HP0.out] at this; exact this)
                generalize wr.drewN nq = wq at *
                go_wp2_with fail
                go_roundw
                case rel => exact ⟨t + 1, j0, j1, z, by omega, by go_num, rfl, HG, HBq, HT, HF4, hqd⟩
                case measure => simp [intOf]; omega
              · have he1 : ((jx : Int) == (vX.length : Int)) = false := by simp; omega
                have HG0 : Hid (File.Grows C D k0 k1 bk (File.at2 t jx j0 j1).1 (File.at2 t jx j0 j1).2) := Lib.hid (by rw [HP0.out]; exact HG.out)
                clear hend
                go_wp2_with fail
                go_quiet (fail)
                have hqd : Below wR.heap.size wR (wr.drewN nq) := ⟨hbx.os, hbx.tape, hbx.output, hbx.size, hbx.block⟩
                have HBq : Hid (Blk (wr.drewN nq) wR.heap.size 83 #[iv ((File.at2 t jx j0 j1).1 : Int), iv ((File.at2 t jx j0 j1).2 : Int)]) := Lib.hid HB0.out
                have g3' : (wr.drewN nq).cell? ⟨w4.heap.size, tu, none⟩ = some (iv (ky : Int)) := g3
                have g5' : w4.heap.size < (wr.drewN nq).heap.size := g5
                generalize wr.drewN nq = wq at *
                clear g1 g2 g3 g4 g5 b1 b2 bl HB0 hbx HG
                go_wp2_with fail
                go_loopw [16, 18] (fun g vi wx => ∃ (m n : Nat) (zz : Bool), ky ≤ m ∧ m ≤ jy ∧ vi = iv (m : Int) ∧ g = .bool zz ∧ jx ≤ n ∧ n ≤ vX.length ∧ Hid (File.Grows C D k0 k1 bk (File.at2 t n j0 j1).1 (File.at2 t n j0 j1).2) ∧ Hid (Blk wx wR.heap.size 83 #[iv ((File.at2 t n j0 j1).1 : Int), iv ((File.at2 t n j0 j1).2 : Int)]) ∧ Hid (zz = true → z = true ∨ jx < n) ∧ Hid (zz = false → z = false ∧ n = jx ∧ File.Calm (vX.map EdV.ed) (vY.map EdV.ed) ky jx m) ∧ Below wR.heap.size wR wx) (fun _ vi _ => jy - (intOf vi).toNat)
                case atStart => exact ⟨ky, jx, z, Nat.le_refl _, hky, rfl, rfl, Nat.le_refl _, hjx, HG0, HBq, Lib.hid fun h => .inl h, Lib.hid fun h => ⟨h, rfl, fun _ _ m y h1 h2 => by omega⟩, hqd⟩
                case round =>
                  clear HG0 HBq g3' g5' hqd
                  obtain ⟨m, n, zz, hm1, hm2, rfl, rfl, hn1', hn2', HG, HB, HTT, HFF, hbx⟩ := hrel
                  have hBr := HB.out
                  have b2 := hBr.cell tu
                  rw [(HAL.out.place n).2.1] at b2
                  have bl := hBr.lt
                  by_cases hmj : m < jy
                  · have hmi : (m : Int) < (jy : Int) := by omega
                    have hyl : m < vY.length := by omega
                    obtain ⟨bY, oY, y, eY, hbY, hy, _, _, _⟩ := Sl.atEd (HAL.out.sly wr hbx) hyl
                    have hyi : (m : Int) < (vY.length : Int) := by omega
                    subst eY
                    have hb1 := hBr.cell t
                    rw [(HAL.out.place n).1] at hb1
                    have HBX : Hid (∀ x, Below wR.heap.size wR x → x.cell? ⟨gC, t, none⟩ = some (.slice AX vX.length dX) ∧ x.cell? ⟨gC, tu, none⟩ = some (.slice (some ⟨bY, oY, none⟩) vY.length dY) ∧ gC < x.heap.size) := Lib.hid fun x h => ⟨(HAL.out.cells x h).1, (HAL.out.cells x h).2.1, (HAL.out.cells x h).2.2.2.1⟩
                    have HBB : Hid (∀ x, Below wr.heap.size wr x → x.cell? ⟨wR.heap.size, t, none⟩ = some (iv (n : Int)) ∧ wR.heap.size < x.heap.size) := Lib.hid fun x h => by
                      have h1 := (HB.out.under h)
                      have h2 := h1.cell t
                      rw [(HAL.out.place n).1] at h2
                      exact ⟨h2, h1.lt⟩
                    have HYD : Hid ((vY.map EdV.ed)[m]? = some y.ed) := Lib.hid (by rw [List.getElem?_map, hy]; rfl)
                    clear hBr hb1
                    by_cases hnx : n < vX.length
                    · have hni : (n : Int) < (vX.length : Int) := by omega
                      obtain ⟨bX, oX, x0, eX, hbX, hx, _, _, _⟩ := Sl.atEd (HAL.out.slx wr hbx) hnx
                      subst eX
                      have hsx := HAL.out.small x0 (.inl (mem_at hx))
                      have hsy := HAL.out.small y (.inr (mem_at hy))
                      obtain ⟨mt, hmt⟩ : ∃ mt, mt = File.meet x0.ed y.ed := ⟨_, rfl⟩
                      have HMT : Hid (∀ W, Calls Tryz.prog 77 #[.agg #[iv x0.at_, .slice x0.A x0.old.length x0.c, .slice x0.A' x0.new.length x0.c'], .agg #[iv y.at_, .slice y.A y.old.length y.c, .slice y.A' y.new.length y.c']] W fun e w' => e = .returned (.bool mt) ∧ Below W.heap.size W w') := Lib.hid fun W => by
                        rw [hmt]
                        exact rmeet_spec x0 y W ⟨hsx.1, hsx.2.1⟩ ⟨hsy.1, hsy.2.1⟩ hsx.2.2.1 hsy.2.2.1
                      have HCX : Hid (∀ W, Below wR.heap.size wR W → W.cell? ⟨bX, oX + n * 3, none⟩ = some (iv x0.at_) ∧ W.cell? ⟨bX, oX + n * 3 + 1, none⟩ = some (.slice x0.A x0.old.length x0.c) ∧ W.cell? ⟨bX, oX + n * 3 + 2, none⟩ = some (.slice x0.A' x0.new.length x0.c')) := Lib.hid (Sl.cellEd (HAL.out.slx wR (Below.refl _ _)) hx)
                      have HCY : Hid (∀ W, Below wR.heap.size wR W → W.cell? ⟨bY, oY + m * 3, none⟩ = some (iv y.at_) ∧ W.cell? ⟨bY, oY + m * 3 + 1, none⟩ = some (.slice y.A y.old.length y.c) ∧ W.cell? ⟨bY, oY + m * 3 + 2, none⟩ = some (.slice y.A' y.new.length y.c')) := Lib.hid (Sl.cellEd (HAL.out.sly wR (Below.refl _ _)) hy)
                      have HXD : Hid ((vX.map EdV.ed)[n]? = some x0.ed) := Lib.hid (by rw [List.getElem?_map, hx]; rfl)
                      have HMM := Lib.hid hmt
                      have hb3 : n ≤ 25 := by omega
                      clear hx hy hsx hsy hmt hbX hbY
                      go_upto_region 22 with fail
                      clear b2 bl
                      refine wp_free_lit (by kernel_rfl) 26 (by kernel_rfl) (by kernel_rfl) (by decide) (fun nR x => Below wr.heap.size wr x) (fun x x' => Below x.heap.size x x')
                        [fun _ u _ => u = iv (t : Int),
                         fun _ u _ => u = .pointer (some ⟨wR.heap.size, t, none⟩),
                         fun _ u _ => u = iv (n : Int),
                         fun _ u _ => u = iv (t : Int),
                         fun _ u _ => u = .pointer (some ⟨gC, t, none⟩),
                         fun _ u _ => u = .slice (some ⟨bX, oX, none⟩) vX.length dX,
                         fun _ u _ => u = iv (vX.length : Int),
                         fun _ u _ => u = .bool true,
                         fun _ u _ => u = .bool true,
                         fun _ u _ => u = iv (t : Int),
                         fun _ u _ => u = .pointer (some ⟨gC, t, none⟩),
                         fun _ u _ => u = .slice (some ⟨bX, oX, none⟩) vX.length dX,
                         fun _ u _ => u = iv (t : Int),
                         fun _ u _ => u = .pointer (some ⟨wR.heap.size, t, none⟩),
                         fun _ u _ => u = iv (n : Int),
                         fun _ u _ => u = .pointer (some ⟨bX, oX + n * 3, none⟩),
                         fun _ u _ => u = .agg #[iv x0.at_, .slice x0.A x0.old.length x0.c, .slice x0.A' x0.new.length x0.c'],
                         fun _ u _ => u = iv (t : Int),
                         fun _ u _ => u = iv (tu : Int),
                         fun _ u _ => u = .pointer (some ⟨gC, tu, none⟩),
                         fun _ u _ => u = .slice (some ⟨bY, oY, none⟩) vY.length dY,
                         fun _ u _ => u = iv (m : Int),
                         fun _ u _ => u = .pointer (some ⟨bY, oY + m * 3, none⟩),
                         fun _ u _ => u = .agg #[iv y.at_, .slice y.A y.old.length y.c, .slice y.A' y.new.length y.c'],
                         fun _ u _ => u = .bool mt,
                         fun _ u _ => u = .bool mt]
                        (Below.refl _ wr).drew ?_ ?_
                      · simp only [List.take_succ_cons, List.take_zero, HopL]
                        refine ⟨?_, ?_, ?_, ?_, ?_, ?_, ?_, ?_, ?_, ?_, ?_, ?_, ?_, ?_, ?_, ?_, ?_, ?_, ?_, ?_, ?_, ?_, ?_, ?_, ?_, ?_, trivial⟩
                        · refine ⟨fun _ _ _ _ _ h => h, fun _ _ _ _ h _ => h, fun v nR x hnR hR hk => ?_⟩
                          simp only [List.take_succ_cons, List.take_zero, frameF, Act.put, List.setIfInBounds_toArray, List.set_cons_zero, List.set_cons_succ]
                          exact stepF_val (by first | rfl | simp [Region.wanted, yielded, *]) (by go_simp <;> omega) ⟨rfl, Below.refl _ _, hR⟩
                        · refine ⟨fun _ _ _ _ _ h => h, fun _ _ _ _ h _ => h, fun v nR x hnR hR hk => ?_⟩
                          have h0 : v 0 = iv (t : Int) := hk 0 (by kernel_rfl)
                          have g1 := (HBB.out x hR).2
                          simp only [List.take_succ_cons, List.take_zero, frameF, Act.put, List.setIfInBounds_toArray, List.set_cons_zero, List.set_cons_succ]
                          exact stepF_val (by first | rfl | simp [Region.wanted, yielded, *]) (by go_simp <;> omega) ⟨rfl, Below.refl _ _, hR⟩
                        · refine ⟨fun _ _ _ _ _ h => h, fun _ _ _ _ h _ => h, fun v nR x hnR hR hk => ?_⟩
                          have h1 : v 1 = .pointer (some ⟨wR.heap.size, t, none⟩) := hk 1 (by kernel_rfl)
                          have g1 := (HBB.out x hR).1
                          simp only [List.take_succ_cons, List.take_zero, frameF, Act.put, List.setIfInBounds_toArray, List.set_cons_zero, List.set_cons_succ]
                          exact stepF_val (by first | rfl | simp [Region.wanted, yielded, *]) (by go_simp <;> omega) ⟨rfl, Below.refl _ _, hR⟩
                        · refine ⟨fun _ _ _ _ _ h => h, fun _ _ _ _ h _ => h, fun v nR x hnR hR hk => ?_⟩
                          simp only [List.take_succ_cons, List.take_zero, frameF, Act.put, List.setIfInBounds_toArray, List.set_cons_zero, List.set_cons_succ]
                          exact stepF_val (by first | rfl | simp [Region.wanted, yielded, *]) (by go_simp <;> omega) ⟨rfl, Below.refl _ _, hR⟩
                        · refine ⟨fun _ _ _ _ _ h => h, fun _ _ _ _ h _ => h, fun v nR x hnR hR hk => ?_⟩
                          have h3 : v 3 = iv (t : Int) := hk 3 (by kernel_rfl)
                          have g1 := (HBX.out x (hbx.next hR (Nat.le_refl _))).2.2
                          simp only [List.take_succ_cons, List.take_zero, frameF, Act.put, List.setIfInBounds_toArray, List.set_cons_zero, List.set_cons_succ]
                          exact stepF_val (by first | rfl | simp [Region.wanted, yielded, *]) (by go_simp <;> omega) ⟨rfl, Below.refl _ _, hR⟩
                        · refine ⟨fun _ _ _ _ _ h => h, fun _ _ _ _ h _ => h, fun v nR x hnR hR hk => ?_⟩
                          have h4 : v 4 = .pointer (some ⟨gC, t, none⟩) := hk 4 (by kernel_rfl)
                          have g1 := (HBX.out x (hbx.next hR (Nat.le_refl _))).1
                          simp only [List.take_succ_cons, List.take_zero, frameF, Act.put, List.setIfInBounds_toArray, List.set_cons_zero, List.set_cons_succ]
                          exact stepF_val (by first | rfl | simp [Region.wanted, yielded, *]) (by go_simp <;> omega) ⟨rfl, Below.refl _ _, hR⟩
                        · refine ⟨fun _ _ _ _ _ h => h, fun _ _ _ _ h _ => h, fun v nR x hnR hR hk => ?_⟩
                          have h5 : v 5 = .slice (some ⟨bX, oX, none⟩) vX.length dX := hk 5 (by kernel_rfl)
                          simp only [List.take_succ_cons, List.take_zero, frameF, Act.put, List.setIfInBounds_toArray, List.set_cons_zero, List.set_cons_succ]
                          exact stepF_val (by first | rfl | simp [Region.wanted, yielded, *]) (by go_simp <;> omega) ⟨rfl, Below.refl _ _, hR⟩
                        · refine ⟨fun _ _ _ _ _ h => h, fun _ _ _ _ h _ => h, fun v nR x hnR hR hk => ?_⟩
                          have h2 : v 2 = iv (n : Int) := hk 2 (by kernel_rfl)
                          have h6 : v 6 = iv (vX.length : Int) := hk 6 (by kernel_rfl)
                          simp only [List.take_succ_cons, List.take_zero, frameF, Act.put, List.setIfInBounds_toArray, List.set_cons_zero, List.set_cons_succ]
                          exact stepF_val (by first | rfl | simp [Region.wanted, yielded, *]) (by go_simp <;> omega) ⟨rfl, Below.refl _ _, hR⟩
                        · refine ⟨fun _ _ _ _ _ h => h, fun _ _ _ _ h _ => h, fun v nR x hnR hR hk => ?_⟩
                          have h7 : v 7 = .bool true := hk 7 (by kernel_rfl)
                          simp only [List.take_succ_cons, List.take_zero, frameF, Act.put, List.setIfInBounds_toArray, List.set_cons_zero, List.set_cons_succ]
                          exact stepF_val (by first | rfl | simp [Region.wanted, yielded, *]) (by go_simp <;> omega) ⟨rfl, Below.refl _ _, hR⟩
                        · refine ⟨fun _ _ _ _ _ h => h, fun _ _ _ _ h _ => h, fun v nR x hnR hR hk => ?_⟩
                          have h8 : v 8 = .bool true := hk 8 (by kernel_rfl)
                          simp only [List.take_succ_cons, List.take_zero, frameF, Act.put, List.setIfInBounds_toArray, List.set_cons_zero, List.set_cons_succ]
                          exact stepF_val (by first | rfl | simp [Region.wanted, yielded, *]) (by go_simp <;> omega) ⟨rfl, Below.refl _ _, hR⟩
                        · refine ⟨fun _ _ _ _ _ h => h, fun _ _ _ _ h _ => h, fun v nR x hnR hR hk => ?_⟩
                          have h9 : v 9 = iv (t : Int) := hk 9 (by kernel_rfl)
                          have h8 : v 8 = .bool true := hk 8 (by kernel_rfl)
                          have g1 := (HBX.out x (hbx.next hR (Nat.le_refl _))).2.2
                          simp only [List.take_succ_cons, List.take_zero, frameF, Act.put, List.setIfInBounds_toArray, List.set_cons_zero, List.set_cons_succ]
                          exact stepF_val (by first | rfl | simp [Region.wanted, yielded, *]) (by go_simp <;> omega) ⟨rfl, Below.refl _ _, hR⟩
                        · refine ⟨fun _ _ _ _ _ h => h, fun _ _ _ _ h _ => h, fun v nR x hnR hR hk => ?_⟩
                          have h10 : v 10 = .pointer (some ⟨gC, t, none⟩) := hk 10 (by kernel_rfl)
                          have h8 : v 8 = .bool true := hk 8 (by kernel_rfl)
                          have g1 := (HBX.out x (hbx.next hR (Nat.le_refl _))).1
                          simp only [List.take_succ_cons, List.take_zero, frameF, Act.put, List.setIfInBounds_toArray, List.set_cons_zero, List.set_cons_succ]
                          exact stepF_val (by first | rfl | simp [Region.wanted, yielded, *]) (by go_simp <;> omega) ⟨rfl, Below.refl _ _, hR⟩
                        · refine ⟨fun _ _ _ _ _ h => h, fun _ _ _ _ h _ => h, fun v nR x hnR hR hk => ?_⟩
                          have h8 : v 8 = .bool true := hk 8 (by kernel_rfl)
                          simp only [List.take_succ_cons, List.take_zero, frameF, Act.put, List.setIfInBounds_toArray, List.set_cons_zero, List.set_cons_succ]
                          exact stepF_val (by first | rfl | simp [Region.wanted, yielded, *]) (by go_simp <;> omega) ⟨rfl, Below.refl _ _, hR⟩
                        · refine ⟨fun _ _ _ _ _ h => h, fun _ _ _ _ h _ => h, fun v nR x hnR hR hk => ?_⟩
                          have h12 : v 12 = iv (t : Int) := hk 12 (by kernel_rfl)
                          have h8 : v 8 = .bool true := hk 8 (by kernel_rfl)
                          have g1 := (HBB.out x hR).2
                          simp only [List.take_succ_cons, List.take_zero, frameF, Act.put, List.setIfInBounds_toArray, List.set_cons_zero, List.set_cons_succ]
                          exact stepF_val (by first | rfl | simp [Region.wanted, yielded, *]) (by go_simp <;> omega) ⟨rfl, Below.refl _ _, hR⟩
                        · refine ⟨fun _ _ _ _ _ h => h, fun _ _ _ _ h _ => h, fun v nR x hnR hR hk => ?_⟩
                          have h13 : v 13 = .pointer (some ⟨wR.heap.size, t, none⟩) := hk 13 (by kernel_rfl)
                          have h8 : v 8 = .bool true := hk 8 (by kernel_rfl)
                          have g1 := (HBB.out x hR).1
                          simp only [List.take_succ_cons, List.take_zero, frameF, Act.put, List.setIfInBounds_toArray, List.set_cons_zero, List.set_cons_succ]
                          exact stepF_val (by first | rfl | simp [Region.wanted, yielded, *]) (by go_simp <;> omega) ⟨rfl, Below.refl _ _, hR⟩
                        · refine ⟨fun _ _ _ _ _ h => h, fun _ _ _ _ h _ => h, fun v nR x hnR hR hk => ?_⟩
                          have h11 : v 11 = .slice (some ⟨bX, oX, none⟩) vX.length dX := hk 11 (by kernel_rfl)
                          have h14 : v 14 = iv (n : Int) := hk 14 (by kernel_rfl)
                          have h8 : v 8 = .bool true := hk 8 (by kernel_rfl)
                          simp only [List.take_succ_cons, List.take_zero, frameF, Act.put, List.setIfInBounds_toArray, List.set_cons_zero, List.set_cons_succ]
                          exact stepF_val (by first | rfl | simp [Region.wanted, yielded, *]) (by go_simp <;> omega) ⟨rfl, Below.refl _ _, hR⟩
                        · refine ⟨fun _ _ _ _ _ h => h, fun _ _ _ _ h _ => h, fun v nR x hnR hR hk => ?_⟩
                          have h15 : v 15 = .pointer (some ⟨bX, oX + n * 3, none⟩) := hk 15 (by kernel_rfl)
                          have h8 : v 8 = .bool true := hk 8 (by kernel_rfl)
                          obtain ⟨g1, g2, g3⟩ := HCX.out x (hbx.next hR (Nat.le_refl _))
                          simp only [List.take_succ_cons, List.take_zero, frameF, Act.put, List.setIfInBounds_toArray, List.set_cons_zero, List.set_cons_succ]
                          exact stepF_val (by first | rfl | simp [Region.wanted, yielded, *]) (by go_simp <;> omega) ⟨rfl, Below.refl _ _, hR⟩
                        · refine ⟨fun _ _ _ _ _ h => h, fun _ _ _ _ h _ => h, fun v nR x hnR hR hk => ?_⟩
                          have h8 : v 8 = .bool true := hk 8 (by kernel_rfl)
                          simp only [List.take_succ_cons, List.take_zero, frameF, Act.put, List.setIfInBounds_toArray, List.set_cons_zero, List.set_cons_succ]
                          exact stepF_val (by first | rfl | simp [Region.wanted, yielded, *]) (by go_simp <;> omega) ⟨rfl, Below.refl _ _, hR⟩
                        · refine ⟨fun _ _ _ _ _ h => h, fun _ _ _ _ h _ => h, fun v nR x hnR hR hk => ?_⟩
                          have h17 : v 17 = iv (t : Int) := hk 17 (by kernel_rfl)
                          have h8 : v 8 = .bool true := hk 8 (by kernel_rfl)
                          simp only [List.take_succ_cons, List.take_zero, frameF, Act.put, List.setIfInBounds_toArray, List.set_cons_zero, List.set_cons_succ]
                          exact stepF_val (by first | rfl | simp [Region.wanted, yielded, *]) (by go_simp <;> omega) ⟨rfl, Below.refl _ _, hR⟩
                        · refine ⟨fun _ _ _ _ _ h => h, fun _ _ _ _ h _ => h, fun v nR x hnR hR hk => ?_⟩
                          have h18 : v 18 = iv (tu : Int) := hk 18 (by kernel_rfl)
                          have h8 : v 8 = .bool true := hk 8 (by kernel_rfl)
                          have g1 := (HBX.out x (hbx.next hR (Nat.le_refl _))).2.2
                          simp only [List.take_succ_cons, List.take_zero, frameF, Act.put, List.setIfInBounds_toArray, List.set_cons_zero, List.set_cons_succ]
                          exact stepF_val (by first | rfl | simp [Region.wanted, yielded, *]) (by go_simp <;> omega) ⟨rfl, Below.refl _ _, hR⟩
                        · refine ⟨fun _ _ _ _ _ h => h, fun _ _ _ _ h _ => h, fun v nR x hnR hR hk => ?_⟩
                          have h19 : v 19 = .pointer (some ⟨gC, tu, none⟩) := hk 19 (by kernel_rfl)
                          have h8 : v 8 = .bool true := hk 8 (by kernel_rfl)
                          have g1 := (HBX.out x (hbx.next hR (Nat.le_refl _))).2.1
                          simp only [List.take_succ_cons, List.take_zero, frameF, Act.put, List.setIfInBounds_toArray, List.set_cons_zero, List.set_cons_succ]
                          exact stepF_val (by first | rfl | simp [Region.wanted, yielded, *]) (by go_simp <;> omega) ⟨rfl, Below.refl _ _, hR⟩
                        · refine ⟨fun _ _ _ _ _ h => h, fun _ _ _ _ h _ => h, fun v nR x hnR hR hk => ?_⟩
                          have h8 : v 8 = .bool true := hk 8 (by kernel_rfl)
                          simp only [List.take_succ_cons, List.take_zero, frameF, Act.put, List.setIfInBounds_toArray, List.set_cons_zero, List.set_cons_succ]
                          exact stepF_val (by first | rfl | simp [Region.wanted, yielded, *]) (by go_simp <;> omega) ⟨rfl, Below.refl _ _, hR⟩
                        · refine ⟨fun _ _ _ _ _ h => h, fun _ _ _ _ h _ => h, fun v nR x hnR hR hk => ?_⟩
                          have h20 : v 20 = .slice (some ⟨bY, oY, none⟩) vY.length dY := hk 20 (by kernel_rfl)
                          have h21 : v 21 = iv (m : Int) := hk 21 (by kernel_rfl)
                          have h8 : v 8 = .bool true := hk 8 (by kernel_rfl)
                          simp only [List.take_succ_cons, List.take_zero, frameF, Act.put, List.setIfInBounds_toArray, List.set_cons_zero, List.set_cons_succ]
                          exact stepF_val (by first | rfl | simp [Region.wanted, yielded, *]) (by go_simp <;> omega) ⟨rfl, Below.refl _ _, hR⟩
                        · refine ⟨fun _ _ _ _ _ h => h, fun _ _ _ _ h _ => h, fun v nR x hnR hR hk => ?_⟩
                          have h22 : v 22 = .pointer (some ⟨bY, oY + m * 3, none⟩) := hk 22 (by kernel_rfl)
                          have h8 : v 8 = .bool true := hk 8 (by kernel_rfl)
                          obtain ⟨g1, g2, g3⟩ := HCY.out x (hbx.next hR (Nat.le_refl _))
                          simp only [List.take_succ_cons, List.take_zero, frameF, Act.put, List.setIfInBounds_toArray, List.set_cons_zero, List.set_cons_succ]
                          exact stepF_val (by first | rfl | simp [Region.wanted, yielded, *]) (by go_simp <;> omega) ⟨rfl, Below.refl _ _, hR⟩
                        · refine ⟨fun _ _ _ _ _ h => h, fun _ _ _ _ h _ => h, fun v nR x hnR hR hk => ?_⟩
                          have h16 : v 16 = .agg #[iv x0.at_, .slice x0.A x0.old.length x0.c, .slice x0.A' x0.new.length x0.c'] := hk 16 (by kernel_rfl)
                          have h23 : v 23 = .agg #[iv y.at_, .slice y.A y.old.length y.c, .slice y.A' y.new.length y.c'] := hk 23 (by kernel_rfl)
                          have h8 : v 8 = .bool true := hk 8 (by kernel_rfl)
                          simp only [List.take_succ_cons, List.take_zero, frameF, Act.put, List.setIfInBounds_toArray, List.set_cons_zero, List.set_cons_succ]
                          refine stepF_call (by first | rfl | simp [Region.wanted, yielded, *]) (by go_simp) (HMT.out x) ?_
                          rintro e x' ⟨rfl, hb⟩
                          exact ⟨_, rfl, rfl, hb, hR.next hb (Nat.le_refl _)⟩
                        · refine ⟨fun _ _ _ _ _ h => h, fun _ _ _ _ h _ => h, fun v nR x hnR hR hk => ?_⟩
                          have h8 : v 8 = .bool true := hk 8 (by kernel_rfl)
                          have h24 : v 24 = .bool mt := hk 24 (by kernel_rfl)
                          simp only [List.take_succ_cons, List.take_zero, frameF, Act.put, List.setIfInBounds_toArray, List.set_cons_zero, List.set_cons_succ]
                          exact stepF_val (by first | rfl | simp [Region.wanted, yielded, *]) (by go_simp <;> omega) ⟨rfl, Below.refl _ _, hR⟩
                      · intro v nR x1 hnR hR hall
                        have h25 : v 25 = .bool mt := hall 25 (by decide)
                        clear hall hnR
                        simp only [List.drop_succ_cons, List.drop_zero, List.take_succ_cons, List.take_zero, frameF, Act.put, List.setIfInBounds_toArray, List.set_cons_zero, List.set_cons_succ, Nat.zero_add, Nat.reduceAdd, h25]
                        have hbx2 := hbx.next hR (Nat.le_refl _)
                        have HB2 := Lib.hid (HB.out.under hR)
                        clear hR HBB hbx HB
                        cases mt
                        · have HFF2 : Hid (zz = false → z = false ∧ n = jx ∧ File.Calm (vX.map EdV.ed) (vY.map EdV.ed) ky jx (m + 1)) := Lib.hid fun h => by
                            obtain ⟨e1, e2, e3⟩ := HFF.out h
                            refine ⟨e1, e2, fun x hx m' y' h1 h2 hy' => ?_⟩
                            by_cases hmm : m' = m
                            · subst hmm
                              rw [HYD.out] at hy'
                              rw [← e2, HXD.out] at hx
                              rw [← Option.some.inj hx, ← Option.some.inj hy', ← HMM.out]
                            · exact e3 x hx m' y' h1 (by omega) hy'
                          go_wp2_with fail
                          go_roundw
                          case rel => exact ⟨m + 1, n, zz, by omega, by omega, by go_num, rfl, hn1', hn2', HG, HB2, HTT, HFF2, hbx2⟩
                          case measure => simp [intOf]; omega
                        · have HG2 : Hid (File.Grows C D k0 k1 bk (File.at2 t (n + 1) j0 j1).1 (File.at2 t (n + 1) j0 j1).2) := Lib.hid (HAL.out.grow n m x0.ed y.ed HG.out HXD.out hm1 hmj HYD.out HMM.out.symm)
                          have hB2 := HB2.out
                          have c1 := hB2.cell t
                          rw [(HAL.out.place n).1] at c1
                          have cf := hB2.frozen t
                          have cl := hB2.lt
                          have ewn : IntKind.i64.wrap ((n : Int) + 1) = (n : Int) + 1 := IntWalk.i64_in _ (by omega)
                          have HB3 : Hid (Blk (x1.setCell ⟨wR.heap.size, t, none⟩ (iv ((n : Int) + 1))) wR.heap.size 83 #[iv ((File.at2 t (n + 1) j0 j1).1 : Int), iv ((File.at2 t (n + 1) j0 j1).2 : Int)]) := Lib.hid (by rw [← HAL.out.set_ n]; exact hB2.set_ _ _)
                          have hbx3 : Below wR.heap.size wR (x1.setCell ⟨wR.heap.size, t, none⟩ (iv ((n : Int) + 1))) := hbx2.setCell (p := ⟨wR.heap.size, t, none⟩) (Nat.le_refl _) _
                          have HT6 : Hid (true = true → z = true ∨ jx < n + 1) := Lib.hid fun _ => .inr (by omega)
                          have HF6 : Hid (true = false → z = false ∧ n + 1 = jx ∧ File.Calm (vX.map EdV.ed) (vY.map EdV.ed) ky jx (m + 1)) := Lib.hid fun h => by cases h
                          clear hB2 HB2 HG HTT HFF
                          go_wp2_with fail
                          go_roundw
                          case rel => exact ⟨m + 1, n + 1, true, by omega, by omega, by go_num, rfl, by omega, by omega, HG2, HB3, HT6, HF6, hbx3⟩
                          case measure => simp [intOf]; omega
                    · have hni : ¬ (n : Int) < (vX.length : Int) := by omega
                      have HFF2 : Hid (zz = false → z = false ∧ n = jx ∧ File.Calm (vX.map EdV.ed) (vY.map EdV.ed) ky jx (m + 1)) := Lib.hid fun h => by
                        obtain ⟨e1, e2, e3⟩ := HFF.out h
                        refine ⟨e1, e2, fun x hx => ?_⟩
                        rw [← e2, List.getElem?_eq_none (by rw [List.length_map]; omega)] at hx
                        cases hx
                      have g1 := (HBX.out wr hbx).1
                      have g2 := (HBX.out wr hbx).2.2
                      have g3 := (HBB.out wr (Below.refl _ _)).1
                      have g4 := (HBB.out wr (Below.refl _ _)).2
                      clear hy hbY
                      go_upto_region 22 with fail
                      go_quiet (fail)
                      have hqd : Below wR.heap.size wR (wr.drewN nq) := ⟨hbx.os, hbx.tape, hbx.output, hbx.size, hbx.block⟩
                      have HBq : Hid (Blk (wr.drewN nq) wR.heap.size 83 #[iv ((File.at2 t n j0 j1).1 : Int), iv ((File.at2 t n j0 j1).2 : Int)]) := Lib.hid HB.out
                      generalize wr.drewN nq = wq at *
                      go_wp2_with fail
                      go_roundw
                      case rel => exact ⟨m + 1, n, zz, by omega, by omega, by go_num, rfl, hn1', hn2', HG, HBq, HTT, HFF2, hqd⟩
                      case measure => simp [intOf]; omega
                  · have hmi : ¬ (m : Int) < (jy : Int) := by omega
                    have hmm : m = jy := by omega
                    obtain ⟨p0, hp0⟩ : ∃ p0, p0 = (File.at2 t n j0 j1).1 := ⟨_, rfl⟩
                    obtain ⟨p1', hp1⟩ : ∃ p1', p1' = (File.at2 t n j0 j1).2 := ⟨_, rfl⟩
                    have hpl := (HAL.out.place n).2.2
                    have HT5 : Hid (zz = true → i0 + i1 < p0 + p1') := Lib.hid fun h => by
                      rw [hp0, hp1]
                      rcases HTT.out h with h | h
                      · have := HT.out h; omega
                      · cases hz : z
                        · obtain ⟨e1, e2, _, _⟩ := HF3.out hz
                          omega
                        · have := HT.out hz; omega
                    have HF5 : Hid (File.Idle C D k0 k1 i0 i1 (t + 1) p0 p1' zz) := Lib.hid fun h => by
                      obtain ⟨hz, hnj, hcm⟩ := HFF.out h
                      obtain ⟨e1, e2, e3, e4⟩ := HF3.out hz
                      rw [hmm] at hcm
                      obtain ⟨c1, c2⟩ := HAL.out.calm hcm
                      rw [hp0, hp1, hnj, HP0.out]
                      rw [e1, e2] at c1 c2
                      refine ⟨e1, e2, fun _ => ?_, fun h => c2 (by omega)⟩
                      by_cases h0 : t = 0
                      · exact c1 h0
                      · exact e3 (by omega)
                    rw [← hp0, ← hp1] at HG HB
                    clear hmm hpl hp0 hp1 hBr HTT HFF HT HF3
                    go_wp2_with fail
                    go_roundw
                    case rel => exact ⟨t + 1, p0, p1', zz, by omega, by go_num, rfl, HG, HB, HT5, HF5, hbx⟩
                    case measure => simp [intOf]; omega
            · have hti : ¬ (t : Int) < 2 := by omega
              have HZ2 : Hid (z = false → File.Calm C D k1 j0 j1 ∧ File.Calm D C k0 j1 j0) := Lib.hid fun hz => by
                obtain ⟨e1, e2, e3, e4⟩ := HF3.out hz
                rw [e1, e2]
                exact ⟨e3 (by omega), e4 (by omega)⟩
              have hgr := HG.out
              have g1 := hgr.hi0
              have g2 := hgr.hi1
              have hmn : (k0 + bk.e0.length + k1 + bk.e1.length) - cellN wr wR.heap.size 0 - cellN wr wR.heap.size 1 + boolN (.bool z) < (k0 + bk.e0.length + k1 + bk.e1.length) - i0 - i1 + boolN (.bool true) := by
                rw [Blk.cellN HB.out (n := j0) rfl, Blk.cellN HB.out (n := j1) rfl]
                cases z
                · obtain ⟨e1, e2, _, _⟩ := HF3.out rfl
                  rw [e1, e2]
                  show _ + 0 < _ + 1
                  omega
                · have := HT.out rfl
                  show _ + 1 < _ + 1
                  omega
              have HMN := Lib.hid hmn
              clear hgr g1 g2 hmn HF3 HT
              go_wp2_with fail
              go_roundw
              case rel => exact ⟨j0, j1, z, rfl, HG, HB, HZ2, hbx⟩
              case measure =>
                refine Nat.lt_of_lt_of_le HMN.out ?_
                exact Nat.le_of_eq HM2.out.symm
end Fl
end Go.Proofs.YtekkhnjepcebkaaGreatDoor
end
