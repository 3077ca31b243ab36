/- What the proof of the claim's theorem uses, part 7. The conditions stand in each statement. -/
import Derived.WalkKit
import Derived.WalkSpells
import Derived.WalkLawsBesides
import Derived.WalkSmall
import Derived.Lib.Hide
import Derived.Laws.OwnMore
import Derived.Laws.CopyOwn
import Derived.Deep.Draws
import Derived.Laws.AppendOwnNone
import Derived.Test.YtkmcacgeecfjgaaGreatDoorProg
import Derived.Outline
import Derived.BigQuiet
import Derived.Deep.QuietTactic
import Derived.Lib.OthersKept
import Derived.Laws.EntriesVeiled
import Derived.Shelf.Strings.Builder1
import Derived.Shelf.LaysM
import Derived.Shelf.Strconv.Itoa3
import Derived.Orders
import Derived.RegionTactic
import Derived.BigRegion
import Derived.Deep.DeepCutAuto
import Derived.Maps.OwnRows
import Derived.Maps.GroupsBeside
import Derived.Deep.RegionHeld3
import Derived.Lib.SliceRun
import Derived.RangeFuncNested
import Derived.RangeFuncBound
import Derived.RangeFuncCalls
import Derived.RangeFuncLeaves
import Derived.Shelf.Abstract
import Derived.Shelf.RegionOpen
import Derived.OwnWalkIn
import Derived.TacticsInMore
import Derived.LoopNIn
import Derived.LoopIn
import Derived.Sort.QuietIn
import Derived.Deep.Quiet
import Derived.Maps.AppendAt
import Derived.Test.YtkmcacgeecfjgaaGreatDoorCards
import Derived.Test.YtkmcacgeecfjgaaGreatDoorTie
import Derived.ProofKit
import Derived.Deep.DeepHandedRow
import Derived.Lib.LaidTab
import Derived.Stop.LaidErr
import Derived.ChangeSame
import Derived.RowKit3
import Derived.ReadAgain
import Derived.OpenShut
import Derived.ChangeSlices
import Derived.Shelf.Bits.Mul64
import Derived.ArgAppend
import Derived.WalkMore
import Derived.Laws.BytesArg
import Derived.Laws.IdiomStrings
import Derived.Shelf.Spec.SlicesInsert
import Derived.Shelf.Spec.SlicesInsertGrow
import Derived.Deep.RegionLaw
import Derived.Maps.Own
import Derived.Maps.OwnOps
import Derived.Maps.OwnSet
import Derived.ChangeKeysEq
import Derived.Test.YtkmcacgeecfjgaaGreatDoorPr6
set_option linter.unusedVariables false
set_option linter.unusedSimpArgs false
section
namespace Go.Proofs.YtkmcacgeecfjgaaGreatDoor
namespace File
/-- What Join answers: a number, lines, conflicts. -/
def joinAns (base a b : List ByteArray) : Int × List ByteArray × List (Nat × Nat) :=
  if check base ≠ 0 then (check base, [], [])
  else if Fl.errOf a b ≠ 0 then (Fl.errOf a b, [], [])
  else if 24 < (join base a b).1.length then (2, [], []) else (0, (join base a b).1, (join base a b).2)
end File
namespace Fl
open Go.RowKit Go.ChangeShapes
set_option maxRecDepth 100000
theorem tySpans : SlTy Tryz.prog 102 107 2 := slTy_of (z := .agg #[iv 0, iv 0]) (bytes := 16) Tryz.underlying102 (by kernel_rfl) rfl (by decide)
theorem ownNeBlk {α : Type} {E : Enc α} {e t : TypeId} {B : Nat} {w : World} {v : Value} {xs : List α} {g : Nat} {cs : Array Value} (h : Own E e B w v xs) (hb : Blk w g t cs) (ht : t ≠ e) : v.ownBlock ≠ some g := fun hv => by
  rcases h.2 with ⟨rfl, _⟩ | ⟨g', cap, cur, rfl, _, hg, _⟩
  · cases hv
  · have hg' : g' = g := by simpa [Value.ownBlock] using hv
    unfold Blk at hb
    rw [hg', hb] at hg
    injection hg with hg
    injection hg with _ h2 _
    exact ht h2
theorem cut_run {A : Option Addr} {base : List ByteArray} {c i x : Nat} {w : World} (hc : base.length ≤ c) (hi : i ≤ x) (hx : x ≤ base.length) (hs : Sl strE w A base) :
    ∃ (X : Option Addr) (n : Nat) (ys : List ByteArray), ys = File.cut base i x ∧ ys.length ≤ base.length ∧ Sl strE w X ys ∧ ∀ W : World, (Instr.slice 36 (.slice A base.length c) (some (iv (i : Int))) (some (iv (x : Int))) none).run Tryz.prog W = .ok (.slice X ys.length n) W := by
  refine ⟨cutA A c i 1, c - i, File.cut base i x, rfl, File.cut_len _ _ _, Sl.cut hs hc hi hx, ?_⟩
  have h1 := run_cut strE tyStrs A base.length c i x hi (Nat.le_trans hx hc)
  rw [File.cut_length hx hi]
  exact h1
theorem cut_from {A : Option Addr} {base : List ByteArray} {c i : Nat} {w : World} (hc : base.length ≤ c) (hi : i ≤ base.length) (hs : Sl strE w A base) :
    ∃ (X : Option Addr) (n : Nat) (ys : List ByteArray), ys = base.drop i ∧ ys.length ≤ base.length ∧ Sl strE w X ys ∧ ∀ W : World, (Instr.slice 36 (.slice A base.length c) (some (iv (i : Int))) none none).run Tryz.prog W = .ok (.slice X ys.length n) W := by
  have he : File.cut base i base.length = base.drop i := by unfold File.cut; exact List.take_of_length_le (by rw [List.length_drop]; exact Nat.le_refl _)
  refine ⟨cutA A c i 1, c - i, base.drop i, rfl, by rw [List.length_drop]; omega, he ▸ Sl.cut hs hc hi (Nat.le_refl _), ?_⟩
  have h1 := run_cutFrom strE tyStrs A base.length c i hi
  rw [List.length_drop]
  exact h1
theorem Sl.atBl {w : World} {A : Option Addr} {vs : List BlV} {k : Nat} (h : Sl blE w A vs) (hk : k < vs.length) :
    ∃ b off x, A = some ⟨b, off, none⟩ ∧ b < w.heap.size ∧ vs[k]? = some x ∧ w.cell? ⟨b, off + k * 4, none⟩ = some (iv (x.lo : Int)) ∧ w.cell? ⟨b, off + k * 4 + 1, none⟩ = some (iv (x.hi : Int)) ∧ w.cell? ⟨b, off + k * 4 + 2, none⟩ = some (.slice x.A0 x.e0.length x.c0) ∧ w.cell? ⟨b, off + k * 4 + 3, none⟩ = some (.slice x.A1 x.e1.length x.c1) := by
  obtain ⟨b, off, x, hA, hb, hx, hc⟩ := h.at_ hk
  exact ⟨b, off, x, hA, hb, hx, by simpa [blE] using hc 0 (iv (x.lo : Int)) rfl, by simpa [blE] using hc 1 _ rfl, by simpa [blE, BlV.v0] using hc 2 _ rfl, by simpa [blE, BlV.v1] using hc 3 _ rfl⟩
theorem diffGo_small {a b : List ByteArray} : ∀ (l : List (Nat × Nat)) (i j : Nat), ∀ x ∈ File.diffGo a b i j l, x.old.length ≤ a.length ∧ x.new.length ≤ b.length
  | [], _, _, _, h => by cases h
  | p :: r, i, j, x, h => by
    unfold File.diffGo at h
    rcases List.mem_append.1 h with h | h
    · split at h
      · cases h
      · rw [List.mem_singleton.1 h]
        exact ⟨File.cut_len _ _ _, File.cut_len _ _ _⟩
    · exact diffGo_small r _ _ x h
theorem smallC_diff {a b : List ByteArray} (ha : a.length ≤ 24) (hb : b.length ≤ 24) : SmallC (File.diff a b) := by
  have hl := File.diff_len a b
  refine ⟨by omega, fun x hx => ?_, fun x hx => ?_⟩
  · have := (diffGo_small _ _ _ x hx).1; omega
  · have := (diffGo_small _ _ _ x hx).2; omega
set_option maxHeartbeats 4000000 in
theorem joined_spec (Ab : Option Addr) (base : List ByteArray) (cb : Nat) (A : Option Addr) (a : List ByteArray) (c : Nat) (A' : Option Addr) (b : List ByteArray) (c' : Nat) (w : World) (gB : Good base) (ga : Good a) (gb : Good b) (hB0 : File.check base = 0) (hE0 : errOf a b = 0)
    (hcB : base.length ≤ cb) (hca : a.length ≤ c) (hcb : b.length ≤ c') (hsB : Sl strE w Ab base) (hsa : Sl strE w A a) (hsb : Sl strE w A' b) :
    Calls Tryz.prog 50 #[.slice Ab base.length cb, .slice A a.length c, .slice A' b.length c'] w fun e w' => ∃ v0 v1, e = .returned (.tuple #[v0, v1, iv (File.joinAns base a b).1]) ∧ Own strE 9 w.heap.size w' v0 (File.joinAns base a b).2.1 ∧ Own pairE 107 w.heap.size w' v1 (File.joinAns base a b).2.2 ∧ Below w.heap.size w w' := by
  have m0 := gB.many
  have m1 := ga.many
  have m2 := gb.many
  have HC : Hid (Calls Tryz.prog 61 #[.slice Ab base.length cb] w fun e w' => e = .returned (iv 0) ∧ Below w.heap.size w w') := Lib.hid (by
    have := check_spec Ab base cb w (by unfold big; omega) hsB
    rwa [hB0] at this)
  have HBo : ∀ W, Below w.heap.size w W → Hid (Calls Tryz.prog 41 #[.slice A a.length c, .slice A' b.length c'] W fun e w' => e = .returned (iv 0) ∧ Below W.heap.size W w') := fun W hW => Lib.hid (err_zero hE0 (both_spec A a c A' b c' W (by unfold big; omega) (by unfold big; omega) (hsa.below hW) (hsb.below hW)))
  have HANS : Hid (File.joinAns base a b = if 24 < (File.join base a b).1.length then (2, [], []) else (0, (File.join base a b).1, (File.join base a b).2)) := Lib.hid (by unfold File.joinAns; rw [if_neg (by simp [hB0]), if_neg (by simp [hE0])])
  generalize File.joinAns base a b = ans at *
  clear hB0 hE0
  go_enter Tryz.func50, Tryz.ntmps50
  go_wp2_with fail
  refine HC.out.mono ?_
  rintro e w1 ⟨rfl, hb1⟩
  go_wp2_with fail
  refine (HBo w1 hb1).out.mono ?_
  rintro e w2 ⟨rfl, hb2⟩
  have hb02 := hb1.next hb2 (Nat.le_refl _)
  clear HC HBo hb1 hb2
  go_wp2_with fail
  refine (diff_spec Ab base cb A a c w2 gB ga hcB hca (hsB.below hb02) (hsa.below hb02)).mono ?_
  rintro e w3 ⟨v0, rs0, rfl, hv0, hr0, hb3⟩
  have hb03 := hb02.next hb3 (Nat.le_refl _)
  go_wp2_with fail
  refine (diff_spec Ab base cb A' b c' w3 gB gb hcB hcb (hsB.below hb03) (hsb.below hb03)).mono ?_
  rintro e w4 ⟨v1, rs1, rfl, hv1, hr1, hb4⟩
  have hb04 := hb03.next hb4 (Nat.le_refl _)
  obtain ⟨vs0, hq0, hk0, hfc0, hln0⟩ := eds_of hr0
  obtain ⟨vs1, hq1, hk1, hfc1, hln1⟩ := eds_of hr1
  have ho0 := (own_eds hv0 hfc0 hln0).below hb4
  have ho1 := own_eds hv1 hfc1 hln1
  obtain ⟨C0, d0, rfl, hd0, _⟩ := ho0.form
  obtain ⟨C1, d1, rfl, hd1, _⟩ := ho1.form
  have hk0' : ∀ r ∈ vs0, EdOk w4 r := fun r hr => (hk0 r hr).below hb4
  have sm0 : SmallC (vs0.map EdV.ed) := by rw [hq0]; exact smallC_diff m0 m1
  have sm1 : SmallC (vs1.map EdV.ed) := by rw [hq1]; exact smallC_diff m0 m2
  have hat : ∀ vs : List EdV, File.Chain 0 (vs.map EdV.ed) → File.Within base.length (vs.map EdV.ed) → ∀ x ∈ vs, 0 ≤ x.at_ ∧ x.at_ ≤ 24 := fun vs h1 h2 x hx => by
    have hm : x.ed ∈ vs.map EdV.ed := List.mem_map_of_mem hx
    have k1 : ((0 : Nat) : Int) ≤ x.at_ := h1.pos _ hm
    have k2 : x.at_.toNat + x.old.length ≤ base.length := h2 _ hm
    omega
  have q0 := hat vs0 (by rw [hq0]; exact File.chain_diff _ _) (by rw [hq0]; exact File.within_diff _ _)
  have q1 := hat vs1 (by rw [hq1]; exact File.chain_diff _ _) (by rw [hq1]; exact File.within_diff _ _)
  have HOKE : Hid (File.BlocksOk base.length 0 (File.blocks (vs0.map EdV.ed) (vs1.map EdV.ed))) := Lib.hid (by rw [hq0, hq1]; exact File.blocks_ok (File.chain_diff _ _) (File.chain_diff _ _) (File.within_diff _ _) (File.within_diff _ _))
  have HJ : Hid (File.joinGo base 0 (File.blocks (vs0.map EdV.ed) (vs1.map EdV.ed)) = File.join base a b) := Lib.hid (by rw [hq0, hq1]; rfl)
  have HSM : Hid (∀ bl ∈ File.blocks (vs0.map EdV.ed) (vs1.map EdV.ed), SmallC bl.e0 ∧ SmallC bl.e1) := Lib.hid fun bl hbl => by
    obtain ⟨u0, u1⟩ := File.mem_block0 hbl
    exact ⟨⟨Nat.le_trans u0.length_le sm0.many, fun x hx => sm0.old x (u0.subset hx), fun x hx => sm0.new x (u0.subset hx)⟩, ⟨Nat.le_trans u1.length_le sm1.many, fun x hx => sm1.old x (u1.subset hx), fun x hx => sm1.new x (u1.subset hx)⟩⟩
  have HFL := Lib.hid (File.blocks_flat (vs0.map EdV.ed) (vs1.map EdV.ed)).2.2
  have HBL := Lib.hid (blocks_spec C0 d0 C1 d1 vs0 vs1 w4 ho0.sl ho1.sl sm0 sm1 q0 q1)
  have HL50 : Hid ((vs0.map EdV.ed).length + (vs1.map EdV.ed).length ≤ 50) := Lib.hid (by have h1 := sm0.many; have h2 := sm1.many; omega)
  have HK : Hid (∀ x, x ∈ vs0 ∨ x ∈ vs1 → EdOk w4 x) := Lib.hid fun x hx => hx.elim (hk0' x) (hk1 x)
  clear hat q0 q1 sm0 sm1 hk0 hk1 hk0' ho0 ho1 hv0 hv1 hr0 hr1 hfc0 hfc1 hln0 hln1 hq0 hq1 hb3 hb4 hb02 hb03 hd0 hd1
  go_wp2_with fail
  refine HBL.out.mono ?_
  rintro e w5 ⟨v, rs, rfl, hvr, hrb, hin, hb5⟩
  have hb05 := hb04.next hb5 (Nat.le_refl _)
  obtain ⟨C, d, rfl, hd, _⟩ := hvr.form
  have hrl : rs.length ≤ 50 := by
    have h1 := congrArg List.length hrb
    rw [List.length_map] at h1
    have h2 := HFL.out
    have h3 := HL50.out
    omega
  rw [← hrb] at HOKE HJ HSM
  have HIN : Hid (∀ r ∈ rs, Own edE 43 w4.heap.size w5 r.v0 r.e0 ∧ Own edE 43 w4.heap.size w5 r.v1 r.e1 ∧ ∀ x, x ∈ r.e0 ∨ x ∈ r.e1 → EdOk w5 x) := Lib.hid fun r hr => ⟨(hin r hr).1, (hin r hr).2.1, fun x hx => (HK.out x ((hin r hr).2.2 x hx)).below hb5⟩
  have HVR := Lib.hid hvr.sl
  have HB05 := Lib.hid hb05
  have HSB := Lib.hid (hsB.below hb05)
  clear hvr hrb hin hb5 hb04 hb05 HBL HFL HL50 HK hd hsB hsa hsb ga gb gB hca hcb m1 m2
  generalize File.join base a b = J at *
  go_wp2_with fail
  go_loopw [11, 12, 13, 37] (fun vo vc at_ i wr => ∃ (k q : Nat) (out : List ByteArray) (cf : List (Nat × Nat)), k ≤ rs.length ∧ i = iv k ∧ at_ = iv q ∧ q ≤ base.length ∧ Hid (Own strE 9 w5.heap.size wr vo out) ∧ Hid (Own pairE 107 w5.heap.size wr vc cf) ∧ out.length ≤ k * 5000 ∧ cf.length ≤ k ∧
    Hid (File.BlocksOk base.length q ((rs.map BlV.b).drop k)) ∧ Hid (out ++ (File.joinGo base q ((rs.map BlV.b).drop k)).1 = J.1 ∧ cf ++ (File.joinGo base q ((rs.map BlV.b).drop k)).2 = J.2) ∧ Below w5.heap.size w5 wr) (fun _ _ _ i _ => rs.length - (intOf i).toNat)
  case atStart => exact ⟨0, 0, [], [], by omega, rfl, rfl, Nat.zero_le _, Own.nil, Own.nil, by simp, by simp, HOKE.out, by rw [List.drop_zero, HJ.out]; exact ⟨rfl, rfl⟩, Below.refl _ _⟩
  case round =>
    obtain ⟨k, q, out, cf, hk, rfl, rfl, hq, HO, HCF, hol, hcl, HOK, HREL, hbr⟩ := hrel
    by_cases hlt : k < rs.length
    · obtain ⟨bx, ox, x, rfl, hbx, hx, hc0, hc1, hc2, hc3⟩ := Sl.atBl (HVR.out.below hbr) hlt
      have hxm := mem_at hx
      have hdx : (rs.map BlV.b).drop k = x.b :: (rs.map BlV.b).drop (k + 1) := drop_at (by rw [List.getElem?_map, hx]; rfl)
      have hok := HOK.out
      rw [hdx] at hok
      obtain ⟨p1, p2, p3, p4, p5, p6, p7, p8⟩ := hok
      have hrel := HREL.out
      rw [hdx] at hrel
      obtain ⟨sq0, sq1⟩ := HSM.out x.b (List.mem_map_of_mem hxm)
      obtain ⟨i0, i1, i2⟩ := HIN.out x hxm
      obtain ⟨lo, hi, B0, f0, e0, B1, f1, e1⟩ := x
      simp only [BlV.v0, BlV.v1] at hc0 hc1 hc2 hc3 i0 i1 i2
      simp only [BlV.b] at p1 p2 p3 p4 p5 p6 p7 p8 hrel sq0 sq1
      obtain ⟨X, n, ys, hys, hyl, hsy, RC⟩ := cut_run hcB p1 (Nat.le_trans p2 p3) (HSB.out.below hbr)
      have HM : Below wr.heap.size wr (wr.alloc (.cells #[iv (lo : Int), iv (hi : Int), .slice B0 e0.length f0, .slice B1 e1.length f1] 189)) := (Below.refl _ _).alloc (Nat.le_refl _) _
      have hM1 : Blk (wr.alloc (.cells #[iv (lo : Int), iv (hi : Int), .slice B0 e0.length f0, .slice B1 e1.length f1] 189)) wr.heap.size 189 #[iv (lo : Int), iv (hi : Int), .slice B0 e0.length f0, .slice B1 e1.length f1] := Blk.new _ _ _
      have HYS := Lib.hid hys
      have HRL := Lib.hid hrel
      have HP8 := Lib.hid p8
      have hlr : (k : Int) < (rs.length : Int) := by omega
      clear hx hxm hdx HOK HREL hys hrel p8
      go_upto_region 13 with fail
      generalize wr.alloc (.cells #[iv (lo : Int), iv (hi : Int), .slice B0 e0.length f0, .slice B1 e1.length f1] 189) = w6 at *
      have hO6 := HO.out.below HM
      obtain ⟨A6, c6, rfl, hc6, _⟩ := hO6.form
      have hsz := (hbr.trans (HM.mono hbr.size)).size
      have hneO : ∀ b, (Value.slice A6 out.length c6).ownBlock = some b → b < wr.heap.size := fun b hb => (HO.out.lt b hb).2
      have hlob : lo ≤ hi ∧ hi ≤ base.length := ⟨p2, p3⟩
      have m0 := hM1.cell 0
      have m1 := hM1.cell 1
      have m2 := hM1.cell 2
      have m3 := hM1.cell 3
      have ml := hM1.lt
      clear HO
      go_upto_region 15 with (at_builtin; refine wpAppS strE tyStrs rfl _ _ rfl hO6 (hsy.below HM) rfl rfl hsz (by unfold big; omega) ?_; intro v7 w7 hown7 hb7 hk7; have hM7 : Blk w7 wr.heap.size 189 #[iv (lo : Int), iv (hi : Int), .slice B0 e0.length f0, .slice B1 e1.length f1] := (hk7 _ hM1.lt (fun hv => Nat.lt_irrefl _ (hneO _ hv))).trans hM1; have n0 := hM7.cell 0; have n1 := hM7.cell 1; have nl := hM7.lt; clear m0 m1 m2 m3)
      have HCF7 := Lib.hid (HCF.out.below HM |>.keep hb7.size fun b hb => hk7 b ((HCF.out.below HM).lt b hb).2 (Own.two (HCF.out.below HM) hO6 (by decide) hb))
      have hbr7 : Below w5.heap.size w5 w7 := (hbr.trans (HM.mono hbr.size)).trans hb7
      obtain ⟨O7, hO7⟩ : ∃ O7, O7 = out ++ File.cut base q lo := ⟨_, rfl⟩
      have HO7 : Hid (Own strE 9 w5.heap.size w7 v7 O7) := Lib.hid (by rw [hO7, ← HYS.out]; exact hown7)
      have hO7l : O7.length ≤ k * 5000 + 24 := by rw [hO7, ← HYS.out, List.length_append]; omega
      obtain ⟨R, hRR⟩ : ∃ R, R = (rs.map BlV.b).drop (k + 1) := ⟨_, rfl⟩
      rw [← hRR] at HRL HP8
      clear hown7 hO6 hneO hb7 hk7 HM hM1 HCF hsy RC hc6
      obtain ⟨H0, hH0⟩ : ∃ H0, H0 = File.hasGo base hi lo (e0.map EdV.ed) := ⟨_, rfl⟩
      obtain ⟨H1, hH1⟩ : ∃ H1, H1 = File.hasGo base hi lo (e1.map EdV.ed) := ⟨_, rfl⟩
      have HH0 : Hid (∀ x, Below w7.heap.size w7 x → Calls Tryz.prog 119 #[.agg #[iv (lo : Int), iv (hi : Int), .slice B0 e0.length f0, .slice B1 e1.length f1], .slice Ab base.length cb, iv 0] x fun e w' => ∃ v, e = .returned v ∧ Own strE 9 x.heap.size w' v H0 ∧ Below x.heap.size x w') := Lib.hid fun x hx => by
        rw [hH0]
        have hb := hbr7.next hx (Nat.le_refl _)
        exact has0_spec lo hi _ _ _ Ab base cb e0 B0 f0 x (by assumption) hcB p2 p3 sq0 p4 p5 (HSB.out.below hb) ((i0.below hb).sl) (fun r hr => (i2 r (.inl hr)).below hb)
      have HH1 : Hid (∀ x, Below w7.heap.size w7 x → Calls Tryz.prog 119 #[.agg #[iv (lo : Int), iv (hi : Int), .slice B0 e0.length f0, .slice B1 e1.length f1], .slice Ab base.length cb, iv 1] x fun e w' => ∃ v, e = .returned v ∧ Own strE 9 x.heap.size w' v H1 ∧ Below x.heap.size x w') := Lib.hid fun x hx => by
        rw [hH1]
        have hb := hbr7.next hx (Nat.le_refl _)
        exact has1_spec lo hi _ _ _ Ab base cb e1 B1 f1 x (by assumption) hcB p2 p3 sq1 p6 p7 (HSB.out.below hb) ((i1.below hb).sl) (fun r hr => (i2 r (.inr hr)).below hb)
      have hHl : H0.length ≤ 1300 ∧ H1.length ≤ 1300 := by
        have hb24 : base.length ≤ 24 := by assumption
        rw [hH0, hH1]
        have go : ∀ c : List (File.Edit ByteArray), SmallC c → (File.hasGo base hi lo c).length ≤ 1300 := fun c hc => by
          have h1 := File.hasGo_len (base := base) (hi := hi) (M := 24) (c := c) (at_ := lo) hc.new
          have h3 : c.length * (base.length + 24) ≤ 25 * 48 := Nat.mul_le_mul hc.many (by omega)
          omega
        exact ⟨go _ sq0, go _ sq1⟩
      have hmn : ∀ l : List EdV, l.map EdV.ed = [] ↔ l = [] := fun l => by simp
      have HJA : Hid ((e1 = [] ∨ H0 = H1) → (O7 ++ H0) ++ (File.joinGo base hi R).1 = J.1 ∧ cf ++ (File.joinGo base hi R).2 = J.2) := Lib.hid fun hh => by
        have h1 := HRL.out
        unfold File.joinGo at h1
        simp only [← hH0, ← hH1, hmn] at h1
        rw [if_pos hh] at h1
        simpa [hO7, List.append_assoc] using h1
      have HJB : Hid (¬ (e1 = [] ∨ H0 = H1) → e0 = [] → (O7 ++ H1) ++ (File.joinGo base hi R).1 = J.1 ∧ cf ++ (File.joinGo base hi R).2 = J.2) := Lib.hid fun hh hh2 => by
        have h1 := HRL.out
        unfold File.joinGo at h1
        simp only [← hH0, ← hH1, hmn] at h1
        rw [if_neg hh, if_pos hh2] at h1
        simpa [hO7, List.append_assoc] using h1
      have HJC : Hid (¬ (e1 = [] ∨ H0 = H1) → ¬ e0 = [] → (O7 ++ File.cut base lo hi) ++ (File.joinGo base hi R).1 = J.1 ∧ (cf ++ [(lo, hi)]) ++ (File.joinGo base hi R).2 = J.2) := Lib.hid fun hh hh2 => by
        have h1 := HRL.out
        unfold File.joinGo at h1
        simp only [← hH0, ← hH1, hmn] at h1
        rw [if_neg hh, if_neg hh2] at h1
        simpa [hO7, List.append_assoc] using h1
      have HOK9 : Hid (File.BlocksOk base.length hi R) := Lib.hid (HP8.out.weaken (Nat.le_succ _))
      have HRR := Lib.hid hRR
      clear hmn hO7 HRL HP8 HYS hRR
      clear hH0 hH1 i0 i1 i2 sq0 sq1 p4 p5 p6 p7
      refine wp_free_lit (by kernel_rfl) 8 (by kernel_rfl) (by kernel_rfl) (by decide) (fun _ x => Below w7.heap.size w7 x) (fun x x' => Below x.heap.size x x')
        [fun _ u _ => u = .agg #[iv (lo : Int), iv (hi : Int), .slice B0 e0.length f0, .slice B1 e1.length f1],
         fun _ u _ => u = .slice Ab base.length cb,
         fun _ u x => Own strE 9 w7.heap.size x u H0,
         fun _ u _ => u = .agg #[iv (lo : Int), iv (hi : Int), .slice B0 e0.length f0, .slice B1 e1.length f1],
         fun _ u _ => u = .slice Ab base.length cb,
         fun _ u x => Own strE 9 w7.heap.size x u H1,
         fun v u _ => u = .agg #[v 2, v 5],
         fun _ u x => ∃ gb, u = .pointer (some ⟨gb, 0, none⟩) ∧ w7.heap.size ≤ gb ∧ Blk x gb 190 #[.slice none 0 0, .slice none 0 0]]
        (Below.refl _ w7).drew ?_ ?_
      · simp only [List.take_succ_cons, List.take_zero, HopL]
        refine ⟨?_, ?_, ?_, ?_, ?_, ?_, ?_, ?_, trivial⟩
        · refine ⟨fun _ _ _ _ _ h => h, fun _ _ _ _ h _ => h, fun v n x hn hR hk => ?_⟩
          have hMx := hM7.under hR
          have n0 := hMx.cell 0
          have n1 := hMx.cell 1
          have n2 := hMx.cell 2
          have n3 := hMx.cell 3
          have nl := hMx.lt
          simp only [List.take_succ_cons, List.take_zero, frameF, Act.put, List.setIfInBounds_toArray, List.set_cons_zero, List.set_cons_succ]
          exact stepF_val (by rfl) (by go_simp) ⟨rfl, Below.refl _ _, hR⟩
        · refine ⟨fun _ _ _ _ _ h => h, fun _ _ _ _ h _ => h, fun v n x hn hR hk => ?_⟩
          simp only [List.take_succ_cons, List.take_zero, frameF, Act.put, List.setIfInBounds_toArray, List.set_cons_zero, List.set_cons_succ]
          exact stepF_val (by rfl) (by go_simp) ⟨rfl, Below.refl _ _, hR⟩
        · refine ⟨fun _ _ _ _ _ h => h, fun _ _ _ _ h hS => h.below hS, fun v n x hn hR hk => ?_⟩
          have h0 : v 0 = .agg #[iv (lo : Int), iv (hi : Int), .slice B0 e0.length f0, .slice B1 e1.length f1] := hk 0 (by kernel_rfl)
          have h1 : v 1 = .slice Ab base.length cb := hk 1 (by kernel_rfl)
          simp only [List.take_succ_cons, List.take_zero, frameF, Act.put, List.setIfInBounds_toArray, List.set_cons_zero, List.set_cons_succ]
          refine stepF_call (by rfl) (by go_simp) (HH0.out x hR) ?_
          rintro e x' ⟨r, rfl, ho, hb⟩
          exact ⟨_, rfl, ho.base hR.size, hb, hR.next hb (Nat.le_refl _)⟩
        · refine ⟨fun _ _ _ _ _ h => h, fun _ _ _ _ h _ => h, fun v n x hn hR hk => ?_⟩
          have hMx := hM7.under hR
          have n0 := hMx.cell 0
          have n1 := hMx.cell 1
          have n2 := hMx.cell 2
          have n3 := hMx.cell 3
          have nl := hMx.lt
          simp only [List.take_succ_cons, List.take_zero, frameF, Act.put, List.setIfInBounds_toArray, List.set_cons_zero, List.set_cons_succ]
          exact stepF_val (by rfl) (by go_simp) ⟨rfl, Below.refl _ _, hR⟩
        · refine ⟨fun _ _ _ _ _ h => h, fun _ _ _ _ h _ => h, fun v n x hn hR hk => ?_⟩
          simp only [List.take_succ_cons, List.take_zero, frameF, Act.put, List.setIfInBounds_toArray, List.set_cons_zero, List.set_cons_succ]
          exact stepF_val (by rfl) (by go_simp) ⟨rfl, Below.refl _ _, hR⟩
        · refine ⟨fun _ _ _ _ _ h => h, fun _ _ _ _ h hS => h.below hS, fun v n x hn hR hk => ?_⟩
          have h0 : v 3 = .agg #[iv (lo : Int), iv (hi : Int), .slice B0 e0.length f0, .slice B1 e1.length f1] := hk 3 (by kernel_rfl)
          have h1 : v 4 = .slice Ab base.length cb := hk 4 (by kernel_rfl)
          simp only [List.take_succ_cons, List.take_zero, frameF, Act.put, List.setIfInBounds_toArray, List.set_cons_zero, List.set_cons_succ]
          refine stepF_call (by rfl) (by go_simp) (HH1.out x hR) ?_
          rintro e x' ⟨r, rfl, ho, hb⟩
          exact ⟨_, rfl, ho.base hR.size, hb, hR.next hb (Nat.le_refl _)⟩
        · refine ⟨fun v v' u x h hs => ?_, fun _ _ _ _ h _ => h, fun v n x hn hR hk => ?_⟩
          · show u = .agg #[v' 2, v' 5]
            rw [← h 2 (by kernel_rfl), ← h 5 (by kernel_rfl)]
            exact hs
          · have h2 : Own strE 9 w7.heap.size x (v 2) H0 := hk 2 (by kernel_rfl)
            have h5 : Own strE 9 w7.heap.size x (v 5) H1 := hk 5 (by kernel_rfl)
            obtain ⟨X2, k2, e2, _, _⟩ := h2.form
            obtain ⟨X5, k5, e5, _, _⟩ := h5.form
            simp only [List.take_succ_cons, List.take_zero, frameF, Act.put, List.setIfInBounds_toArray, List.set_cons_zero, List.set_cons_succ]
            exact stepF_val (u := .agg #[.slice X2 H0.length k2, .slice X5 H1.length k5]) (by rfl) (by go_simp) ⟨by show _ = Value.agg #[v 2, v 5]; rw [e2, e5], Below.refl _ _, hR⟩
        · refine ⟨fun _ _ _ _ _ h => h, fun v u x x' h hS => ?_, fun v n x hn hR hk => ?_⟩
          · obtain ⟨gb, h1, h2, h3⟩ := h
            exact ⟨gb, h1, h2, h3.under hS⟩
          · simp only [List.take_succ_cons, List.take_zero, frameF, Act.put, List.setIfInBounds_toArray, List.set_cons_zero, List.set_cons_succ]
            exact stepF_new (u := .pointer (some ⟨x.heap.size, 0, none⟩)) (w' := x.alloc (.cells #[.slice none 0 0, .slice none 0 0] 190)) (by rfl) (by go_simp) ⟨⟨x.heap.size, rfl, hR.size, Blk.new _ _ _⟩, (Below.refl _ _).alloc (Nat.le_refl _) _, hR.alloc hR.size _⟩
      · intro v n x hn hR hall
        have h2 : Own strE 9 w7.heap.size x (v 2) H0 := hall 2 (by decide)
        have h5 : Own strE 9 w7.heap.size x (v 5) H1 := hall 5 (by decide)
        have h6 : v 6 = .agg #[v 2, v 5] := hall 6 (by decide)
        have h7 : ∃ gb, v 7 = .pointer (some ⟨gb, 0, none⟩) ∧ w7.heap.size ≤ gb ∧ Blk x gb 190 #[.slice none 0 0, .slice none 0 0] := hall 7 (by decide)
        obtain ⟨gb, h7, hgb, hBx⟩ := h7
        obtain ⟨X2, k2, e2, hk2, _⟩ := h2.form
        obtain ⟨X5, k5, e5, hk5, _⟩ := h5.form
        rw [e2, e5] at h6
        rw [e2] at h2
        rw [e5] at h5
        clear hall
        simp only [List.drop_succ_cons, List.drop_zero, List.take_succ_cons, List.take_zero, frameF, Act.put, List.setIfInBounds_toArray, List.set_cons_zero, List.set_cons_succ, h6, h7]
        clear h6 h7 e2 e5
        have z0 := hBx.cell 0
        have z1 := hBx.cell 1
        have zl := hBx.lt
        have y0 := hBx.frozen 0
        have y1 := hBx.frozen 1
        go_upto_region 18 with fail
        have hbS : Below w7.heap.size w7 ((x.setCell ⟨gb, 0, none⟩ (.slice X2 H0.length k2)).setCell ⟨gb, 1, none⟩ (.slice X5 H1.length k5)) := (hR.setCell (p := ⟨gb, 0, none⟩) hgb _).setCell (p := ⟨gb, 1, none⟩) hgb _
        have hBS : Blk ((x.setCell ⟨gb, 0, none⟩ (.slice X2 H0.length k2)).setCell ⟨gb, 1, none⟩ (.slice X5 H1.length k5)) gb 190 #[.slice X2 H0.length k2, .slice X5 H1.length k5] := (hBx.set_ 0 _).set_ 1 _
        have ho2 := Sl.below (Own.sl (h2.keep (w' := (x.setCell ⟨gb, 0, none⟩ (.slice X2 H0.length k2)).setCell ⟨gb, 1, none⟩ (.slice X5 H1.length k5)) (by simp [World.setCell]) fun b hb => by rw [Below.heap_setCell _ _ _ b (fun e => ownNeBlk h2 hBx (by decide) (by rw [hb, e])), Below.heap_setCell _ _ _ b (fun e => ownNeBlk h2 hBx (by decide) (by rw [hb, e]))])) (Below.refl _ _)
        have ho5 := Sl.below (Own.sl (h5.keep (w' := (x.setCell ⟨gb, 0, none⟩ (.slice X2 H0.length k2)).setCell ⟨gb, 1, none⟩ (.slice X5 H1.length k5)) (by simp [World.setCell]) fun b hb => by rw [Below.heap_setCell _ _ _ b (fun e => ownNeBlk h5 hBx (by decide) (by rw [hb, e])), Below.heap_setCell _ _ _ b (fun e => ownNeBlk h5 hBx (by decide) (by rw [hb, e]))])) (Below.refl _ _)
        generalize (x.setCell ⟨gb, 0, none⟩ (.slice X2 H0.length k2)).setCell ⟨gb, 1, none⟩ (.slice X5 H1.length k5) = wS at *
        have hMS := hM7.under hbS
        have hOS := HO7.out.below hbS
        have hCS := HCF7.out.below hbS
        have hbrS := hbr7.next hbS (Nat.le_refl _)
        clear h2 h5 hBx hR z0 z1 zl y0 y1 n0 n1 nl HO7 HCF7 hbS HH0 HH1 hM7 hgb
        rcases Nat.eq_zero_or_pos e1.length with hz1 | hz1
        · have he1 : e1 = [] := List.eq_nil_of_length_eq_zero hz1
          have HFIN := Lib.hid (HJA.out (.inl he1))
          have s0 := hMS.cell 0
          have s1 := hMS.cell 1
          have s2 := hMS.cell 2
          have s3 := hMS.cell 3
          have sl := hMS.lt
          have t0 := hBS.cell 0
          have t1 := hBS.cell 1
          have tl := hBS.lt
          rw [hz1] at s3
          clear hz1 he1 HJA HJB HJC
          have hsz := hbrS.size
          obtain ⟨A8, c8, rfl, hc8, _⟩ := hOS.form
          go_wp2_with (at_builtin; refine wpAppS strE tyStrs rfl _ _ rfl hOS ho2 rfl rfl hsz (by unfold big; omega) ?_; intro v8 w8 hown8 hb8 hk8)
          go_roundw
          case rel => exact ⟨k + 1, hi, O7 ++ H0, cf, by omega, by go_num, rfl, p3, hown8, hCS.keep hb8.size fun b hb => hk8 b (hCS.lt b hb).2 (Own.two hCS hOS (by decide) hb), by rw [List.length_append]; omega, by omega, by rw [← HRR.out]; exact HOK9.out, by rw [← HRR.out]; exact HFIN.out, hbrS.trans hb8⟩
          case measure => simp [intOf]; omega
        · have he1 : ¬ e1 = [] := fun h => by rw [h] at hz1; exact absurd hz1 (by simp)
          have s0 := hMS.cell 0
          have s1 := hMS.cell 1
          have s2 := hMS.cell 2
          have s3 := hMS.cell 3
          have sl := hMS.lt
          have t0 := hBS.cell 0
          have t1 := hBS.cell 1
          have tl := hBS.lt
          obtain ⟨n1, hn1⟩ : ∃ n1, e1.length = n1 + 1 := ⟨e1.length - 1, by omega⟩
          rw [hn1] at s3
          have HEQ := Lib.hid (equalS X2 H0 k2 X5 H1 k5 wS (by unfold big; omega) ho2 (by unfold big; omega) ho5)
          clear hz1
          have hn1i : (((n1 + 1 : Nat) : Int) == 0) = false := by simp; omega
          by_cases hH : H0 = H1
          · have HFIN := Lib.hid (HJA.out (.inr hH))
            rw [decide_eq_true hH] at HEQ
            clear hH HJA HJB HJC
            go_upto_region 19 with (go_at_call 45; refine HEQ.out.mono ?_; rintro e wE ⟨rfl, hbE⟩)
            have hbrE := hbrS.next hbE (Nat.le_refl _)
            have hOE := hOS.below hbE
            have hCE := hCS.below hbE
            have hoE := ho2.below hbE
            have hME := hMS.under hbE
            have hBE := hBS.under hbE
            clear s0 s1 s2 s3 sl t0 t1 tl
            have s0 := hME.cell 0
            have s1 := hME.cell 1
            have s2 := hME.cell 2
            have s3 := hME.cell 3
            have sl := hME.lt
            have t0 := hBE.cell 0
            have t1 := hBE.cell 1
            have tl := hBE.lt
            have hsz := hbrE.size
            obtain ⟨A8, c8, rfl, hc8, _⟩ := hOE.form
            go_wp2_with (at_builtin; refine wpAppS strE tyStrs rfl _ _ rfl hOE hoE rfl rfl hsz (by unfold big; omega) ?_; intro v8 w8 hown8 hb8 hk8)
            go_roundw
            case rel => exact ⟨k + 1, hi, O7 ++ H0, cf, by omega, by go_num, rfl, p3, hown8, hCE.keep hb8.size fun b hb => hk8 b (hCE.lt b hb).2 (Own.two hCE hOE (by decide) hb), by rw [List.length_append]; omega, by omega, by rw [← HRR.out]; exact HOK9.out, by rw [← HRR.out]; exact HFIN.out, hbrE.trans hb8⟩
            case measure => simp [intOf]; omega
          · have hno : ¬ (e1 = [] ∨ H0 = H1) := fun h => h.elim he1 hH
            rw [decide_eq_false hH] at HEQ
            have HJB2 := Lib.hid (HJB.out hno)
            have HJC2 := Lib.hid (HJC.out hno)
            clear hH HJA HJB HJC hno
            go_upto_region 20 with (go_at_call 45; refine HEQ.out.mono ?_; rintro e wE ⟨rfl, hbE⟩)
            have hbrE := hbrS.next hbE (Nat.le_refl _)
            have hOE := hOS.below hbE
            have hCE := hCS.below hbE
            have hoE := ho5.below hbE
            have hME := hMS.under hbE
            have hBE := hBS.under hbE
            clear s0 s1 s2 s3 sl t0 t1 tl
            have s0 := hME.cell 0
            have s1 := hME.cell 1
            have s2 := hME.cell 2
            have s3 := hME.cell 3
            have sl := hME.lt
            have t0 := hBE.cell 0
            have t1 := hBE.cell 1
            have tl := hBE.lt
            rcases Nat.eq_zero_or_pos e0.length with hz0 | hz0
            · have he0 : e0 = [] := List.eq_nil_of_length_eq_zero hz0
              have HFIN := Lib.hid (HJB2.out he0)
              rw [hz0] at s2
              clear hz0 he0 HJB2 HJC2
              have hsz := hbrE.size
              obtain ⟨A8, c8, rfl, hc8, _⟩ := hOE.form
              go_wp2_with (at_builtin; refine wpAppS strE tyStrs rfl _ _ rfl hOE hoE rfl rfl hsz (by unfold big; omega) ?_; intro v8 w8 hown8 hb8 hk8)
              go_roundw
              case rel => exact ⟨k + 1, hi, O7 ++ H1, cf, by omega, by go_num, rfl, p3, hown8, hCE.keep hb8.size fun b hb => hk8 b (hCE.lt b hb).2 (Own.two hCE hOE (by decide) hb), by rw [List.length_append]; omega, by omega, by rw [← HRR.out]; exact HOK9.out, by rw [← HRR.out]; exact HFIN.out, hbrE.trans hb8⟩
              case measure => simp [intOf]; omega
            · have he0 : ¬ e0 = [] := fun h => by rw [h] at hz0; exact absurd hz0 (by simp)
              obtain ⟨n0, hn0⟩ : ∃ n0, e0.length = n0 + 1 := ⟨e0.length - 1, by omega⟩
              have HFIN := Lib.hid (HJC2.out he0)
              rw [hn0] at s2
              have hn0i : (((n0 + 1 : Nat) : Int) == 0) = false := by simp; omega
              clear hz0 he0 HJB2 HJC2
              obtain ⟨X4, n4, y4, hy4, hyl4, hsy4, RC4⟩ := cut_run hcB p2 p3 (HSB.out.below hbrE)
              rw [← hy4] at HFIN
              clear hy4
              have hsz := hbrE.size
              obtain ⟨A8, c8, rfl, hc8, _⟩ := hOE.form
              go_upto_region 17 with (at_builtin; refine wpAppS strE tyStrs rfl _ _ rfl hOE hsy4 rfl rfl hsz (by unfold big; omega) ?_; intro v8 w8 hown8 hb8 hk8)
              have hC8 := hCE.keep hb8.size fun b hb => hk8 b (hCE.lt b hb).2 (Own.two hCE hOE (by decide) hb)
              have hM8 : Blk w8 wr.heap.size 189 #[iv (lo : Int), iv (hi : Int), .slice B0 e0.length f0, .slice B1 e1.length f1] := (hk8 _ hME.lt (ownNeBlk hOE hME (by decide))).trans hME
              have hbr8 := hbrE.trans hb8
              have hsz8 := hbr8.size
              have HO8 := Lib.hid hown8
              clear s0 s1 s2 s3 sl t0 t1 tl hown8 hb8 hk8 hCE hOE hME hBE hoE hn0 hn1 hn0i hn1i
              have s0 := hM8.cell 0
              have s1 := hM8.cell 1
              have sl := hM8.lt
              have hcl9 : cf.length + 1 ≤ big := by unfold big; omega
              go_wp2_with (at_builtin; refine wpApp1 pairE tySpans rfl _ _ rfl hC8 (lo, hi) rfl rfl rfl hsz8 hcl9 ?_; intro v9 w9 hown9 hb9 hk9)
              go_roundw
              case rel => exact ⟨k + 1, hi, O7 ++ y4, cf ++ [(lo, hi)], by omega, by go_num, rfl, p3, HO8.out.keep hb9.size fun b hb => hk9 b (HO8.out.lt b hb).2 (Own.two HO8.out hC8 (by decide) hb), hown9, by rw [List.length_append]; omega, by rw [List.length_append]; simp; omega, by rw [← HRR.out]; exact HOK9.out, by rw [← HRR.out]; exact HFIN.out, hbr8.trans hb9⟩
              case measure => simp [intOf]; omega
    · obtain rfl : k = rs.length := by omega
      have hd := HREL.out
      rw [List.drop_of_length_le (by rw [List.length_map]; exact Nat.le_refl _)] at hd
      simp only [File.joinGo, List.append_nil] at hd
      obtain ⟨X, n, ys, hys, hyl, hsy, RC⟩ := cut_from hcB hq (HSB.out.below hbr)
      have HYS := Lib.hid hys
      have HD := Lib.hid hd
      have HO2 := HO.out
      obtain ⟨A6, c6, rfl, hc6, _⟩ := HO2.form
      have hsz := hbr.size
      clear hys hd HOK HREL
      have htot : out ++ ys = J.1 := by rw [HYS.out]; exact HD.out.1
      have hcf : cf = J.2 := HD.out.2
      have hjl : J.1.length ≤ 1000000 := by rw [← htot, List.length_append]; omega
      subst hcf
      have HTOT := Lib.hid htot
      clear htot HD
      by_cases h24 : 24 < J.1.length
      · have h24i : (24 : Int) < (J.1.length : Int) := by omega
        have HA : Hid (ans = (2, [], [])) := Lib.hid (by rw [HANS.out, if_pos h24])
        clear h24
        go_wp2_with (at_builtin; refine wpAppS strE tyStrs rfl _ _ rfl HO2 hsy rfl rfl hsz (by unfold big; omega) ?_; intro v7 w7 hown7 hb7 hk7; rw [HTOT.out] at hown7; obtain ⟨A7, c7, rfl, hc7, _⟩ := hown7.form)
        go_ret3
        exact ⟨_, _, by rw [HA.out]; rfl, by rw [HA.out]; exact Own.nil, by rw [HA.out]; exact Own.nil, HB05.out.next (hbr.trans hb7) (Nat.le_refl _)⟩
      · have h24i : ¬ (24 : Int) < (J.1.length : Int) := by omega
        have HA : Hid (ans = (0, J.1, J.2)) := Lib.hid (by rw [HANS.out, if_neg h24])
        clear h24
        go_wp2_with (at_builtin; refine wpAppS strE tyStrs rfl _ _ rfl HO2 hsy rfl rfl hsz (by unfold big; omega) ?_; intro v7 w7 hown7 hb7 hk7; rw [HTOT.out] at hown7; obtain ⟨A7, c7, rfl, hc7, _⟩ := hown7.form)
        go_ret3
        exact ⟨_, _, by rw [HA.out]; rfl, by rw [HA.out]; exact hown7.base HB05.out.size, by rw [HA.out]; exact Own.base (HCF.out.keep hb7.size fun b hb => hk7 b (HCF.out.lt b hb).2 (Own.two HCF.out HO2 (by decide) hb)) HB05.out.size, HB05.out.next (hbr.trans hb7) (Nat.le_refl _)⟩
end Fl
end Go.Proofs.YtkmcacgeecfjgaaGreatDoor
end
section
namespace Go.Proofs.YtkmcacgeecfjgaaGreatDoor
namespace Fl
open Go.RowKit Go.ChangeShapes
set_option maxRecDepth 100000
set_option maxHeartbeats 1000000 in
theorem Join_spec (Ab : Option Addr) (base : List ByteArray) (cb : Nat) (A : Option Addr) (a : List ByteArray) (c : Nat) (A' : Option Addr) (b : List ByteArray) (c' : Nat) (w : World) (hmB : base.length ≤ big) (ha : a.length ≤ big) (hb : b.length ≤ big)
    (hcB : base.length ≤ cb) (hca : a.length ≤ c) (hcb : b.length ≤ c') (hsB : Sl strE w Ab base) (hsa : Sl strE w A a) (hsb : Sl strE w A' b) :
    Calls Tryz.prog 50 #[.slice Ab base.length cb, .slice A a.length c, .slice A' b.length c'] w fun e w' => ∃ v0 v1, e = .returned (.tuple #[v0, v1, iv (File.joinAns base a b).1]) ∧ Own strE 9 w.heap.size w' v0 (File.joinAns base a b).2.1 ∧ Own pairE 107 w.heap.size w' v1 (File.joinAns base a b).2.2 ∧ Below w.heap.size w w' := by
  by_cases hB0 : File.check base = 0
  · by_cases hE0 : errOf a b = 0
    · have h1 := err_good hE0
      exact joined_spec Ab base cb A a c A' b c' w (good_of_check hB0) (good_of_check h1.1) (good_of_check h1.2) hB0 hE0 hcB hca hcb hsB hsa hsb
    · have HC : Hid (Calls Tryz.prog 61 #[.slice Ab base.length cb] w fun e w' => e = .returned (iv 0) ∧ Below w.heap.size w w') := Lib.hid (by
        have := check_spec Ab base cb w hmB hsB
        rwa [hB0] at this)
      have HBo : ∀ W, Below w.heap.size w W → Hid (Calls Tryz.prog 41 #[.slice A a.length c, .slice A' b.length c'] W fun e w' => e = .returned (iv (errOf a b)) ∧ Below W.heap.size W w') := fun W hW => Lib.hid (both_spec A a c A' b c' W ha hb (hsa.below hW) (hsb.below hW))
      have HANS : Hid (File.joinAns base a b = (errOf a b, [], [])) := Lib.hid (by unfold File.joinAns; rw [if_neg (by simp [hB0]), if_pos hE0])
      generalize File.joinAns base a b = ans at *
      obtain ⟨r, hr⟩ : ∃ r, r = errOf a b := ⟨_, rfl⟩
      rw [← hr] at HANS HBo hE0
      have hne : (r != 0) = true := by simpa using hE0
      clear hB0 hE0 hr
      go_enter Tryz.func50, Tryz.ntmps50
      go_wp2_with fail
      refine HC.out.mono ?_
      rintro e w1 ⟨rfl, hb1⟩
      go_wp2_with fail
      refine (HBo w1 hb1).out.mono ?_
      rintro e w2 ⟨rfl, hb2⟩
      go_wp2_with fail
      go_ret3
      exact ⟨_, _, by rw [HANS.out]; rfl, by rw [HANS.out]; exact Own.nil, by rw [HANS.out]; exact Own.nil, hb1.next hb2 (Nat.le_refl _)⟩
  · have HC := Lib.hid (check_spec Ab base cb w hmB hsB)
    have HANS : Hid (File.joinAns base a b = (File.check base, [], [])) := Lib.hid (by unfold File.joinAns; rw [if_pos (by simpa using hB0)])
    generalize File.joinAns base a b = ans at *
    obtain ⟨r, hr⟩ : ∃ r, r = File.check base := ⟨_, rfl⟩
    rw [← hr] at HANS HC hB0
    have hne : (r != 0) = true := by simpa using hB0
    clear hB0 hr
    go_enter Tryz.func50, Tryz.ntmps50
    go_wp2_with fail
    refine HC.out.mono ?_
    rintro e w1 ⟨rfl, hb1⟩
    go_wp2_with fail
    go_ret3
    exact ⟨_, _, by rw [HANS.out]; rfl, by rw [HANS.out]; exact Own.nil, by rw [HANS.out]; exact Own.nil, hb1⟩
end Fl
end Go.Proofs.YtkmcacgeecfjgaaGreatDoor
end
section
namespace Go.Proofs.YtkmcacgeecfjgaaGreatDoor
namespace Fl
open Go.RowKit Go.ChangeShapes
set_option maxRecDepth 100000
theorem len2 {α : Type} (l : List α) (h : l.length = 2) : ∃ a b, l = [a, b] := by
  match l, h with
  | [a, b], _ => exact ⟨a, b, rfl⟩
theorem fieldsSpan : ((Tryz.prog).fieldsOf 107).toList.map (fun f => (f.name, f.type, f.offset)) = [("Lo", 3, 0), ("Hi", 3, 1)] := by kernel_rfl
theorem eqSpan (a b c d : Int) (w : World) : (Op.equalIn 10000 107 (.agg #[iv a, iv b]) (.agg #[iv c, iv d])).run Tryz.prog w = .ok (a == c && b == d) w := by
  have hh := run_equalIn_agg (P := Tryz.prog) w 9999 107 #[iv a, iv b] #[iv c, iv d] (by kernel_rfl) (by kernel_rfl)
  rw [hh]
  have h3 : ∀ (x y : Int) (d : Nat), (Op.equalIn (d + 1) 3 (iv x) (iv y)).run Tryz.prog w = .ok (x == y) w := fun x y d => run_equalIn_int w d _ _ _ _ _ Tryz.underlying3
  have hf := fieldsSpan
  have hlen : ((Tryz.prog).fieldsOf 107).toList.length = 2 := by have := congrArg List.length hf; simpa using this
  obtain ⟨f0, f1, hl⟩ := len2 _ hlen
  rw [hl] at hf ⊢
  simp only [List.map_cons, List.map_nil, List.cons.injEq, Prod.mk.injEq, and_true] at hf
  obtain ⟨⟨n0, t0, o0⟩, ⟨n1, t1, o1⟩⟩ := hf
  have hp0 : ∀ a b : Int, (part 3 #[iv a, iv b] 0).run Tryz.prog w = .ok (iv a) w := fun _ _ => by kernel_rfl
  have hp1 : ∀ a b : Int, (part 3 #[iv a, iv b] 1).run Tryz.prog w = .ok (iv b) w := fun _ _ => by kernel_rfl
  simp only [Op.eqFields, n0, n1, t0, t1, o0, o1]
  by_cases h1 : a = c <;> by_cases h2 : b = d <;>
    simp [hp0, hp1, h3, Result.andThen, h1, h2, Sem.run_bind]
theorem eqSpanD (p q : Nat × Nat) (w : World) : (Op.equalIn 10000 107 (.agg #[iv (p.1 : Int), iv (p.2 : Int)]) (.agg #[iv (q.1 : Int), iv (q.2 : Int)])).run Tryz.prog w = .ok (decide (p = q)) w := by
  obtain ⟨a, b⟩ := p
  obtain ⟨c, d⟩ := q
  rw [eqSpan]
  congr 1
  by_cases h1 : a = c <;> by_cases h2 : b = d <;> simp [h1, h2] <;> omega
theorem Sl.atPr {w : World} {A : Option Addr} {vs : List (Nat × Nat)} {k : Nat} (h : Sl pairE w A vs) (hk : k < vs.length) :
    ∃ b off x, A = some ⟨b, off, none⟩ ∧ b < w.heap.size ∧ vs[k]? = some x ∧ w.cell? ⟨b, off + k * 2, none⟩ = some (iv (x.1 : Int)) ∧ w.cell? ⟨b, off + k * 2 + 1, none⟩ = some (iv (x.2 : Int)) := by
  obtain ⟨b, off, x, hA, hb, hx, hc⟩ := h.at_ hk
  exact ⟨b, off, x, hA, hb, hx, by simpa [pairE] using hc 0 (iv (x.1 : Int)) rfl, by simpa [pairE] using hc 1 _ rfl⟩
set_option maxHeartbeats 1000000 in
theorem equalSp (A : Option Addr) (xs : List (Nat × Nat)) (c : Nat) (A' : Option Addr) (ys : List (Nat × Nat)) (c' : Nat) (w : World) (hm : xs.length ≤ big) (hs : Sl pairE w A xs) (hm' : ys.length ≤ big) (hs' : Sl pairE w A' ys) :
    Calls Tryz.prog 120 #[.slice A xs.length c, .slice A' ys.length c'] w fun e w' => e = .returned (.bool (decide (xs = ys))) ∧ Below w.heap.size w w' := by
  unfold big at hm hm'
  by_cases hl : xs.length = ys.length
  · have hl' : ((xs.length : Int) != (ys.length : Int)) = false := by simp [hl]
    have HL := Lib.hid hl
    clear hl
    go_enter Tryz.func120, Tryz.ntmps120
    go_wp2
    go_loopw [5, 13] (fun _ i wr => ∃ (k : Nat), k ≤ xs.length ∧ i = iv k ∧ Hid (xs.take k = ys.take k) ∧ Below w.heap.size w wr) (fun _ i _ => xs.length - (intOf i).toNat)
    case atStart => exact ⟨0, by omega, rfl, rfl, Below.refl _ _⟩
    case round =>
      obtain ⟨k, hk, rfl, hf, hbw⟩ := hrel
      by_cases hlt : k < xs.length
      · obtain ⟨b, off, p, rfl, hb, hp, hp0, hp1⟩ := Sl.atPr (hs.below hbw) hlt
        obtain ⟨b', off', q, rfl, hb', hq, hq0, hq1⟩ := Sl.atPr (hs'.below hbw) (by have := HL.out; omega : k < ys.length)
        have hly : (k : Int) < (ys.length : Int) := by have := HL.out; omega
        have hlx : (k : Int) < (xs.length : Int) := by omega
        have heq : ∀ w, (Op.equalIn 10000 107 (.agg #[iv (p.1 : Int), iv (p.2 : Int)]) (.agg #[iv (q.1 : Int), iv (q.2 : Int)])).run Tryz.prog w = .ok (decide (p = q)) w := eqSpanD p q
        have HP := Lib.hid hp
        have HQ := Lib.hid hq
        clear hp hq hs hs'
        by_cases hpq : p = q
        · rw [decide_eq_true hpq] at heq
          have HPQ := Lib.hid hpq
          clear hpq
          go_wp2
          go_region
          go_wp2
          go_roundw
          case rel => exact ⟨k + 1, by omega, by go_num, by
            show xs.take (k + 1) = ys.take (k + 1)
            rw [List.take_add_one, List.take_add_one, HP.out, HQ.out, HPQ.out, hf.out], (by first | exact hbw | exact hbw.drew)⟩
          case measure => simp [intOf]; omega
        · rw [decide_eq_false hpq] at heq
          have HPQ := Lib.hid hpq
          clear hpq
          go_wp2
          go_region
          go_wp2
          go_ret
          exact ⟨ret_eq (by rw [decide_eq_false (take_ne' HP.out HQ.out HPQ.out)]; rfl), (by first | exact hbw | exact hbw.drew)⟩
      · have he : xs = ys := by
          have := hf.out
          rwa [List.take_of_length_le (by omega), List.take_of_length_le (by have := HL.out; omega)] at this
        have HE := Lib.hid he
        clear he
        go_wp2
        go_ret
        exact ⟨ret_eq (by rw [decide_eq_true HE.out]; rfl), (by first | exact hbw | exact hbw.drew)⟩
  · have hl' : ((xs.length : Int) != (ys.length : Int)) = true := by simp; omega
    go_enter Tryz.func120, Tryz.ntmps120
    go_wp2
    go_ret
    exact ⟨ret_eq (by rw [decide_eq_false (fun h => hl (by rw [h]))]; rfl), Below.refl _ _⟩
theorem eqSp (A : Option Addr) (xs : List (Nat × Nat)) (c : Nat) (A' : Option Addr) (ys : List (Nat × Nat)) (c' : Nat) (w : World) (hm : xs.length ≤ big) (hs : Sl pairE w A xs) (hm' : ys.length ≤ big) (hs' : Sl pairE w A' ys) :
    Calls Tryz.prog 51 #[.slice A xs.length c, .slice A' ys.length c'] w fun e w' => e = .returned (.bool (decide (xs = ys))) ∧ Below w.heap.size w w' := by
  go_enter Tryz.func51, Tryz.ntmps51
  go_wp2_with (go_at_call 120; refine (equalSp A xs c A' ys c' w hm hs hm' hs').mono ?_; rintro e w1 ⟨rfl, hb1⟩)
  go_ret
  exact ⟨rfl, hb1⟩
theorem same1_spec (x y : EdV) (w : World) (hx : EdOk w x) (hy : EdOk w y) (h1 : x.old.length ≤ big) (h2 : x.new.length ≤ big) (h3 : y.old.length ≤ big) (h4 : y.new.length ≤ big) :
    Calls Tryz.prog 44 #[x.v, y.v] w fun e w' => e = .returned (.bool (decide (x.ed = y.ed))) ∧ Below w.heap.size w w' := by
  have hbx : Below w.heap.size w ((w.alloc (.cells #[iv x.at_, .slice x.A x.old.length x.c, .slice x.A' x.new.length x.c'] 43)).alloc (.cells #[iv y.at_, .slice y.A y.old.length y.c, .slice y.A' y.new.length y.c'] 43)) := ((Below.refl _ _).alloc (Nat.le_refl _) _).alloc (by simp) _
  have hB1 : Blk ((w.alloc (.cells #[iv x.at_, .slice x.A x.old.length x.c, .slice x.A' x.new.length x.c'] 43)).alloc (.cells #[iv y.at_, .slice y.A y.old.length y.c, .slice y.A' y.new.length y.c'] 43)) w.heap.size 43 #[iv x.at_, .slice x.A x.old.length x.c, .slice x.A' x.new.length x.c'] := (Blk.new _ _ _).alloc _
  have hB2 : Blk ((w.alloc (.cells #[iv x.at_, .slice x.A x.old.length x.c, .slice x.A' x.new.length x.c'] 43)).alloc (.cells #[iv y.at_, .slice y.A y.old.length y.c, .slice y.A' y.new.length y.c'] 43)) (w.heap.size + 1) 43 #[iv y.at_, .slice y.A y.old.length y.c, .slice y.A' y.new.length y.c'] := Blk.new_ _ _ _ (by simp)
  unfold EdV.v
  go_enter Tryz.func44, Tryz.ntmps44
  go_upto_region 1 with fail
  generalize (w.alloc (.cells #[iv x.at_, .slice x.A x.old.length x.c, .slice x.A' x.new.length x.c'] 43)).alloc (.cells #[iv y.at_, .slice y.A y.old.length y.c, .slice y.A' y.new.length y.c'] 43) = w1 at *
  obtain ⟨xa, xA, xc, xo, xA', xc', xn⟩ := x
  obtain ⟨ya, yA, yc, yo, yA', yc', yn⟩ := y
  simp only at *
  have m0 := hB1.cell 0
  have m1 := hB1.cell 1
  have m2 := hB1.cell 2
  have ml := hB1.lt
  have n0 := hB2.cell 0
  have n1 := hB2.cell 1
  have n2 := hB2.cell 2
  have nl := hB2.lt
  by_cases ha : xa = ya
  · have hai : (xa == ya) = true := by simp [ha]
    have HA := Lib.hid ha
    have HO := Lib.hid (equalS xA xo xc yA yo yc w1 h1 (hx.old.below hbx) h3 (hy.old.below hbx))
    have HN := Lib.hid fun W (hW : Below w1.heap.size w1 W) => equalS xA' xn xc' yA' yn yc' W h2 (hx.new.below (hbx.next hW (Nat.le_refl _))) h4 (hy.new.below (hbx.next hW (Nat.le_refl _)))
    clear ha hx hy
    by_cases ho : xo = yo
    · rw [decide_eq_true ho] at HO
      have HOE := Lib.hid ho
      clear ho
      go_wp2_with fail
      refine HO.out.mono ?_
      rintro e w2 ⟨rfl, hb2⟩
      have hB1' := hB1.under hb2
      have hB2' := hB2.under hb2
      have p2 := hB1'.cell 2
      have pl := hB1'.lt
      have q2 := hB2'.cell 2
      have ql := hB2'.lt
      clear m0 m1 m2 ml n0 n1 n2 nl
      go_wp2_with fail
      refine (HN.out w2 hb2).mono ?_
      rintro e w3 ⟨rfl, hb3⟩
      go_wp2_with fail
      go_ret
      exact ⟨ret_eq (by congr 1; simp [EdV.ed, HA.out, HOE.out]), (hbx.next hb2 (Nat.le_refl _)).next hb3 (Nat.le_refl _)⟩
    · rw [decide_eq_false ho] at HO
      have HOE := Lib.hid ho
      clear ho
      go_wp2_with fail
      refine HO.out.mono ?_
      rintro e w2 ⟨rfl, hb2⟩
      go_wp2_with fail
      go_ret
      exact ⟨ret_eq (by congr 1; simp [EdV.ed, HOE.out]), hbx.next hb2 (Nat.le_refl _)⟩
  · have hai : (xa == ya) = false := by simp [ha]
    have HA := Lib.hid ha
    clear ha
    go_wp2_with fail
    go_ret
    exact ⟨ret_eq (by congr 1; simp [EdV.ed, HA.out]), hbx⟩
set_option maxHeartbeats 1000000 in
theorem equalFn (A : Option Addr) (xs : List EdV) (c : Nat) (A' : Option Addr) (ys : List EdV) (c' : Nat) (w : World) (hm : xs.length ≤ big) (hs : Sl edE w A xs) (hm' : ys.length ≤ big) (hs' : Sl edE w A' ys)
    (hx : ∀ r ∈ xs, EdOk w r ∧ r.old.length ≤ big ∧ r.new.length ≤ big) (hy : ∀ r ∈ ys, EdOk w r ∧ r.old.length ≤ big ∧ r.new.length ≤ big) :
    Calls Tryz.prog 43 #[.slice A xs.length c, .slice A' ys.length c', .func (.func 44) #[] #[]] w fun e w' => e = .returned (.bool (decide (xs.map EdV.ed = ys.map EdV.ed))) ∧ Below w.heap.size w w' := by
  unfold big at hm hm'
  by_cases hl : xs.length = ys.length
  · have hl' : ((xs.length : Int) != (ys.length : Int)) = false := by simp [hl]
    have HL := Lib.hid hl
    clear hl
    go_enter Tryz.func43, Tryz.ntmps43
    go_wp2
    go_loopw [7, 8, 9, 17] (fun _ _ _ i wr => ∃ (k : Nat), k ≤ xs.length ∧ i = iv k ∧ Hid ((xs.map EdV.ed).take k = (ys.map EdV.ed).take k) ∧ Below w.heap.size w wr) (fun _ _ _ i _ => xs.length - (intOf i).toNat)
    case atStart => exact ⟨0, by omega, rfl, rfl, Below.refl _ _⟩
    case round =>
      obtain ⟨k, hk, rfl, hf, hbw⟩ := hrel
      by_cases hlt : k < xs.length
      · obtain ⟨b, off, x, rfl, hb, hx0, hc0, hc1, hc2⟩ := Sl.atEd (hs.below hbw) hlt
        obtain ⟨b', off', y, rfl, hb', hy0, hd0, hd1, hd2⟩ := Sl.atEd (hs'.below hbw) (by have := HL.out; omega : k < ys.length)
        have hly : (k : Int) < (ys.length : Int) := by have := HL.out; omega
        have hlx : (k : Int) < (xs.length : Int) := by omega
        obtain ⟨ox, lx1, lx2⟩ := hx x (mem_at hx0)
        obtain ⟨oy, ly1, ly2⟩ := hy y (mem_at hy0)
        have HS := Lib.hid fun W (hW : Below w.heap.size w W) => same1_spec x y W (ox.below hW) (oy.below hW) lx1 lx2 ly1 ly2
        have HX : Hid ((xs.map EdV.ed)[k]? = some x.ed) := Lib.hid (by rw [List.getElem?_map, hx0]; rfl)
        have HY : Hid ((ys.map EdV.ed)[k]? = some y.ed) := Lib.hid (by rw [List.getElem?_map, hy0]; rfl)
        clear hx0 hy0 hs hs' hx hy ox oy
        have hbA : Below wr.heap.size wr (wr.alloc (.cells #[iv x.at_, .slice x.A x.old.length x.c, .slice x.A' x.new.length x.c'] 43)) := (Below.refl _ _).alloc (Nat.le_refl _) _
        have hBA : Blk (wr.alloc (.cells #[iv x.at_, .slice x.A x.old.length x.c, .slice x.A' x.new.length x.c'] 43)) wr.heap.size 43 #[iv x.at_, .slice x.A x.old.length x.c, .slice x.A' x.new.length x.c'] := Blk.new _ _ _
        go_upto_region 6 with fail
        generalize wr.alloc (.cells #[iv x.at_, .slice x.A x.old.length x.c, .slice x.A' x.new.length x.c'] 43) = wA at *
        have m0 := hBA.cell 0
        have m1 := hBA.cell 1
        have m2 := hBA.cell 2
        have ml := hBA.lt
        have ge0 := (hbA.cell (p := ⟨b', off' + k * 3, none⟩) hb').trans hd0
        have ge1 := (hbA.cell (p := ⟨b', off' + k * 3 + 1, none⟩) hb').trans hd1
        have ge2 := (hbA.cell (p := ⟨b', off' + k * 3 + 2, none⟩) hb').trans hd2
        clear hd0 hd1 hd2 hc0 hc1 hc2
        have hbC : Below wA.heap.size wA (wA.alloc (.cells #[iv y.at_, .slice y.A y.old.length y.c, .slice y.A' y.new.length y.c'] 43)) := (Below.refl _ _).alloc (Nat.le_refl _) _
        have hBC : Blk (wA.alloc (.cells #[iv y.at_, .slice y.A y.old.length y.c, .slice y.A' y.new.length y.c'] 43)) wA.heap.size 43 #[iv y.at_, .slice y.A y.old.length y.c, .slice y.A' y.new.length y.c'] := Blk.new _ _ _
        go_upto_region 7 with fail
        generalize wA.alloc (.cells #[iv y.at_, .slice y.A y.old.length y.c, .slice y.A' y.new.length y.c'] 43) = wC at *
        have hBA' := hBA.under hbC
        have a0 := hBA'.cell 0
        have a1 := hBA'.cell 1
        have a2 := hBA'.cell 2
        have al := hBA'.lt
        have c0 := hBC.cell 0
        have c1 := hBC.cell 1
        have c2 := hBC.cell 2
        have cl := hBC.lt
        have hbwC : Below w.heap.size w wC := (hbw.next hbA (Nat.le_refl _)).next hbC (Nat.le_refl _)
        clear m0 m1 m2 ml ge0 ge1 ge2
        by_cases hxy : x.ed = y.ed
        · rw [decide_eq_true hxy] at HS
          have HXY := Lib.hid hxy
          clear hxy
          go_wp2_with fail
          refine (HS.out wC hbwC).mono ?_
          rintro e w2 ⟨rfl, hb2⟩
          go_wp2_with fail
          go_roundw
          case rel => exact ⟨k + 1, by omega, by go_num, by
            show (xs.map EdV.ed).take (k + 1) = (ys.map EdV.ed).take (k + 1)
            rw [List.take_add_one, List.take_add_one, HX.out, HY.out, HXY.out, hf.out], hbwC.next hb2 (Nat.le_refl _)⟩
          case measure => simp [intOf]; omega
        · rw [decide_eq_false hxy] at HS
          have HXY := Lib.hid hxy
          clear hxy
          go_wp2_with fail
          refine (HS.out wC hbwC).mono ?_
          rintro e w2 ⟨rfl, hb2⟩
          go_wp2_with fail
          go_ret
          exact ⟨ret_eq (by rw [decide_eq_false (take_ne' HX.out HY.out HXY.out)]; rfl), hbwC.next hb2 (Nat.le_refl _)⟩
      · have he : xs.map EdV.ed = ys.map EdV.ed := by
          have := hf.out
          rwa [List.take_of_length_le (by rw [List.length_map]; omega), List.take_of_length_le (by rw [List.length_map]; have := HL.out; omega)] at this
        have HE := Lib.hid he
        clear he
        go_wp2
        go_ret
        exact ⟨ret_eq (by rw [decide_eq_true HE.out]; rfl), hbw⟩
  · have hl' : ((xs.length : Int) != (ys.length : Int)) = true := by simp; omega
    go_enter Tryz.func43, Tryz.ntmps43
    go_wp2
    go_ret
    exact ⟨ret_eq (by rw [decide_eq_false (fun h => hl (by have := congrArg List.length h; rwa [List.length_map, List.length_map] at this))]; rfl), Below.refl _ _⟩
theorem same_spec (A : Option Addr) (xs : List EdV) (c : Nat) (A' : Option Addr) (ys : List EdV) (c' : Nat) (w : World) (hm : xs.length ≤ big) (hs : Sl edE w A xs) (hm' : ys.length ≤ big) (hs' : Sl edE w A' ys)
    (hx : ∀ r ∈ xs, EdOk w r ∧ r.old.length ≤ big ∧ r.new.length ≤ big) (hy : ∀ r ∈ ys, EdOk w r ∧ r.old.length ≤ big ∧ r.new.length ≤ big) :
    Calls Tryz.prog 13 #[.slice A xs.length c, .slice A' ys.length c'] w fun e w' => e = .returned (.bool (decide (xs.map EdV.ed = ys.map EdV.ed))) ∧ Below w.heap.size w w' := by
  go_enter Tryz.func13, Tryz.ntmps13
  go_wp2_with fail
  refine (equalFn A xs c A' ys c' w hm hs hm' hs' hx hy).mono ?_
  rintro e w1 ⟨rfl, hb1⟩
  go_wp2_with fail
  go_ret
  exact ⟨rfl, hb1⟩
end Fl
end Go.Proofs.YtkmcacgeecfjgaaGreatDoor
end
section
namespace Go.Proofs.YtkmcacgeecfjgaaGreatDoor
namespace Fl
open Go.RowKit Go.ChangeShapes
set_option maxRecDepth 100000
def three : List ByteArray := [⟨#[114, 101, 100, 32, 51]⟩, ⟨#[98, 108, 117, 101, 32, 50]⟩, ⟨#[103, 111, 108, 100]⟩]
def gold : List ByteArray := [⟨#[98, 108, 117, 101, 32, 50]⟩, ⟨#[103, 111, 108, 100]⟩, ⟨#[103, 111, 108, 100]⟩]
def mineJ : List ByteArray := [⟨#[114, 101, 100, 32, 52]⟩, ⟨#[98, 108, 117, 101, 32, 50]⟩, ⟨#[103, 111, 108, 100]⟩]
def yourJ : List ByteArray := [⟨#[114, 101, 100, 32, 51]⟩, ⟨#[103, 114, 101, 121]⟩, ⟨#[98, 108, 117, 101, 32, 50]⟩, ⟨#[103, 111, 108, 100]⟩]
def textF : List UInt8 := [53, 58, 114, 101, 100, 32, 51, 10, 54, 58, 98, 108, 117, 101, 32, 50, 10, 52, 58, 103, 111, 108, 100, 10, 61, 50, 54, 55, 55, 10]
def textT : List UInt8 := [53, 58, 114, 101, 100, 32, 51, 10, 54, 58, 98, 108, 117, 101, 32, 50, 10, 52, 58, 103, 111, 108, 100, 10, 61, 50, 54, 55, 54, 10]
def rows0 : List (List Int) := [[0, 0, 0], [1, 0, 0], [0, 2, 2]]
theorem aw_check : File.check three = 0 := by kernel_rfl
theorem aw_text : File.text three = textT := by kernel_rfl
theorem aw_parse : File.parse textF = ([], 28, 8) := by kernel_rfl
theorem aw_err : errOf three gold = 0 := by kernel_rfl
theorem aw_diff : File.diff three gold = [⟨0, [⟨#[114, 101, 100, 32, 51]⟩], []⟩, ⟨3, [], [⟨#[103, 111, 108, 100]⟩]⟩] := by kernel_rfl
theorem aw_bound : boundOf three gold rows0 = (2, 0) := by kernel_rfl
theorem aw_alike : alikeOf three gold = (2, 3, 0) := by kernel_rfl
theorem aw_join : File.joinAns three mineJ yourJ = (0, three, [(0, 1)]) := by kernel_rfl
theorem three_spec (w : World) : Calls Tryz.prog 18 #[] w fun e w' => ∃ A, e = .returned (.slice A 3 3) ∧ Sl strE w' A three ∧ Below w.heap.size w w' := by
  go_enter Tryz.func18, Tryz.ntmps18
  go_wp2
  go_ret
  exact ⟨_, rfl, Sl.fresh strE w 9 _ three rfl (by decide), (Below.refl _ _).alloc (Nat.le_refl _) _⟩
theorem gold_spec (w : World) : Calls Tryz.prog 27 #[] w fun e w' => ∃ A, e = .returned (.slice A 3 3) ∧ Sl strE w' A gold ∧ Below w.heap.size w w' := by
  go_enter Tryz.func27, Tryz.ntmps27
  go_wp2
  go_ret
  exact ⟨_, rfl, Sl.fresh strE w 9 _ gold rfl (by decide), (Below.refl _ _).alloc (Nat.le_refl _) _⟩
theorem print3 (A : Option Addr) (w : World) (hs : Sl strE w A three) (ht : Tab w) : Calls Tryz.prog 29 #[.slice A 3 3] w fun e w' => e = .returned (.tuple #[.string ⟨#[53, 58, 114, 101, 100, 32, 51, 10, 54, 58, 98, 108, 117, 101, 32, 50, 10, 52, 58, 103, 111, 108, 100, 10, 61, 50, 54, 55, 54, 10]⟩, iv 0]) ∧ Below w.heap.size w w' := by
  have := print_spec A three 3 w (by decide) hs ht
  rw [aw_check, if_pos rfl, aw_text] at this
  exact this
theorem parse28 (w : World) (ht : Tab w) : Calls Tryz.prog 47 #[.string ⟨#[53, 58, 114, 101, 100, 32, 51, 10, 54, 58, 98, 108, 117, 101, 32, 50, 10, 52, 58, 103, 111, 108, 100, 10, 61, 50, 54, 55, 55, 10]⟩] w fun e w' => ∃ v, e = .returned (.tuple #[v, iv 28, iv 8]) ∧ Below w.heap.size w w' := by
  refine (parse_spec textF w (by decide) ht).mono ?_
  rintro e w' ⟨⟨v, rfl, _, _⟩, hb⟩
  rw [aw_parse]
  exact ⟨v, rfl, hb⟩
theorem diffTG (A A' : Option Addr) (w : World) (hs : Sl strE w A three) (hs' : Sl strE w A' gold) : Calls Tryz.prog 12 #[.slice A 3 3, .slice A' 3 3] w fun e w' => ∃ C d, ∃ vs : List EdV, e = .returned (.tuple #[.slice C vs.length d, iv 0]) ∧ Sl edE w' C vs ∧ (∀ r ∈ vs, EdOk w' r ∧ r.old.length ≤ big ∧ r.new.length ≤ big) ∧ vs.map EdV.ed = [⟨0, [⟨#[114, 101, 100, 32, 51]⟩], []⟩, ⟨3, [], [⟨#[103, 111, 108, 100]⟩]⟩] ∧ Below w.heap.size w w' := by
  refine (Diff_spec A three 3 A' gold 3 w (by decide) (by decide) (by decide) (by decide) hs hs').mono ?_
  rintro e w' ⟨v, rs, rfl, hv, hr, hb⟩
  rw [aw_err, if_pos rfl, aw_diff] at hr
  obtain ⟨vs, h1, h2, h3, h4⟩ := eds_of hr
  have ho := own_eds hv h3 h4
  obtain ⟨C, d, rfl, _, _⟩ := ho.form
  refine ⟨C, d, vs, by rw [aw_err], ho.sl, fun r hr => ?_, h1, hb⟩
  have hm : r.ed ∈ vs.map EdV.ed := List.mem_map_of_mem hr
  have hb : ∀ x ∈ vs.map EdV.ed, x.old.length ≤ big ∧ x.new.length ≤ big := by rw [h1]; decide
  exact ⟨h2 r hr, (hb _ hm).1, (hb _ hm).2⟩
theorem boundTG (A A' B : Option Addr) (rs : List (Rw Int)) (w : World) (hs : Sl strE w A three) (hs' : Sl strE w A' gold) (hb : Sl (rwE Int) w B rs) (hr : RowsR intE w rs) (hx : rs.map Rw.xs = rows0) : Calls Tryz.prog 48 #[.slice A 3 3, .slice A' 3 3, .slice B 3 3] w fun e w' => e = .returned (.tuple #[iv 2, iv 0]) ∧ Below w.heap.size w w' := by
  have hl : rs.length = 3 := by have := congrArg List.length hx; rwa [List.length_map] at this
  have := Bound_spec A three 3 A' gold 3 B rs 3 w (by decide) (by decide) (by rw [hl]; decide) (fun r hr => ?_) (by decide) (by decide) (by rw [hl]; decide) hs hs' hb hr
  · rw [hx, aw_bound, hl] at this
    exact this
  · have hm : r.xs ∈ rs.map Rw.xs := List.mem_map_of_mem hr
    have hb : ∀ x ∈ rs.map Rw.xs, x.length ≤ big := by rw [hx]; decide
    exact hb _ hm
theorem alikeTG (A A' : Option Addr) (w : World) (hs : Sl strE w A three) (hs' : Sl strE w A' gold) : Calls Tryz.prog 49 #[.slice A 3 3, .slice A' 3 3] w fun e w' => e = .returned (.tuple #[.agg #[iv 2, iv 3], iv 0]) ∧ Below w.heap.size w w' := by
  have := Alike_spec A three 3 A' gold 3 w (by decide) (by decide) hs hs'
  rw [aw_alike] at this
  exact this
theorem joinTG (Ab A A' : Option Addr) (w : World) (hB : Sl strE w Ab three) (hs : Sl strE w A mineJ) (hs' : Sl strE w A' yourJ) : Calls Tryz.prog 50 #[.slice Ab 3 3, .slice A 3 3, .slice A' 4 4] w fun e w' => ∃ C d C' d', e = .returned (.tuple #[.slice C 3 d, .slice C' 1 d', iv 0]) ∧ Sl strE w' C three ∧ Sl pairE w' C' [(0, 1)] ∧ Below w.heap.size w w' := by
  refine (Join_spec Ab three 3 A mineJ 3 A' yourJ 4 w (by decide) (by decide) (by decide) (by decide) (by decide) (by decide) hB hs hs').mono ?_
  rintro e w' ⟨v0, v1, rfl, h0, h1, hb⟩
  rw [aw_join] at h0 h1 ⊢
  obtain ⟨C, d, rfl, _, _⟩ := h0.form
  obtain ⟨C', d', rfl, _, _⟩ := h1.form
  exact ⟨C, d, C', d', rfl, h0.sl, h1.sl, hb⟩
end Fl
end Go.Proofs.YtkmcacgeecfjgaaGreatDoor
end
section
namespace Go.Proofs.YtkmcacgeecfjgaaGreatDoor
namespace Fl
open Go.RowKit Go.ChangeShapes
set_option maxRecDepth 100000
theorem rows_made (w : World) : ∃ rs : List (Rw Int), Sl (rwE Int) ((((w.alloc (.cells #[iv 0, iv 0, iv 0] 3)).alloc (.cells #[iv 1, iv 0, iv 0] 3)).alloc (.cells #[iv 0, iv 2, iv 2] 3)).alloc (.cells #[.slice (some ⟨w.heap.size, 0, none⟩) 3 3, .slice (some ⟨w.heap.size + 1, 0, none⟩) 3 3, .slice (some ⟨w.heap.size + 1 + 1, 0, none⟩) 3 3] 33)) (some ⟨w.heap.size + 1 + 1 + 1, 0, none⟩) rs ∧
    RowsR intE ((((w.alloc (.cells #[iv 0, iv 0, iv 0] 3)).alloc (.cells #[iv 1, iv 0, iv 0] 3)).alloc (.cells #[iv 0, iv 2, iv 2] 3)).alloc (.cells #[.slice (some ⟨w.heap.size, 0, none⟩) 3 3, .slice (some ⟨w.heap.size + 1, 0, none⟩) 3 3, .slice (some ⟨w.heap.size + 1 + 1, 0, none⟩) 3 3] 33)) rs ∧
    rs.map Rw.xs = rows0 ∧ Below w.heap.size w ((((w.alloc (.cells #[iv 0, iv 0, iv 0] 3)).alloc (.cells #[iv 1, iv 0, iv 0] 3)).alloc (.cells #[iv 0, iv 2, iv 2] 3)).alloc (.cells #[.slice (some ⟨w.heap.size, 0, none⟩) 3 3, .slice (some ⟨w.heap.size + 1, 0, none⟩) 3 3, .slice (some ⟨w.heap.size + 1 + 1, 0, none⟩) 3 3] 33)) := by
  have z1 : (w.alloc (.cells #[iv 0, iv 0, iv 0] 3)).heap.size = w.heap.size + 1 := by simp
  have z2 : ((w.alloc (.cells #[iv 0, iv 0, iv 0] 3)).alloc (.cells #[iv 1, iv 0, iv 0] 3)).heap.size = w.heap.size + 1 + 1 := by simp
  have z3 : (((w.alloc (.cells #[iv 0, iv 0, iv 0] 3)).alloc (.cells #[iv 1, iv 0, iv 0] 3)).alloc (.cells #[iv 0, iv 2, iv 2] 3)).heap.size = w.heap.size + 1 + 1 + 1 := by simp
  have s1 := Sl.fresh intE w 3 #[iv 0, iv 0, iv 0] [0, 0, 0] rfl (by decide)
  have s2 := Sl.fresh intE (w.alloc (.cells #[iv 0, iv 0, iv 0] 3)) 3 #[iv 1, iv 0, iv 0] [1, 0, 0] rfl (by decide)
  have s3 := Sl.fresh intE ((w.alloc (.cells #[iv 0, iv 0, iv 0] 3)).alloc (.cells #[iv 1, iv 0, iv 0] 3)) 3 #[iv 0, iv 2, iv 2] [0, 2, 2] rfl (by decide)
  rw [z1] at s2
  rw [z2] at s3
  refine ⟨[⟨some ⟨w.heap.size, 0, none⟩, 3, [0, 0, 0]⟩, ⟨some ⟨w.heap.size + 1, 0, none⟩, 3, [1, 0, 0]⟩, ⟨some ⟨w.heap.size + 1 + 1, 0, none⟩, 3, [0, 2, 2]⟩], ?_, ?_, rfl, ?_⟩
  · have := Sl.fresh (rwE Int) (((w.alloc (.cells #[iv 0, iv 0, iv 0] 3)).alloc (.cells #[iv 1, iv 0, iv 0] 3)).alloc (.cells #[iv 0, iv 2, iv 2] 3)) 33 #[.slice (some ⟨w.heap.size, 0, none⟩) 3 3, .slice (some ⟨w.heap.size + 1, 0, none⟩) 3 3, .slice (some ⟨w.heap.size + 1 + 1, 0, none⟩) 3 3] [⟨some ⟨w.heap.size, 0, none⟩, 3, [0, 0, 0]⟩, ⟨some ⟨w.heap.size + 1, 0, none⟩, 3, [1, 0, 0]⟩, ⟨some ⟨w.heap.size + 1 + 1, 0, none⟩, 3, [0, 2, 2]⟩] rfl (by simp [maxLen])
    rw [z3] at this
    exact this
  · intro r hr
    simp only [List.mem_cons, List.not_mem_nil, or_false] at hr
    rcases hr with rfl | rfl | rfl
    · exact ⟨((s1.alloc _).alloc _).alloc _, Nat.le_refl _⟩
    · exact ⟨(s2.alloc _).alloc _, Nat.le_refl _⟩
    · exact ⟨s3.alloc _, Nat.le_refl _⟩
  · exact ((((Below.refl _ w).alloc (Nat.le_refl _) _).alloc (by omega) _).alloc (by omega) _).alloc (by omega) _
theorem eds_made (w : World) : ∃ vs : List EdV, vs.length = 2 ∧ Sl edE (((w.alloc (.cells #[.string ⟨#[114, 101, 100, 32, 51]⟩] 9)).alloc (.cells #[.string ⟨#[103, 111, 108, 100]⟩] 9)).alloc (.cells #[iv 0, .slice (some ⟨w.heap.size, 0, none⟩) 1 1, .slice none 0 0, iv 3, .slice none 0 0, .slice (some ⟨w.heap.size + 1, 0, none⟩) 1 1] 43)) (some ⟨w.heap.size + 1 + 1, 0, none⟩) vs ∧
    (∀ r ∈ vs, EdOk (((w.alloc (.cells #[.string ⟨#[114, 101, 100, 32, 51]⟩] 9)).alloc (.cells #[.string ⟨#[103, 111, 108, 100]⟩] 9)).alloc (.cells #[iv 0, .slice (some ⟨w.heap.size, 0, none⟩) 1 1, .slice none 0 0, iv 3, .slice none 0 0, .slice (some ⟨w.heap.size + 1, 0, none⟩) 1 1] 43)) r ∧ r.old.length ≤ big ∧ r.new.length ≤ big) ∧
    vs.map EdV.ed = [⟨0, [⟨#[114, 101, 100, 32, 51]⟩], []⟩, ⟨3, [], [⟨#[103, 111, 108, 100]⟩]⟩] ∧ Below w.heap.size w (((w.alloc (.cells #[.string ⟨#[114, 101, 100, 32, 51]⟩] 9)).alloc (.cells #[.string ⟨#[103, 111, 108, 100]⟩] 9)).alloc (.cells #[iv 0, .slice (some ⟨w.heap.size, 0, none⟩) 1 1, .slice none 0 0, iv 3, .slice none 0 0, .slice (some ⟨w.heap.size + 1, 0, none⟩) 1 1] 43)) := by
  have z1 : (w.alloc (.cells #[.string ⟨#[114, 101, 100, 32, 51]⟩] 9)).heap.size = w.heap.size + 1 := by simp
  have z2 : ((w.alloc (.cells #[.string ⟨#[114, 101, 100, 32, 51]⟩] 9)).alloc (.cells #[.string ⟨#[103, 111, 108, 100]⟩] 9)).heap.size = w.heap.size + 1 + 1 := by simp
  have s1 := Sl.fresh strE w 9 #[.string ⟨#[114, 101, 100, 32, 51]⟩] [⟨#[114, 101, 100, 32, 51]⟩] rfl (by decide)
  have s2 := Sl.fresh strE (w.alloc (.cells #[.string ⟨#[114, 101, 100, 32, 51]⟩] 9)) 9 #[.string ⟨#[103, 111, 108, 100]⟩] [⟨#[103, 111, 108, 100]⟩] rfl (by decide)
  rw [z1] at s2
  refine ⟨[⟨0, some ⟨w.heap.size, 0, none⟩, 1, [⟨#[114, 101, 100, 32, 51]⟩], none, 0, []⟩, ⟨3, none, 0, [], some ⟨w.heap.size + 1, 0, none⟩, 1, [⟨#[103, 111, 108, 100]⟩]⟩], rfl, ?_, ?_, rfl, ?_⟩
  · have := Sl.fresh edE ((w.alloc (.cells #[.string ⟨#[114, 101, 100, 32, 51]⟩] 9)).alloc (.cells #[.string ⟨#[103, 111, 108, 100]⟩] 9)) 43 #[iv 0, .slice (some ⟨w.heap.size, 0, none⟩) 1 1, .slice none 0 0, iv 3, .slice none 0 0, .slice (some ⟨w.heap.size + 1, 0, none⟩) 1 1] [⟨0, some ⟨w.heap.size, 0, none⟩, 1, [⟨#[114, 101, 100, 32, 51]⟩], none, 0, []⟩, ⟨3, none, 0, [], some ⟨w.heap.size + 1, 0, none⟩, 1, [⟨#[103, 111, 108, 100]⟩]⟩] rfl (by simp [maxLen])
    rw [z2] at this
    exact this
  · intro r hr
    simp only [List.mem_cons, List.not_mem_nil, or_false] at hr
    rcases hr with rfl | rfl
    · exact ⟨⟨(s1.alloc _).alloc _, Sl.nil, Nat.le_refl _, Nat.le_refl _⟩, by simp [big], by simp [big]⟩
    · exact ⟨⟨Sl.nil, s2.alloc _, Nat.le_refl _, Nat.le_refl _⟩, by simp [big], by simp [big]⟩
  · exact (((Below.refl _ w).alloc (Nat.le_refl _) _).alloc (by omega) _).alloc (by omega) _
theorem eqRatio (w : World) : (Op.equalIn 10000 99 (.agg #[iv 2, iv 3]) (.agg #[iv 2, iv 3])).run Tryz.prog w = .ok true w := by kernel_rfl
set_option maxHeartbeats 4000000 in
theorem awake_spec (w : World) (ht : Tab w) : Calls Tryz.prog 15 #[] w fun e w' => e = .returned (.bool true) ∧ Below w.heap.size w w' := by
  have HT := Lib.hid ht
  clear ht
  go_enter Tryz.func15, Tryz.ntmps15
  go_wp2_with fail
  refine (three_spec _).mono ?_
  rintro e w1 ⟨A1, rfl, hA1, hb1⟩
  go_wp2_with fail
  refine (print3 A1 w1 hA1 (HT.out.below hb1)).mono ?_
  rintro e w2 ⟨rfl, hb2⟩
  have hB2 := hb1.next hb2 (Nat.le_refl _)
  clear hA1 hb1 hb2
  go_wp2_with fail
  refine (parse28 w2 (HT.out.below hB2)).mono ?_
  rintro e w3 ⟨v3, rfl, hb3⟩
  have hB3 := hB2.next hb3 (Nat.le_refl _)
  clear hB2 hb3
  go_wp2_with fail
  refine (three_spec _).mono ?_
  rintro e w4 ⟨A4, rfl, hA4, hb4⟩
  go_wp2_with fail
  refine (gold_spec _).mono ?_
  rintro e w5 ⟨A5, rfl, hA5, hb5⟩
  have hB5 := (hB3.next hb4 (Nat.le_refl _)).next hb5 (Nat.le_refl _)
  have hA4' := hA4.below hb5
  clear hA4 hb4 hb5 hB3
  go_wp2_with fail
  refine (diffTG A4 A5 w5 hA4' hA5).mono ?_
  rintro e w6 ⟨C6, d6, vs, rfl, hC6, hok6, hvs, hb6⟩
  have HVS := Lib.hid hvs
  have hB6 := Lib.hid (hB5.next hb6 (Nat.le_refl _))
  clear hB5 hb6 hvs
  go_wp2_with fail
  refine (three_spec _).mono ?_
  rintro e w7 ⟨A7, rfl, hA7, hb7⟩
  go_wp2_with fail
  refine (gold_spec _).mono ?_
  rintro e w8 ⟨A8, rfl, hA8, hb8⟩
  have hB68 := hb7.next hb8 (Nat.le_refl _)
  have hA78 := hA7.below hb8
  clear hA7 hb7 hb8
  obtain ⟨rs, hsr, hrr, hrx, hx8⟩ := rows_made w8
  go_wp2_with fail
  generalize (((w8.alloc (.cells #[iv 0, iv 0, iv 0] 3)).alloc (.cells #[iv 1, iv 0, iv 0] 3)).alloc (.cells #[iv 0, iv 2, iv 2] 3)).alloc (.cells #[.slice (some ⟨w8.heap.size, 0, none⟩) 3 3, .slice (some ⟨w8.heap.size + 1, 0, none⟩) 3 3, .slice (some ⟨w8.heap.size + 1 + 1, 0, none⟩) 3 3] 33) = wx at *
  refine (boundTG A7 A8 _ rs wx (hA78.below hx8) (hA8.below hx8) hsr hrr hrx).mono ?_
  rintro e w9 ⟨rfl, hb9⟩
  have hB69 := (hB68.next hx8 (Nat.le_refl _)).next hb9 (Nat.le_refl _)
  clear hA78 hA8 hsr hrr hrx hx8 hb9 hB68
  go_wp2_with fail
  refine (three_spec _).mono ?_
  rintro e wa ⟨Aa, rfl, hAa, hba⟩
  go_wp2_with fail
  refine (gold_spec _).mono ?_
  rintro e wb ⟨Ab, rfl, hAb, hbb⟩
  have hAa' := hAa.below hbb
  have hB6b := (hB69.next hba (Nat.le_refl _)).next hbb (Nat.le_refl _)
  clear hAa hba hbb hB69
  go_wp2_with fail
  refine (alikeTG Aa Ab wb hAa' hAb).mono ?_
  rintro e wc ⟨rfl, hbc⟩
  have hB6c := hB6b.next hbc (Nat.le_refl _)
  clear hAa' hAb hbc hB6b
  have hRd : Blk (wc.alloc (.cells #[iv 2, iv 3] 99)) wc.heap.size 99 #[iv 2, iv 3] := Blk.new _ _ _
  have hRb : Below wc.heap.size wc (wc.alloc (.cells #[iv 2, iv 3] 99)) := (Below.refl _ _).alloc (Nat.le_refl _) _
  go_upto_region 6 with fail
  generalize wc.alloc (.cells #[iv 2, iv 3] 99) = wd at *
  have hB6d := hB6c.next hRb (Nat.le_refl _)
  clear hRb hB6c
  go_wp2_with fail
  refine (three_spec _).mono ?_
  rintro e we ⟨Ae, rfl, hAe, hbe⟩
  have hRe := hRd.under hbe
  have hB6e := hB6d.next hbe (Nat.le_refl _)
  clear hRd hbe hB6d
  have hm1 := Sl.fresh strE we 9 #[.string ⟨#[114, 101, 100, 32, 52]⟩, .string ⟨#[98, 108, 117, 101, 32, 50]⟩, .string ⟨#[103, 111, 108, 100]⟩] mineJ rfl (by decide)
  have hm2 := Sl.fresh strE (we.alloc (.cells #[.string ⟨#[114, 101, 100, 32, 52]⟩, .string ⟨#[98, 108, 117, 101, 32, 50]⟩, .string ⟨#[103, 111, 108, 100]⟩] 9)) 9 #[.string ⟨#[114, 101, 100, 32, 51]⟩, .string ⟨#[103, 114, 101, 121]⟩, .string ⟨#[98, 108, 117, 101, 32, 50]⟩, .string ⟨#[103, 111, 108, 100]⟩] yourJ rfl (by decide)
  have hbm : Below we.heap.size we ((we.alloc (.cells #[.string ⟨#[114, 101, 100, 32, 52]⟩, .string ⟨#[98, 108, 117, 101, 32, 50]⟩, .string ⟨#[103, 111, 108, 100]⟩] 9)).alloc (.cells #[.string ⟨#[114, 101, 100, 32, 51]⟩, .string ⟨#[103, 114, 101, 121]⟩, .string ⟨#[98, 108, 117, 101, 32, 50]⟩, .string ⟨#[103, 111, 108, 100]⟩] 9)) := ((Below.refl _ _).alloc (Nat.le_refl _) _).alloc (by simp) _
  have hm1' := hm1.alloc (.cells #[.string ⟨#[114, 101, 100, 32, 51]⟩, .string ⟨#[103, 114, 101, 121]⟩, .string ⟨#[98, 108, 117, 101, 32, 50]⟩, .string ⟨#[103, 111, 108, 100]⟩] 9)
  rw [show (we.alloc (.cells #[.string ⟨#[114, 101, 100, 32, 52]⟩, .string ⟨#[98, 108, 117, 101, 32, 50]⟩, .string ⟨#[103, 111, 108, 100]⟩] 9)).heap.size = we.heap.size + 1 by simp] at hm2
  clear hm1
  go_wp2_with fail
  generalize (we.alloc (.cells #[.string ⟨#[114, 101, 100, 32, 52]⟩, .string ⟨#[98, 108, 117, 101, 32, 50]⟩, .string ⟨#[103, 111, 108, 100]⟩] 9)).alloc (.cells #[.string ⟨#[114, 101, 100, 32, 51]⟩, .string ⟨#[103, 114, 101, 121]⟩, .string ⟨#[98, 108, 117, 101, 32, 50]⟩, .string ⟨#[103, 111, 108, 100]⟩] 9) = wf at *
  refine (joinTG Ae _ _ wf (hAe.below hbm) hm1' hm2).mono ?_
  rintro e wg ⟨Cg, dg, Cg', dg', rfl, hCg, hCg', hbg⟩
  have hRg := (hRe.under hbm).under hbg
  have hB6g := (hB6e.next hbm (Nat.le_refl _)).next hbg (Nat.le_refl _)
  clear hAe hm1' hm2 hbm hRe hbg hB6e
  have hRc0 := hRg.cell 0
  have hRc1 := hRg.cell 1
  have hRl := hRg.lt
  go_wp2_with fail
  obtain ⟨vy, hvl, hvy, hoky, hvye, hby⟩ := eds_made wg
  have hokg : ∀ r ∈ vs, EdOk wg r ∧ r.old.length ≤ big ∧ r.new.length ≤ big := fun r hr => ⟨(hok6 r hr).1.below hB6g, (hok6 r hr).2⟩
  have hC6g := hC6.below hB6g
  have hvsl : vs.length ≤ big := by have := congrArg List.length HVS.out; rw [List.length_map] at this; rw [this]; decide
  generalize ((wg.alloc (.cells #[.string ⟨#[114, 101, 100, 32, 51]⟩] 9)).alloc (.cells #[.string ⟨#[103, 111, 108, 100]⟩] 9)).alloc (.cells #[iv 0, .slice (some ⟨wg.heap.size, 0, none⟩) 1 1, .slice none 0 0, iv 3, .slice none 0 0, .slice (some ⟨wg.heap.size + 1, 0, none⟩) 1 1] 43) = wh at *
  have hsm := same_spec C6 vs d6 (some ⟨wg.heap.size + 1 + 1, 0, none⟩) vy 2 wh hvsl (hC6g.below hby) (by rw [hvl]; decide) hvy (fun r hr => ⟨(hokg r hr).1.below hby, (hokg r hr).2⟩) hoky
  rw [decide_eq_true (HVS.out.trans hvye.symm), hvl] at hsm
  refine hsm.mono ?_
  rintro e wi ⟨rfl, hbi⟩
  have hgi := hby.next hbi (Nat.le_refl _)
  have hRi := hRg.under hgi
  have hCi := hCg.below hgi
  have hCi' := hCg'.below hgi
  have hB6i := hB6g.next hgi (Nat.le_refl _)
  clear hsm hvy hoky hvye hby hokg hC6g hvsl hbi hgi hRg hCg hCg' hB6g hRc0 hRc1 hRl hok6 hC6
  have hRc0 := hRi.cell 0
  have hRc1 := hRi.cell 1
  have hRl := hRi.lt
  have heqr := eqRatio
  go_wp2_with fail
  refine (three_spec _).mono ?_
  rintro e wj ⟨Aj, rfl, hAj, hbj⟩
  have hCj := hCi.below hbj
  have hCj' := hCi'.below hbj
  have hB6j := hB6i.next hbj (Nat.le_refl _)
  clear hCi hCi' hRi hbj hB6i hRc0 hRc1 hRl
  have heqs := equalS Cg three dg Aj three 3 wj (by decide) hCj (by decide) hAj
  rw [decide_eq_true rfl] at heqs
  go_wp2_with fail
  refine heqs.mono ?_
  rintro e wk ⟨rfl, hbk⟩
  have hCk' := hCj'.below hbk
  have hB6k := hB6j.next hbk (Nat.le_refl _)
  clear hCj hCj' hAj hbk heqs hB6j
  have hsp := Sl.fresh pairE wk 107 #[iv 0, iv 1] [(0, 1)] rfl (by decide)
  have hbl : Below wk.heap.size wk (wk.alloc (.cells #[iv 0, iv 1] 107)) := (Below.refl _ _).alloc (Nat.le_refl _) _
  go_wp2_with fail
  generalize wk.alloc (.cells #[iv 0, iv 1] 107) = wl at *
  have heqp := eqSp Cg' [(0, 1)] dg' (some ⟨wk.heap.size, 0, none⟩) [(0, 1)] 1 wl (by decide) (hCk'.below hbl) (by decide) hsp
  rw [decide_eq_true rfl] at heqp
  refine heqp.mono ?_
  rintro e wm ⟨rfl, hbm⟩
  go_wp2_with fail
  go_ret
  exact ⟨rfl, hB6.out.next ((hB6k.next hbl (Nat.le_refl _)).next hbm (Nat.le_refl _)) (Nat.le_refl _)⟩
end Fl
end Go.Proofs.YtkmcacgeecfjgaaGreatDoor
end
section
namespace Go.Proofs.YtkmcacgeecfjgaaGreatDoor
open Go.ChangeShapes Go.WideShapes Go.RowKit
theorem keptBut_below {W W' : World} (h : Below W.heap.size W W') (may : MemPlace → Prop) : W.keptBut W' may := by
  refine ⟨h.os, h.output, fun i hi => ?_⟩
  rw [h.block i hi]
  cases W.heap[i]? with
  | none => rfl
  | some o => cases o with
    | cells c t fr => exact ⟨rfl, rfl, rfl, fun _ _ => rfl⟩
    | map es clock => exact .inr ⟨rfl, rfl⟩
    | _ => rfl
/-- A call that returns v and leaves what was there as it was pays the row's post. -/
theorem post_of_below {H : Type} {enc : TypeId × Value → H} {P : Program} {f : Func} {s : ChangeSpec} {apart fresh handsOn again : Bool} {W W' : World} {args : Array Value} {v : Value} {ds gs : List (DataW H)} {before pa pv : List MemPlace}
    (hW : DataW.Whole enc P f.params.toList s.vars apart W args.toList ds gs before) (hb : Below W.heap.size W W') (hps : before = pa ++ pv)
    (hres : ∀ (b : Nat) (sp : Nat → Bool) (hd : Bool), DataW.TrodAll enc P W' b sp hd f.resultTypes.toList (v.resultList f.resultTypes.size) (s.fn H (ds ++ gs)).results [])
    (hargs : ∀ sp : Nat → Bool, (∀ p ∈ before, sp p.block = true) → DataW.TrodAll enc P W' 0 sp true f.params.toList args.toList (s.fn H (ds ++ gs)).args pa)
    (hvars : ∀ sp : Nat → Bool, (∀ p ∈ before, sp p.block = true) → DataW.TrodVars enc P W' sp s.vars (s.fn H (ds ++ gs)).vars pv)
    (hok : ∀ (j : Nat) (t : TypeId) (r : Value), f.resultTypes[j]? = some t → (v.resultList f.resultTypes.size)[j]? = some r → Value.okWide P W' .any 0 t r) :
    s.post enc P f apart fresh handsOn again W args v W' := by
  have hlt : ∀ p ∈ before, p.block < W.heap.size := fun p hp => hW.lt p hp
  have hin : ∀ p ∈ before, decide (p.block < W.heap.size) = true := fun p hp => decide_eq_true (hlt p hp)
  have hW0 := hW
  obtain ⟨_, _, _, _, _, hz, hn⟩ := hW0
  have hsub : ∀ p ∈ before, p ∈ before ∧ (p ∈ ([] : List MemPlace) ∨ p ∈ pa ∨ p ∈ pv) := fun p hp => ⟨hp, .inr (List.mem_append.1 (hps ▸ hp))⟩
  have hall : ([] ++ pa) ++ pv = before := by rw [List.nil_append, hps]
  refine ⟨ds, gs, before, [], pa, pv, hW, hres _ _ _, hargs (fun b => decide (b < W.heap.size)) hin, hvars (fun b => decide (b < W.heap.size)) hin, World.keptBut_mono hsub (keptBut_below hb _), fun _ => ⟨hok, _, _, ([] ++ pa) ++ pv, ⟨[] ++ pa, pv, trodAll_append (hargs _ fun _ _ => rfl) (hres _ _ _), hvars _ fun _ _ => rfl, rfl, ?_, ?_⟩, ?_⟩⟩
  · intro b off hp
    rw [hall] at hp
    rw [hb.frozen (p := ⟨b, off, none⟩) (hlt _ hp)]
    exact hz b off hp
  · rw [hall]; exact hn
  · rw [hall]; exact fun p hp _ => hp
theorem law_kids : Kids Tryz.prog (· < (Tryz.prog).types.size) := kids_rows (by kernel_rfl) (by kernel_rfl)
theorem law_full : ∀ t e, t < (Tryz.prog).types.size → (Tryz.prog).underlying t = some (.slice e) → 0 < (Tryz.prog).cellsOf e := slices_full_of Tryz.prog (by kernel_rfl)
theorem trodAll_below {H : Type} {enc : TypeId × Value → H} {P : Program} {W W' : World} {base : Nat} {spare : Nat → Bool} {held : Bool} (hs : ∀ p : MemPlace, p.block < W.heap.size → W.sameAt W' p) : ∀ {ts : List TypeId} {vs : List Value} {ds : List (DataW H)} {ps : List MemPlace},
    DataW.TrodAll enc P W base spare held ts vs ds ps → (∀ p ∈ ps, p.block < W.heap.size) → DataW.TrodAll enc P W' base spare held ts vs ds ps
  | [], [], [], _, h, _ => h
  | _ :: ts, _ :: vs, _ :: ds, _, ⟨p, q, ⟨n, h⟩, hr, e⟩, hl => by
    subst e
    exact ⟨p, q, ⟨n, DataW.trod_carry n _ _ _ h fun x hx => hs x (hl x (List.mem_append.2 (.inl hx)))⟩, trodAll_below hs hr fun x hx => hl x (List.mem_append.2 (.inr hx)), rfl⟩
set_option maxRecDepth 100000 in
/-- Every law: whatever its parameters, if it returns true and leaves what was there as it was. -/
theorem law_post {H : Type} {enc : TypeId × Value → H} {f : Func} {s : ChangeSpec} {apart fresh handsOn again : Bool} {W W' : World} {args : Array Value} {ds gs : List (DataW H)} {before : List MemPlace} {tb : TypeId}
    (hT : ∀ t ∈ f.params.toList, t < (Tryz.prog).types.size) (hv : s.vars = []) (hrt : f.resultTypes = #[tb]) (hu : (Tryz.prog).underlying tb = some .bool)
    (hW : DataW.Whole enc Tryz.prog f.params.toList s.vars apart W args.toList ds gs before) (hb : Below W.heap.size W W')
    (hr : (s.fn H (ds ++ gs)).results = [.lit (.bool true)]) (ha : (s.fn H (ds ++ gs)).args = ds) (hvs : (s.fn H (ds ++ gs)).vars = []) :
    s.post enc Tryz.prog f apart fresh handsOn again W args (.bool true) W' := by
  have hW0 := hW
  obtain ⟨p, q, hA, hV, he, _, _⟩ := hW0
  have hV' := hV
  rw [hv] at hV'
  obtain ⟨_, rfl⟩ := trodVars_none hV'
  have hlt : ∀ x ∈ before, x.block < W.heap.size := fun x hx => hW.lt x hx
  refine post_of_below hW hb he ?_ ?_ ?_ (ok_one (by rw [hrt]) (by rfl) (okWide_bool_mk hu true))
  · intro b sp hd
    rw [hr, hrt]
    exact trodAll_cons_mk (shut_bool hu true) trodAll_mk0
  · intro sp hsp
    rw [ha]
    exact trodAll_below (fun x hx => hb.same hx) (DataW.TrodAll.respare law_kids law_full hT hA fun x hx => hsp x (by rw [he]; exact List.mem_append.2 (.inl hx))) fun x hx => hlt x (by rw [he]; exact List.mem_append.2 (.inl hx))
  · intro sp _
    rw [hv, hvs]
    rfl
end Go.Proofs.YtkmcacgeecfjgaaGreatDoor
namespace Go.Proofs.YtkmcacgeecfjgaaGreatDoor
open Go.ChangeShapes Go.WideShapes Go.RowKit
theorem cellsU8 : (Tryz.prog).cellsOf 5 = 1 := by kernel_rfl
def byteEnc : Enc Int := ⟨fun x => [.int .u8 x], 1, fun _ => rfl, fun _ u h => by simp at h; subst h; rfl, by decide⟩
set_option maxRecDepth 100000 in
theorem openBytes {H : Type} {enc : TypeId × Value → H} {W : World} {base : Nat} {v : Value} {d : DataW H} {ps : List MemPlace} (hval : Value.okWide Tryz.prog W .any base 22 v) (h : DataW.Trod enc Tryz.prog W 0 (fun _ => true) true 22 v d ps) :
    ∃ A bs c, v = .slice A bs.length c ∧ bs.length ≤ c ∧ bs.length ≤ maxLen ∧ Sl byteEnc W A bs := by
  obtain ⟨A, len, cap, rfl⟩ := okWide_slice Tryz.underlying22 hval
  obtain ⟨fuel, hf⟩ := h
  rcases open_ints Tryz.underlying22 Tryz.underlying5 cellsU8 hf with ⟨hcs, _⟩ | ⟨a, len', cap', zs, hcs, _, hl, hm, hz, _, hcell, _⟩
  · simp [Value.cells] at hcs
    obtain ⟨rfl, rfl, rfl⟩ := hcs
    exact ⟨none, [], 0, rfl, Nat.le_refl _, Nat.zero_le _, fun h => absurd rfl h⟩
  · simp [Value.cells] at hcs
    obtain ⟨rfl, rfl, rfl⟩ := hcs
    simp only [if_true] at hz
    refine ⟨some a, zs.take len, cap, by simp; omega, by simp; omega, by simp; omega, fun hne => ?_⟩
    obtain ⟨ab, ao, spot⟩ := a
    have h0 : 0 < zs.length := by
      cases zs with
      | nil => simp at hne
      | cons _ _ => simp
    have hspot : spot = none := by simpa [Addr.add] using World.cell?_spot (hcell 0 h0)
    subst hspot
    refine ⟨ab, ao, rfl, ?_, fun i x hi j u hu => ?_⟩
    · have := hcell 0 h0
      rw [Addr.add_lit] at this
      by_cases hlt : ab < W.heap.size
      · exact hlt
      · simp [World.cell?, Array.getElem?_eq_none (Nat.le_of_not_lt hlt)] at this
    · have hu' : j = 0 ∧ u = .int .u8 x := by
        match j, hu with
        | 0, hu => exact ⟨rfl, by simpa [byteEnc] using hu.symm⟩
        | j + 1, hu => simp [byteEnc] at hu
      obtain ⟨rfl, rfl⟩ := hu'
      have hil : i < zs.length := by have := (List.getElem?_eq_some_iff.1 hi).1; simp at this; omega
      have := hcell i hil
      rw [Addr.add_lit] at this
      have hx : zs.getD i 0 = x := by
        rw [List.getElem?_take] at hi
        split at hi
        · simp [List.getD_eq_getElem?_getD, hi]
        · cases hi
      rw [hx] at this
      simpa [byteEnc] using this
theorem own : ownKnob Tryz.prog.godebug = none := by kernel_rfl
theorem g0 : Tryz.prog.globalNamed "internal/strconv.uint64pow10" = some 1 := by kernel_rfl
theorem g0ty : (Tryz.prog.globals[1]?).map (·.type) = some 241 := by kernel_rfl
theorem cells20 : Tryz.prog.cellsOf 241 = 20 := by kernel_rfl
theorem cellsU64 : Tryz.prog.cellsOf 71 = 1 := by kernel_rfl
abbrev laidList : List (String × DataW Unit) := [("math/bits.deBruijn32tab", Rows.laid_math_bits_deBruijn32tab), ("math/bits.deBruijn64tab", Rows.laid_math_bits_deBruijn64tab), ("internal/strconv.uint64pow10", Rows.laid_internal_strconv_uint64pow10)]
/-- What a row's list gives: the table of powers of ten. -/
theorem tab_of {W : World} (h : laidMetH Tryz.prog laidList W) : Fl.Tab W := by
  have h0 : laidMet Tryz.prog laidList W := h
  have h1 : laidMet Tryz.prog [("internal/strconv.uint64pow10", Rows.laid_internal_strconv_uint64pow10)] W := (h0.tail).tail
  exact Lib.tabIs_of_head (rest := []) g0 g0ty Tryz.underlying241 Tryz.underlying71 cellsU64 cells20 h1
/-- A world for the witness. -/
def layAt (h : Array Obj) (i : Nat) (cs : Array Value) : Array Obj := h.modify i fun
  | .cells _ t frozen => .cells cs t frozen
  | o => o
noncomputable def laidWorld (os : Os) : World :=
  { World.holding Tryz.prog os ⟨#[], #[], []⟩ with heap := layAt (layAt (layAt (World.holding Tryz.prog os ⟨#[], #[], []⟩).heap 1 (Lib.pow10Tab.map fun z => Value.int .u64 z).toArray) 2 (([0, 1, 28, 2, 29, 14, 24, 3, 30, 22, 20, 15, 25, 17, 4, 8, 31, 27, 13, 23, 21, 19, 16, 7, 26, 12, 18, 6, 11, 5, 10, 9] : List Int).map fun z => Value.int .u8 z).toArray) 3 (([0, 1, 56, 2, 57, 49, 28, 3, 61, 58, 42, 50, 38, 29, 17, 4, 62, 47, 59, 36, 45, 43, 51, 22, 53, 39, 33, 30, 24, 18, 12, 5, 63, 55, 48, 27, 60, 41, 37, 16, 46, 35, 44, 21, 52, 32, 23, 11, 54, 26, 40, 15, 34, 20, 31, 10, 25, 14, 19, 9, 13, 8, 7, 6] : List Int).map fun z => Value.int .u8 z).toArray }
theorem laid_met (os : Os) (args : Array Value) : laidMet Tryz.prog laidList ((laidWorld os).forCall (fun _ _ => 0) ⟨#[], args, []⟩).memory :=
  laidMet_of_run' 8 (by kernel_rfl) (by kernel_rfl)
end Go.Proofs.YtkmcacgeecfjgaaGreatDoor
end
section
namespace Go.Proofs.YtkmcacgeecfjgaaGreatDoor
namespace File
section
variable {α : Type} [DecidableEq α]
/-- How many common pairs two beginnings have at most. -/
def pre (a b : List α) (i j : Nat) : Nat := lcs (a.take i) (b.take j)
end
end File
end Go.Proofs.YtkmcacgeecfjgaaGreatDoor
namespace Go.Proofs.YtkmcacgeecfjgaaGreatDoor
open Go.RowKit
namespace Fl
set_option maxRecDepth 100000
theorem Only.cell {g : Nat} {w w' : World} (h : Only g w w') {p : Addr} (hp : p.block < w.heap.size) (hne : p.block ≠ g) : w'.cell? p = w.cell? p := by
  unfold World.cell?
  rw [h.other _ hp hne]
theorem Only.own {α : Type} {E : Enc α} {e : TypeId} {g B : Nat} {w w' : World} {v : Value} {xs : List α} (h : Only g w w') (ho : Own E e B w v xs) (hne : v.ownBlock ≠ some g) : Own E e B w' v xs :=
  ho.keep h.below.size fun b hb => h.other b (ho.lt b hb).2 fun e => hne (by rw [hb, e])
end Fl
end Go.Proofs.YtkmcacgeecfjgaaGreatDoor
end
