/- What the proof of the claim's theorem uses, part 3. The conditions stand in each statement. -/
import Derived.WalkKit
import Derived.WalkSpells
import Derived.WalkLawsBesides
import Derived.WalkSmall
import Derived.Lib.Hide
import Derived.Laws.OwnMore
import Derived.Laws.CopyOwn
import Derived.Deep.Draws
import Derived.Laws.AppendOwnNone
import Derived.Test.YtkmcacgeecfjgaaGreatDoorProg
import Derived.Outline
import Derived.BigQuiet
import Derived.Deep.QuietTactic
import Derived.Lib.OthersKept
import Derived.Laws.EntriesVeiled
import Derived.Shelf.Strings.Builder1
import Derived.Shelf.LaysM
import Derived.Shelf.Strconv.Itoa3
import Derived.Orders
import Derived.RegionTactic
import Derived.BigRegion
import Derived.Deep.DeepCutAuto
import Derived.Maps.OwnRows
import Derived.Maps.GroupsBeside
import Derived.Deep.RegionHeld3
import Derived.Lib.SliceRun
import Derived.RangeFuncNested
import Derived.RangeFuncBound
import Derived.RangeFuncCalls
import Derived.RangeFuncLeaves
import Derived.Shelf.Abstract
import Derived.Shelf.RegionOpen
import Derived.OwnWalkIn
import Derived.TacticsInMore
import Derived.LoopNIn
import Derived.LoopIn
import Derived.Sort.QuietIn
import Derived.Deep.Quiet
import Derived.Maps.AppendAt
import Derived.Test.YtkmcacgeecfjgaaGreatDoorCards
import Derived.Test.YtkmcacgeecfjgaaGreatDoorTie
import Derived.ProofKit
import Derived.Deep.DeepHandedRow
import Derived.Lib.LaidTab
import Derived.Stop.LaidErr
import Derived.ChangeSame
import Derived.RowKit3
import Derived.ReadAgain
import Derived.OpenShut
import Derived.ChangeSlices
import Derived.Shelf.Bits.Mul64
import Derived.ArgAppend
import Derived.WalkMore
import Derived.Laws.BytesArg
import Derived.Laws.IdiomStrings
import Derived.Shelf.Spec.SlicesInsert
import Derived.Shelf.Spec.SlicesInsertGrow
import Derived.Deep.RegionLaw
import Derived.Maps.Own
import Derived.Maps.OwnOps
import Derived.Maps.OwnSet
import Derived.ChangeKeysEq
import Derived.Test.YtkmcacgeecfjgaaGreatDoorPr2
set_option linter.unusedVariables false
set_option linter.unusedSimpArgs false
section
namespace Go.Proofs.YtkmcacgeecfjgaaGreatDoor
namespace Fl
open Go.RowKit Go.Maps Go.WideMaps Go.ChangeShapes
set_option maxRecDepth 100000
theorem groups_map {w : World} {B m n : Nat} {D : DataW Unit} (h : w.ownsGroups (H := Unit) Tryz.prog 9 B 3 .i64 m n D) : IsMap D := by
  obtain ⟨_, _, _, _, _, e, _⟩ := h
  exact ⟨_, e⟩
theorem Blk.row {W w3 : World} {m B : Nat} {t : TypeId} {cs : Array Value} {v : Value} {zs : List Int} (h : Blk W m t cs) (hoi : W.ownsInts B 3 .i64 v zs) (hg : W.grownBy w3 v.ownBlock) (hm : m < B) : Blk w3 m t cs :=
  (hg.block m h.lt fun e => by have := (hoi.1.lt m e.symm).1; omega).trans h
theorem Blk.turned {W w3 : World} {m M : Nat} {t : TypeId} {cs : Array Value} (h : Blk W m t cs) (hg : W.grownBy w3 (some M)) (hm : m ≠ M) : Blk w3 m t cs :=
  (hg.block m h.lt fun e => by cases e; omega).trans h
theorem Only.grown {M : Nat} {w0 w w' : World} {row : Option Nat} (h : Only M w0 w) (hg : w.grownBy w' row) (hr : ∀ j, row = some j → w0.heap.size ≤ j ∨ j = M) (hM : M ≤ w0.heap.size) : Only M w0 w' := by
  have hs := h.below.size
  refine ⟨⟨hg.os.trans h.below.os, hg.tape.trans h.below.tape, hg.output.trans h.below.output, Nat.le_trans hs hg.size, fun k hk => ?_⟩, fun k hk hne => ?_⟩
  · refine (hg.block k (by omega) fun e => ?_).trans (h.below.block k hk)
    rcases hr k e.symm with h1 | h1 <;> omega
  · refine (hg.block k (by omega) fun e => ?_).trans (h.other k hk hne)
    rcases hr k e.symm with h1 | h1 <;> omega
theorem common_spec (A : Option Addr) (a : List ByteArray) (c : Nat) (A' : Option Addr) (b : List ByteArray) (c' : Nat) (w : World) (hal : a.length ≤ 24) (hbl : b.length ≤ 24) (hsa : Sl strE w A a) (hsb : Sl strE w A' b) (ham : ∀ s ∈ a, s.size ≤ 1000) (hbm : ∀ s ∈ b, s.size ≤ 1000) :
    Calls Tryz.prog 46 #[.slice A a.length c, .slice A' b.length c'] w fun e w' => ∃ v, e = .returned v ∧ Own pairE 93 w.heap.size w' v (File.common a b) ∧ Below w.heap.size w w' := by
  have HL := Lib.hid (fun w1 hb => lens_spec A a c A' b c' w1 hal hbl (Sl.below (w' := w1) hsa hb) (hsb.below hb))
  go_enter Tryz.func46, Tryz.ntmps46
  have hmm := @run_makeMap Tryz.prog
  have hBA : Below w.heap.size w (w.alloc (Obj.cells #[Value.slice A a.length c] 36)) := (Below.refl _ _).alloc (Nat.le_refl _) _
  have hC0 : Blk (w.alloc (Obj.cells #[Value.slice A a.length c] 36)) w.heap.size 36 #[.slice A a.length c] := Blk.new _ _ _
  go_wp2_with (go_at_call 105; refine (HL.out _ hBA).mono ?_)
  rintro e w1 ⟨g, rfl, hG, hb1⟩
  have hgl : w.heap.size < w1.heap.size := by have := hb1.size; simp at this; omega
  have hC1 : Blk w1 w.heap.size 36 #[.slice A a.length c] := hC0.under hb1
  have hb2 := Lib.hid (hBA.next hb1 (by simp))
  have hgs : g < w1.heap.size := by obtain ⟨_, h, _⟩ := hG; exact h.lt
  clear HL hC0 hBA hb1
  go_wp2_with fail
  have hW0 := Lib.hid (where_nil (w1.alloc (.cells #[.pointer (some ⟨g, 0, none⟩)] 165)) (.cells #[.map (some (w1.heap.size + 1))] 167))
  have hP := Lib.hid (((Blk.new w1 165 #[.pointer (some ⟨g, 0, none⟩)]).alloc (.map #[] 0)).alloc (.cells #[.map (some (w1.heap.size + 1))] 167))
  have hM := Lib.hid (Blk.new ((w1.alloc (.cells #[.pointer (some ⟨g, 0, none⟩)] 165)).alloc (.map #[] 0)) 167 #[.map (some (w1.heap.size + 1))])
  have hb3 := Lib.hid ((((Below.refl w1.heap.size w1).alloc (Nat.le_refl _) (.cells #[.pointer (some ⟨g, 0, none⟩)] 165)).alloc (by simp) (.map #[] 0)).alloc (by simp; omega) (.cells #[.map (some (w1.heap.size + 1))] 167))
  have hsz : (((w1.alloc (.cells #[.pointer (some ⟨g, 0, none⟩)] 165)).alloc (.map #[] 0)).alloc (.cells #[.map (some (w1.heap.size + 1))] 167)).heap.size = w1.heap.size + 3 := by simp
  have hM' := hM.out
  simp at hM' hW0
  generalize (((w1.alloc (.cells #[.pointer (some ⟨g, 0, none⟩)] 165)).alloc (.map #[] 0)).alloc (.cells #[.map (some (w1.heap.size + 1))] 167)) = w2 at *
  clear hM
  go_loopw [17] (fun v wS => ∃ (k : Nat), k ≤ b.length ∧ v = iv (k : Int) ∧ Hid (Where wS (w1.heap.size + 1) (w1.heap.size + 3) (b.take k)) ∧ Hid (Only (w1.heap.size + 1) w2 wS)) (fun v _ => b.length - (intOf v).toNat)
  case atStart =>
    have h0 : Hid (Where w2 (w1.heap.size + 1) (w1.heap.size + 3) (b.take 0)) := hW0
    exact ⟨0, Nat.zero_le _, rfl, h0, Only.refl _ _⟩
  case round =>
    obtain ⟨k, hk, rfl, HW, HO⟩ := hrel
    have hgr : w2.heap.size ≤ wr.heap.size := HO.out.below.size
    have hC2 : Blk wr w.heap.size 36 #[.slice A a.length c] := Blk.only ((Blk.below hC1 hb3.out hgl)) (by omega) HO.out
    have hM2 : Blk wr (w1.heap.size + 1 + 1) 167 #[.map (some (w1.heap.size + 1))] := Blk.only hM' (by omega) HO.out
    by_cases hlt : k < b.length
    · have hbw : Below w.heap.size w wr := (hb2.out.trans (hb3.out.mono (by omega))).trans (HO.out.below.mono (by omega))
      obtain ⟨ba, off, s, rfl, hba, hx, hc0⟩ := Sl.atS (hsb.below hbw) hlt
      have hsm : s.size ≤ maxLen := by have := hbm s (List.mem_of_getElem? hx); unfold maxLen; omega
      have hlw : w1.heap.size + 3 ≤ wr.heap.size := by omega
      have hbd : Below wr.heap.size wr wr.drew := (Below.refl _ _).drew
      have hM2 := Blk.under hM2 hbd
      obtain ⟨n, D, hn, hG2, hR⟩ := Where.below HW.out hbd
      have HR := Lib.hid hR
      have HG2 := Lib.hid hG2
      have hnl : n < maxLen := by simp at hn; unfold maxLen; omega
      have hn' := Lib.hid hn
      have hS0 : wr.drew.cell? ⟨w1.heap.size + 1 + 1, 0, none⟩ = some (.map (some (w1.heap.size + 1))) := hM2.cell 0
      obtain ⟨v0, zs0, v2, zs2, hrun0, hrun2, L0, L2⟩ := look_both (.cells #[iv k] 3) HG2.out hnl hsm
      have hrun3 : (Instr.lookup 167 (.map (some (w1.heap.size + 1))) (.string s) false).run Tryz.prog (wr.alloc (.cells #[iv k] 3)).drew = .ok v2 (wr.alloc (.cells #[iv k] 3)).drew := hrun2
      clear hR hG2 hn HW
      go_upto_region 6 with fail
      go_region_held3 (fun a => a.cell? ⟨w1.heap.size + 1 + 1, 0, none⟩ = some (.map (some (w1.heap.size + 1)))) (first | assumption | exact (Blk.alloc hM2 _).cell 0)
        (first
          | (refine stepAppW rfl _ _ rfl (w := wr.drew) k (by omega) rfl L0.own (by have := hn'.out; have := L0.len; simp at *; omega) rfl rfl rfl (by simp; omega) ?_; intro v1 w3 hoi1 hgr1 hloc1; have hM3 := Blk.row (Blk.alloc hM2 _) L0.own hgr1 (by omega); have hS1 := Blk.cell hM3 0; obtain ⟨w4, hrun4, hG4, hgr4⟩ := L0.back w3 v1 _ hgr1 hoi1 (by have := L0.len; simp; omega) hloc1; have hM4 := Blk.turned hM3 hgr4 (by omega); have hS4 := Blk.cell hM4 0; have LL := L0)
          | (refine stepAppW rfl _ _ rfl (w := wr.drew) k (by omega) rfl L2.own (by have := hn'.out; have := L2.len; simp at *; omega) rfl rfl rfl (by simp; omega) ?_; intro v1 w3 hoi1 hgr1 hloc1; have hM3 := Blk.row (Blk.alloc hM2 _) L2.own hgr1 (by omega); have hS1 := Blk.cell hM3 0; obtain ⟨w4, hrun4, hG4, hgr4⟩ := L2.back w3 v1 _ hgr1 hoi1 (by have := L2.len; simp; omega) hloc1; have hM4 := Blk.turned hM3 hgr4 (by omega); have hS4 := Blk.cell hM4 0; have LL := L2))
      all_goals
        have hlk : (b.take k).length = k := by simp; omega
        have hW5 : Hid (Where w4 (w1.heap.size + 1) (w1.heap.size + 3) (b.take (k + 1))) := by
          rw [show b.take (k + 1) = b.take k ++ [s] by rw [List.take_add_one, hx]; rfl]
          exact where_snoc hlk hn'.out (groups_map HG2.out) HR.out hsm LL.at_ LL.own hoi1 hG4
        have hO5 : Hid (Only (w1.heap.size + 1) w2 w4) := by
          refine Only.grown (Only.grown (Only.grown (Only.drew HO.out) (World.grownBy_alloc _ (.cells #[iv k] 3) none) (by simp) (by omega)) hgr1 (fun j hj => .inl ?_) (by omega)) hgr4 (fun j hj => .inr (by simpa using hj.symm)) (by omega)
          have := (LL.own.1.lt j hj).1
          omega
        clear hlk hoi1 hgr1 hloc1 hM3 hS1 hrun4 hG4 hgr4 hM4 hS4 LL L0 L2 hrun0 hrun2 hrun3 HG2 HR hn'
        go_wp2_with fail
        go_roundw
        case rel => exact ⟨k + 1, by omega, by go_num, hW5, hO5⟩
        case measure => simp [intOf]; omega
    · have hke : k = b.length := by omega
      have hbw : Below w.heap.size w wr := (hb2.out.trans (hb3.out.mono (by omega))).trans (HO.out.below.mono (by omega))
      have hb13 : Below w1.heap.size w1 wr := hb3.out.trans (HO.out.below.mono (by omega))
      have hP2 : Blk wr w1.heap.size 165 #[bp g] := Blk.only hP.out (by omega) HO.out
      have hWb : Where wr (w1.heap.size + 1) (w1.heap.size + 3) b := by have := HW.out; rw [hke, List.take_length] at this; exact this
      have HSC : Hid (Scene wr w.heap.size w1.heap.size (w1.heap.size + 1 + 1) g (w1.heap.size + 1) (w1.heap.size + 3) A c a b) :=
        ⟨hal, hbl, ham, hP2, hC2, hM2, hG.below hb13, by omega, hWb, hsa.below hbw⟩
      have hb4 : Below wr.heap.size wr ((wr.alloc (.cells #[.slice none 0 0] 90)).alloc (.cells #[.func (.func 106) #[] #[bp w1.heap.size, bp w.heap.size, bp (w1.heap.size + 1 + 1), bp wr.heap.size, bp (wr.heap.size + 1)]] 168)) := ((Below.refl _ _).alloc (Nat.le_refl _) _).alloc (by simp) _
      have hO4 : Blk ((wr.alloc (.cells #[.slice none 0 0] 90)).alloc (.cells #[.func (.func 106) #[] #[bp w1.heap.size, bp w.heap.size, bp (w1.heap.size + 1 + 1), bp wr.heap.size, bp (wr.heap.size + 1)]] 168)) wr.heap.size 90 #[.slice none 0 0] := (Blk.new _ _ _).alloc _
      have hF4 : Blk ((wr.alloc (.cells #[.slice none 0 0] 90)).alloc (.cells #[.func (.func 106) #[] #[bp w1.heap.size, bp w.heap.size, bp (w1.heap.size + 1 + 1), bp wr.heap.size, bp (wr.heap.size + 1)]] 168)) (wr.heap.size + 1) 168 #[.func (.func 106) #[] #[bp w1.heap.size, bp w.heap.size, bp (w1.heap.size + 1 + 1), bp wr.heap.size, bp (wr.heap.size + 1)]] := Blk.new_ _ _ _ (by simp)
      clear hC2 hM2 hP2 hWb HW HO hG hb13
      go_wp2_with fail
      refine (more_spec HSC (a.length + 1) 0 0 [] (.slice none 0 0) _ (by omega) (Nat.zero_le _) (Nat.zero_le _) (by simp; omega) hb4 hO4 hF4 Own.nil).mono ?_
      rintro e w5 ⟨rfl, hb5, v5, hv5, hw5⟩
      have hbF : Below w.heap.size w w5 := hbw.next hb5 (Nat.le_refl _)
      have c9 := hv5.cell 0
      have hwF : Own pairE 93 w.heap.size w5 v5 (File.common a b) := Own.base hw5 (by have := hbw.size; omega)
      clear hw5 hv5 hb5 hO4 hF4 hb4 HSC
      go_wp2_with fail
      go_ret
      exact ⟨v5, rfl, hwF, hbF⟩
end Fl
end Go.Proofs.YtkmcacgeecfjgaaGreatDoor
end
section
namespace Go.Proofs.YtkmcacgeecfjgaaGreatDoor
namespace Fl
open Go.RowKit Go.Maps Go.WideMaps Go.ChangeShapes
set_option maxRecDepth 100000
/-- The error of two files. -/
def errOf (a b : List ByteArray) : Int := if File.check a = 0 then File.check b else File.check a
theorem tyArr2 : SlTy Tryz.prog 44 47 2 := slTy_of (z := .agg #[iv 0, iv 0]) (bytes := 16) Tryz.underlying44 (by kernel_rfl) rfl (by decide)
theorem err_good {a b : List ByteArray} (h : errOf a b = 0) : File.check a = 0 ∧ File.check b = 0 := by
  unfold errOf at h
  split at h
  · exact ⟨by assumption, h⟩
  · omega
theorem Common_spec (A : Option Addr) (a : List ByteArray) (c : Nat) (A' : Option Addr) (b : List ByteArray) (c' : Nat) (w : World) (ha : a.length ≤ big) (hb : b.length ≤ big) (hsa : Sl strE w A a) (hsb : Sl strE w A' b) :
    Calls Tryz.prog 14 #[.slice A a.length c, .slice A' b.length c'] w fun e w' => ∃ v, e = .returned (.tuple #[v, iv (errOf a b)]) ∧ Own pairE 47 w.heap.size w' v (if errOf a b = 0 then File.common a b else []) ∧ Below w.heap.size w w' := by
  have HB := Lib.hid (both_spec A a c A' b c' w ha hb hsa hsb)
  by_cases h : errOf a b = 0
  · have h1 := err_good h
    have g1 := good_of_check h1.1
    have g2 := good_of_check h1.2
    rw [h, if_pos rfl]
    have HB2 : Hid (Calls Tryz.prog 41 #[.slice A a.length c, .slice A' b.length c'] w fun e w' => e = .returned (iv 0) ∧ Below w.heap.size w w') := Lib.hid (HB.out.mono (by rintro e w' ⟨rfl, hb'⟩; exact ⟨by rw [show (if File.check a = 0 then File.check b else File.check a) = 0 from h], hb'⟩))
    clear HB h
    go_enter Tryz.func14, Tryz.ntmps14
    go_wp2_with fail
    refine HB2.out.mono ?_
    rintro e w1 ⟨rfl, hb1⟩
    go_wp2_with fail
    refine (common_spec A a c A' b c' w1 g1.many g2.many (hsa.below hb1) (hsb.below hb1) (fun s hs => Nat.le_trans (g1.wide s hs) (by decide)) (fun s hs => Nat.le_trans (g2.wide s hs) (by decide))).mono ?_
    rintro e w2 ⟨v, rfl, hv, hb2⟩
    obtain ⟨X, cx, rfl, hcx, hmx⟩ := hv.form
    have hb02 : Below w.heap.size w w2 := hb1.next hb2 (Nat.le_refl _)
    have hsl := hv.sl
    have hll : (File.common a b).length ≤ 24 := by rw [File.common_length]; exact Nat.le_trans (File.lcs_most a b) g1.many
    obtain ⟨l, hl⟩ : ∃ l, l = File.common a b := ⟨_, rfl⟩
    rw [← hl] at hsl hll
    rw [← hl]
    have HL := Lib.hid hl
    clear hl hv
    go_wp2_with fail
    go_loopw [7, 20] (fun u i wr => ∃ k : Nat, k ≤ l.length ∧ i = iv (k : Int) ∧ Hid (Own pairE 47 w2.heap.size wr u (l.take k)) ∧ Hid (Below w2.heap.size w2 wr)) (fun _ i _ => l.length - (intOf i).toNat)
    case atStart => exact ⟨0, Nat.zero_le _, rfl, Own.nil, Below.refl _ _⟩
    case round =>
      obtain ⟨k, hk, rfl, HO, HBR⟩ := hrel
      by_cases hlt : k < l.length
      · obtain ⟨bx, ox, p, rfl, hbx, hp, hc⟩ := Sl.at_ (hsl.below HBR.out) hlt
        obtain ⟨x, y⟩ := p
        have q0 : wr.cell? ⟨bx, ox + k * 2, none⟩ = some (iv (x : Int)) := by simpa [pairE] using hc 0 (iv (x : Int)) rfl
        have q1 : wr.cell? ⟨bx, ox + k * 2 + 1, none⟩ = some (iv (y : Int)) := by simpa [pairE] using hc 1 (iv (y : Int)) rfl
        have hzr := HBR.out.size
        clear hc
        go_upto_region 8 with fail
        have hNb : Below wr.heap.size wr (wr.alloc (.cells #[Value.int .i64 (x : Int), Value.int .i64 (y : Int)] 93)) := (Below.refl _ _).alloc (Nat.le_refl _) _
        have hNx : Blk (wr.alloc (.cells #[Value.int .i64 (x : Int), Value.int .i64 (y : Int)] 93)) wr.heap.size 93 #[iv (x : Int), iv (y : Int)] := Blk.new _ _ _
        generalize wr.alloc (.cells #[Value.int .i64 (x : Int), Value.int .i64 (y : Int)] 93) = wN at *
        have n0 := hNx.cell 0
        have n1 := hNx.cell 1
        have hzN := hNb.size
        have HON := Lib.hid (Own.below HO.out hNb)
        have HBN := Lib.hid (HBR.out.next hNb (Nat.le_refl _))
        have hkl : (l.take k).length + 1 ≤ big := by rw [List.length_take]; unfold big; omega
        have htk : Hid (l.take (k + 1) = l.take k ++ [(x, y)]) := Lib.hid (by rw [List.take_add_one, hp]; rfl)
        clear q0 q1 HO HBR hNb hp
        go_wp2_with (first
          | (at_builtin; refine wpApp1 pairE tyArr2 rfl _ _ rfl HON.out (x, y) rfl rfl rfl (by omega) hkl ?_; intro v1 w4 hown1 hb1 hk1))
        go_roundw
        case rel => exact ⟨k + 1, by omega, by go_num, by rw [htk.out]; exact hown1, HBN.out.trans hb1⟩
        case measure => simp [intOf]; omega
      · have hke : k = l.length := by omega
        have hOF := HO.out
        rw [hke, List.take_length] at hOF
        have hbF : Below w.heap.size w wr := hb02.next HBR.out (Nat.le_refl _)
        have hOw := Lib.hid (Own.base hOF hb02.size)
        clear HO hOF HBR
        go_wp2_with fail
        go_ret2
        refine ⟨_, rfl, ?_, hbF⟩
        rw [← HL.out]
        exact hOw.out
  · rw [if_neg h]
    have HB2 : Hid (Calls Tryz.prog 41 #[.slice A a.length c, .slice A' b.length c'] w fun e w' => e = .returned (iv (errOf a b)) ∧ Below w.heap.size w w') := Lib.hid HB.out
    clear HB
    obtain ⟨r, hr⟩ : ∃ r, r = errOf a b := ⟨_, rfl⟩
    rw [← hr] at HB2 h
    rw [← hr]
    have hne : (r != 0) = true := by simpa using h
    clear hr h
    go_enter Tryz.func14, Tryz.ntmps14
    go_wp2_with fail
    refine HB2.out.mono ?_
    rintro e w1 ⟨rfl, hb1⟩
    go_wp2_with fail
    go_ret2
    exact ⟨_, rfl, Own.nil, hb1⟩
end Fl
end Go.Proofs.YtkmcacgeecfjgaaGreatDoor
end
section
namespace Go.Proofs.YtkmcacgeecfjgaaGreatDoor
namespace Fl
open Go.RowKit Go.Maps Go.WideMaps Go.ChangeShapes
set_option maxRecDepth 100000
theorem err_zero {a b : List ByteArray} (h : errOf a b = 0) {A A' : Option Addr} {c c' : Nat} {w : World} (H : Calls Tryz.prog 41 #[.slice A a.length c, .slice A' b.length c'] w fun e w' => e = .returned (iv (if File.check a = 0 then File.check b else File.check a)) ∧ Below w.heap.size w w') :
    Calls Tryz.prog 41 #[.slice A a.length c, .slice A' b.length c'] w fun e w' => e = .returned (iv 0) ∧ Below w.heap.size w w' :=
  H.mono (by rintro e w' ⟨rfl, hb'⟩; exact ⟨by rw [show (if File.check a = 0 then File.check b else File.check a) = 0 from h], hb'⟩)
theorem results_row_tmp {fn : Func} {p u : Tmp} {ty : TypeId} (h : fn.results = #[.cell p ty, .tmp u]) (tmps : Array Value) (w : World) (g : Nat) (v : Value)
    (hp : tmps.getD p undef = .pointer (some ⟨g, 0, none⟩)) (hl : (loadVar ty ⟨g, 0, none⟩).run Tryz.prog w = .ok v w) :
    (results fn tmps).run Tryz.prog w = .ok (.tuple #[v, tmps.getD u undef]) w := by
  have hp' : tmps[p]?.getD undef = .pointer (some ⟨g, 0, none⟩) := by simpa using hp
  simp [results, h, hp', asAddr, hl]
theorem ratio_row {w : World} {g : Nat} {x y : Value} (h : Blk w g 99 #[x, y]) : (loadVar 99 ⟨g, 0, none⟩).run Tryz.prog w = .ok (.agg #[x, y]) w :=
  run_loadVar_row w g 99 99 #[x, y] (0, 0) _ h Tryz.underlying99 (by rfl) (by kernel_rfl)
theorem quot_in {p x : Nat} (hp : p ≤ 48) : IntKind.i64.wrap ((p / x : Nat) : Int) = ((p / x : Nat) : Int) := by
  have h := Nat.div_le_self p x
  have h3 : ((p / x : Nat) : Int) ≤ 48 := by omega
  have h4 : (0 : Int) ≤ ((p / x : Nat) : Int) := Int.natCast_nonneg _
  generalize ((p / x : Nat) : Int) = z at *
  exact IntWalk.i64_in _ (by omega)
/-- What Alike answers. -/
def alikeOf (a b : List ByteArray) : Int × Int × Int :=
  if errOf a b = 0 then
    if a.length + b.length = 0 then (0, 0, 6)
    else (((2 * (File.common a b).length / Nat.gcd (2 * (File.common a b).length) (a.length + b.length) : Nat) : Int), (((a.length + b.length) / Nat.gcd (2 * (File.common a b).length) (a.length + b.length) : Nat) : Int), 0)
  else (0, 0, errOf a b)
theorem Alike_spec (A : Option Addr) (a : List ByteArray) (c : Nat) (A' : Option Addr) (b : List ByteArray) (c' : Nat) (w : World) (ha : a.length ≤ big) (hb : b.length ≤ big) (hsa : Sl strE w A a) (hsb : Sl strE w A' b) :
    Calls Tryz.prog 49 #[.slice A a.length c, .slice A' b.length c'] w fun e w' => e = .returned (.tuple #[.agg #[iv (alikeOf a b).1, iv (alikeOf a b).2.1], iv (alikeOf a b).2.2]) ∧ Below w.heap.size w w' := by
  have hR : Below w.heap.size w (w.alloc (.cells #[Value.int .i64 0, Value.int .i64 0] 99)) := (Below.refl _ _).alloc (Nat.le_refl _) _
  have hRb : Blk (w.alloc (.cells #[Value.int .i64 0, Value.int .i64 0] 99)) w.heap.size 99 #[iv 0, iv 0] := Blk.new _ _ _
  have HB := Lib.hid (both_spec A a c A' b c' (w.alloc (.cells #[Value.int .i64 0, Value.int .i64 0] 99)) ha hb (hsa.below hR) (hsb.below hR))
  unfold alikeOf
  by_cases h : errOf a b = 0
  · have h1 := err_good h
    have g1 := good_of_check h1.1
    have g2 := good_of_check h1.2
    have m1 := g1.many
    have m2 := g2.many
    rw [if_pos h]
    have HB2 := Lib.hid (err_zero h HB.out)
    clear HB h
    by_cases hz : a.length + b.length = 0
    · rw [if_pos hz]
      have hq : ((a.length : Int) + b.length == 0) = true := by simp; omega
      clear hz
      go_enter Tryz.func49, Tryz.ntmps49
      go_wp2_with fail
      refine HB2.out.mono ?_
      rintro e w1 ⟨rfl, hb1⟩
      have hb2 := hR.next hb1 (Nat.le_refl _)
      have r0 := (hRb.under hb1).cell 0
      have r1 := (hRb.under hb1).cell 1
      have f0 := (hRb.under hb1).frozen 0
      have f1 := (hRb.under hb1).frozen 1
      go_wp2_with fail
      exact bodyPost_ret (results_row_tmp (fn := Tryz.f49) (p := 4) (u := 5) (ty := 99) (by kernel_rfl) _ _ w.heap.size _ (by rfl) (ratio_row (((hRb.under hb1).set_ 0 (iv 0)).set_ 1 (iv 0)))) rfl ⟨rfl, (hb2.setCell (p := ⟨w.heap.size, 0, none⟩) (Nat.le_refl _) _).setCell (p := ⟨w.heap.size, 1, none⟩) (Nat.le_refl _) _⟩
    · rw [if_neg hz]
      have hq : ((a.length : Int) + b.length == 0) = false := by simp; omega
      go_enter Tryz.func49, Tryz.ntmps49
      go_wp2_with fail
      refine HB2.out.mono ?_
      rintro e w1 ⟨rfl, hb1⟩
      go_wp2_with fail
      have HRB := Lib.hid (hRb.under hb1)
      have hb2 := hR.next hb1 (Nat.le_refl _)
      refine (common_spec A a c A' b c' w1 m1 m2 (hsa.below hb2) (hsb.below hb2) (fun s hs => Nat.le_trans (g1.wide s hs) (by decide)) (fun s hs => Nat.le_trans (g2.wide s hs) (by decide))).mono ?_
      rintro e w2 ⟨v, rfl, hv, hb3⟩
      obtain ⟨X, cx, rfl, hcx, hmx⟩ := hv.form
      have hb4 : Below w.heap.size w w2 := hb2.next hb3 (Nat.le_refl _)
      have hll : (File.common a b).length ≤ 24 := by rw [File.common_length]; exact Nat.le_trans (File.lcs_most a b) g1.many
      obtain ⟨n, hl⟩ : ∃ n, n = (File.common a b).length := ⟨_, rfl⟩
      rw [← hl] at hll
      rw [← hl]
      have HL := Lib.hid hl
      have HRB2 := Lib.hid (Blk.under HRB.out hb3)
      clear hl hv
      go_wp2_with fail
      obtain ⟨D, hD⟩ : ∃ D, D = Nat.gcd (2 * n) (a.length + b.length) := ⟨_, rfl⟩
      go_loopw [9, 10] (fun u v wr => ∃ x y : Nat, x ≤ 48 ∧ y ≤ 48 ∧ u = iv (x : Int) ∧ v = iv (y : Int) ∧ Hid (Nat.gcd x y = D) ∧ Below w2.heap.size w2 wr) (fun _ v _ => (intOf v).toNat)
      case atStart => exact ⟨2 * n, a.length + b.length, by omega, by omega, by simp, by simp, hD.symm, Below.refl _ _⟩
      case round =>
        obtain ⟨x, y, hx, hy, rfl, rfl, HG, hbr⟩ := hrel
        by_cases hlt : 0 < y
        · have hy0 : ¬ ((y : Int) = 0) := by omega
          have hyq : ((y : Int) == 0) = false := by simp; omega
          have hlt' : (0 : Int) < (y : Int) := by omega
          have hmod : Int.tmod (x : Int) (y : Int) = ((x % y : Nat) : Int) := by rw [Int.tmod_eq_emod_of_nonneg (by omega)]; rfl
          have hml : x % y < y := Nat.mod_lt _ hlt
          have HGn : Hid (Nat.gcd y (x % y) = D) := Lib.hid (by have := HG.out; rw [Nat.gcd_comm, Nat.gcd_rec] at this; rw [Nat.gcd_comm]; exact this)
          go_upto_region 9 with fail
          go_quiet (fail)
          go_wp2_with fail
          refine ⟨⟨y, x % y, hy, by omega, rfl, by simp, HGn, ⟨hbr.os, hbr.tape, hbr.output, hbr.size, hbr.block⟩⟩, ?_⟩
          simp only [intOf]
          omega
        · have hy0 : y = 0 := by omega
          subst hy0
          have hxD : x = D := by have := HG.out; rw [Nat.gcd_zero_right] at this; exact this
          have hDp : 0 < D := by rw [hD]; exact Nat.gcd_pos_of_pos_right _ (by omega)
          have hxq : ((x : Int) == 0) = false := by simp; omega
          have hx0 : ¬ ((x : Int) = 0) := by omega
          have hxn : ¬ x = 0 := by omega
          have hxp : (0 : Int) < (x : Int) := by omega
          have hdx : Hid (2 * n / x = 2 * (File.common a b).length / Nat.gcd (2 * (File.common a b).length) (a.length + b.length) ∧ (a.length + b.length) / x = (a.length + b.length) / Nat.gcd (2 * (File.common a b).length) (a.length + b.length)) := Lib.hid (by rw [hxD, hD, HL.out]; exact ⟨rfl, rfl⟩)
          have hbz : Below w.heap.size w wr := hb4.next hbr (Nat.le_refl _)
          have Q : Hid (2 * (n : Int) / (x : Int) = ((2 * n / x : Nat) : Int) ∧ ((a.length : Int) + b.length) / (x : Int) = (((a.length + b.length) / x : Nat) : Int) ∧ Int.tdiv (2 * (n : Int)) (x : Int) = ((2 * n / x : Nat) : Int) ∧ Int.tdiv ((a.length : Int) + b.length) (x : Int) = (((a.length + b.length) / x : Nat) : Int) ∧
              IntKind.i64.wrap ((2 * n / x : Nat) : Int) = ((2 * n / x : Nat) : Int) ∧ IntKind.i64.wrap (((a.length + b.length) / x : Nat) : Int) = (((a.length + b.length) / x : Nat) : Int) ∧ (∀ z, wrap64 z = IntKind.i64.wrap z)) := Lib.hid (by
            refine ⟨by simp, by simp, by rw [Int.tdiv_eq_ediv_of_nonneg (by omega)]; simp, by rw [Int.tdiv_eq_ediv_of_nonneg (by omega)]; simp, quot_in (by omega), quot_in (by omega), fun z => (IntWalk.i64_left z).symm⟩)
          clear hxD hD hDp
          have HRr := Blk.under (Blk.under HRB2.out hbr) ((Below.refl _ wr).drew)
          have r0 : wr.drew.cell? ⟨w.heap.size, 0, none⟩ = some (iv 0) := HRr.cell 0
          have r1 : wr.drew.cell? ⟨w.heap.size, 1, none⟩ = some (iv 0) := HRr.cell 1
          have f0 := HRr.frozen 0
          have f1 := HRr.frozen 1
          have HRs := Blk.under HRB2.out hbr
          have s0 : wr.cell? ⟨w.heap.size, 0, none⟩ = some (iv 0) := HRs.cell 0
          have s1 : wr.cell? ⟨w.heap.size, 1, none⟩ = some (iv 0) := HRs.cell 1
          have t0 := HRs.frozen 0
          have t1 := HRs.frozen 1
          go_upto_region 10 with fail
          go_region_held3 (fun _ => True) (trivial) (fail)
          all_goals
            go_wp2_with fail
            obtain ⟨z1, z2, z3, z4, z5, z6, z7⟩ := Q.out
            simp only [z7, z1, z2, z3, z4, z5, z6]
            rw [hdx.out.1, hdx.out.2]
            exact bodyPost_ret (results_row_tmp (fn := Tryz.f49) (p := 4) (u := 5) (ty := 99) (by kernel_rfl) _ _ w.heap.size _ (by rfl) (ratio_row (Blk.under ((HRs.set_ 0 (iv _)).set_ 1 (iv _)) ((Below.refl _ _).drew)))) rfl ⟨rfl, ((hbz.setCell (p := ⟨w.heap.size, 0, none⟩) (Nat.le_refl _) _).setCell (p := ⟨w.heap.size, 1, none⟩) (Nat.le_refl _) _).drew⟩
  · rw [if_neg h]
    have HB2 : Hid (Calls Tryz.prog 41 #[.slice A a.length c, .slice A' b.length c'] (w.alloc (.cells #[Value.int .i64 0, Value.int .i64 0] 99)) fun e w' => e = .returned (iv (errOf a b)) ∧ Below (w.alloc (.cells #[Value.int .i64 0, Value.int .i64 0] 99)).heap.size (w.alloc (.cells #[Value.int .i64 0, Value.int .i64 0] 99)) w') := Lib.hid HB.out
    clear HB
    obtain ⟨r, hr⟩ : ∃ r, r = errOf a b := ⟨_, rfl⟩
    rw [← hr] at HB2 h
    rw [← hr]
    have hne : (r != 0) = true := by simpa using h
    clear hr h
    go_enter Tryz.func49, Tryz.ntmps49
    go_wp2_with fail
    refine HB2.out.mono ?_
    rintro e w1 ⟨rfl, hb1⟩
    have hb2 := hR.next hb1 (Nat.le_refl _)
    have r0 := (hRb.under hb1).cell 0
    have r1 := (hRb.under hb1).cell 1
    have f0 := (hRb.under hb1).frozen 0
    have f1 := (hRb.under hb1).frozen 1
    go_wp2_with fail
    exact bodyPost_ret (results_row_tmp (fn := Tryz.f49) (p := 4) (u := 5) (ty := 99) (by kernel_rfl) _ _ w.heap.size _ (by rfl) (ratio_row (((hRb.under hb1).set_ 0 (iv 0)).set_ 1 (iv 0)))) rfl ⟨rfl, (hb2.setCell (p := ⟨w.heap.size, 0, none⟩) (Nat.le_refl _) _).setCell (p := ⟨w.heap.size, 1, none⟩) (Nat.le_refl _) _⟩
end Fl
end Go.Proofs.YtkmcacgeecfjgaaGreatDoor
end
section
namespace Go.Proofs.YtkmcacgeecfjgaaGreatDoor
namespace File
set_option linter.unusedSectionVars false
section
variable {α : Type} [DecidableEq α]
structure Edit (α : Type) where
  at_ : Int
  old : List α
  new : List α
deriving DecidableEq
def cut (a : List α) (i k : Nat) : List α := (a.drop i).take (k - i)
def diffGo (a b : List α) : Nat → Nat → List (Nat × Nat) → List (Edit α)
  | _, _, [] => []
  | i, j, p :: r => (if p.1 = i ∧ p.2 = j then [] else [⟨(i : Int), cut a i p.1, cut b j p.2⟩]) ++ diffGo a b (p.1 + 1) (p.2 + 1) r
/-- The change of a file into another one. -/
def diff (a b : List α) : List (Edit α) := diffGo a b 0 0 (common a b ++ [(a.length, b.length)])
def made (f : List α) (x : Edit α) : List α := f.take x.at_.toNat ++ (x.new ++ f.drop (x.at_.toNat + x.old.length))
/-- What a change makes of a file, the last edit first. -/
def make (f : List α) (c : List (Edit α)) : List α := c.foldr (fun x g => made g x) f
def backGo : Int → List (Edit α) → List (Edit α)
  | _, [] => []
  | n, x :: r => ⟨x.at_ + n, x.new, x.old⟩ :: backGo (n + x.new.length - x.old.length) r
def back (c : List (Edit α)) : List (Edit α) := backGo 0 c
theorem cut_length {a : List α} {i k : Nat} (hk : k ≤ a.length) (h : i ≤ k) : (cut a i k).length = k - i := by
  unfold cut; rw [List.length_take, List.length_drop]; omega
def swap (l : List (Nat × Nat)) : List (Nat × Nat) := l.map fun p => (p.2, p.1)
end
end File
end Go.Proofs.YtkmcacgeecfjgaaGreatDoor
end
section
namespace Go.Proofs.YtkmcacgeecfjgaaGreatDoor
namespace Fl
open Go.RowKit Go.ChangeShapes
set_option maxRecDepth 100000
theorem cloneS (A : Option Addr) (l : List ByteArray) (c : Nat) (w : World) (hm : l.length ≤ big) (hs : Sl strE w A l) :
    Calls Tryz.prog 30 #[.slice A l.length c] w fun e w' => ∃ v, e = .returned v ∧ Own strE 9 w.heap.size w' v l ∧ Below w.heap.size w w' := by
  cases A with
  | none =>
    have hl : l = [] := by
      by_cases h : l = []
      · exact h
      · obtain ⟨_, _, h, _⟩ := hs h; cases h
    subst hl
    have hnil := fun w => Lib.run_eql_slice_nil (P := Tryz.prog) w 36 9 none 0 c 0 0 Tryz.underlying36
    go_enter Tryz.func30, Tryz.ntmps30
    go_wp2
    go_ret
    exact ⟨_, rfl, Own.nil, Below.refl _ _⟩
  | some ad =>
    have hnil := fun w => Lib.run_eql_slice_nil (P := Tryz.prog) w 36 9 (some ad) l.length c 0 0 Tryz.underlying36
    go_enter Tryz.func30, Tryz.ntmps30
    go_wp2_with (at_builtin; refine wpAppS strE tyStrs rfl _ _ rfl (Own.empty (Nat.le_refl _)) (hs.alloc _) rfl rfl (by simp) (by simpa using hm) ?_; intro v1 w1 hown1 hb1 _)
    go_ret
    exact ⟨_, rfl, by simpa using hown1, ((Below.refl _ _).alloc (Nat.le_refl _) _).trans hb1⟩
/-- An edit's cells. -/
structure RawEd where
  at_ : Int
  A : Option Addr
  n : Nat
  c : Nat
  A' : Option Addr
  n' : Nat
  c' : Nat
def rawE : Enc RawEd := ⟨fun r => [iv r.at_, .slice r.A r.n r.c, .slice r.A' r.n' r.c'], 3, fun _ => rfl, fun _ u h => by simp at h; rcases h with rfl | rfl | rfl <;> rfl, by decide⟩
theorem tyEdits : SlTy Tryz.prog 38 43 3 := slTy_of (z := .agg #[iv 0, .slice none 0 0, .slice none 0 0]) (bytes := 56) Tryz.underlying38 (by kernel_rfl) rfl (by decide)
/-- The cells r read as the edit x, whose lists are the call's own: their blocks lie from B on. -/
structure EdR (B : Nat) (w : World) (r : RawEd) (x : File.Edit ByteArray) : Prop where
  at_ : r.at_ = x.at_
  n : r.n = x.old.length
  n' : r.n' = x.new.length
  old : Own strE 9 B w (.slice r.A r.n r.c) x.old
  new : Own strE 9 B w (.slice r.A' r.n' r.c') x.new
/-- What leaves the blocks of strings from B on as they were. -/
def Strs (B : Nat) (w w' : World) : Prop := w.heap.size ≤ w'.heap.size ∧ ∀ g cs fr, B ≤ g → w.heap[g]? = some (.cells cs 9 fr) → w'.heap[g]? = w.heap[g]?
theorem Strs.below {B : Nat} {w w' : World} (h : Below w.heap.size w w') : Strs B w w' := ⟨h.size, fun g cs fr _ hg => h.block g (Array.getElem?_eq_some_iff.1 hg).1⟩
theorem Strs.own {B : Nat} {w w' : World} {v : Value} {xs : List ByteArray} (h : Strs B w w') (ho : Own strE 9 B w v xs) : Own strE 9 B w' v xs :=
  ho.keep h.1 fun b hb => by
    have hl := ho.lt b hb
    rcases ho.2 with ⟨rfl, _⟩ | ⟨g, cap, cur, rfl, hg, hc, _⟩
    · cases hb
    · simp only [Value.ownBlock, Option.some.injEq] at hb
      subst hb
      exact h.2 _ _ _ hl.1 hc
theorem EdR.keep {B : Nat} {w w' : World} {r : RawEd} {x : File.Edit ByteArray} (h : EdR B w r x) (hb : Strs B w w') : EdR B w' r x := ⟨h.at_, h.n, h.n', hb.own h.old, hb.own h.new⟩
theorem EdR.base {B B' : Nat} {w : World} {r : RawEd} {x : File.Edit ByteArray} (h : EdR B w r x) (hB : B' ≤ B) : EdR B' w r x := ⟨h.at_, h.n, h.n', h.old.base hB, h.new.base hB⟩
/-- A list of cells reads as a change. -/
def EdsR (B : Nat) (w : World) : List RawEd → List (File.Edit ByteArray) → Prop
  | [], [] => True
  | r :: rs, x :: xs => EdR B w r x ∧ EdsR B w rs xs
  | _, _ => False
theorem EdsR.keep {B : Nat} {w w' : World} (hb : Strs B w w') : ∀ {rs : List RawEd} {xs : List (File.Edit ByteArray)}, EdsR B w rs xs → EdsR B w' rs xs
  | [], [], _ => trivial
  | _ :: _, _ :: _, h => ⟨h.1.keep hb, EdsR.keep hb h.2⟩
theorem EdsR.base {B B' : Nat} {w : World} (hB : B' ≤ B) : ∀ {rs : List RawEd} {xs : List (File.Edit ByteArray)}, EdsR B w rs xs → EdsR B' w rs xs
  | [], [], _ => trivial
  | _ :: _, _ :: _, h => ⟨h.1.base hB, EdsR.base hB h.2⟩
theorem EdsR.snoc {B : Nat} {w : World} {r : RawEd} {x : File.Edit ByteArray} (h : EdR B w r x) : ∀ {rs : List RawEd} {xs : List (File.Edit ByteArray)}, EdsR B w rs xs → EdsR B w (rs ++ [r]) (xs ++ [x])
  | [], [], _ => ⟨h, trivial⟩
  | _ :: _, _ :: _, k => ⟨k.1, EdsR.snoc h k.2⟩
theorem EdsR.length {B : Nat} {w : World} : ∀ {rs : List RawEd} {xs : List (File.Edit ByteArray)}, EdsR B w rs xs → rs.length = xs.length
  | [], [], _ => rfl
  | _ :: _, _ :: _, h => by rw [List.length_cons, List.length_cons, EdsR.length h.2]
theorem EdsR.at_ {B : Nat} {w : World} : ∀ {rs : List RawEd} {xs : List (File.Edit ByteArray)} {k : Nat} {r : RawEd}, EdsR B w rs xs → rs[k]? = some r → ∃ x, xs[k]? = some x ∧ EdR B w r x
  | [], [], _, _, _, h => by simp at h
  | r :: _, x :: _, 0, _, h, e => by simp at e; subst e; exact ⟨x, rfl, h.1⟩
  | _ :: _, _ :: _, k + 1, _, h, e => by simpa using EdsR.at_ (k := k) h.2 (by simpa using e)
end Fl
end Go.Proofs.YtkmcacgeecfjgaaGreatDoor
end
section
namespace Go.Proofs.YtkmcacgeecfjgaaGreatDoor
namespace File
set_option linter.unusedSectionVars false
section
variable {α : Type} [DecidableEq α]
def Edit.lo (x : Edit α) : Nat := x.at_.toNat
def Edit.hi (x : Edit α) : Nat := x.at_.toNat + x.old.length
theorem Edit.lo_hi (x : Edit α) : x.lo ≤ x.hi := Nat.le_add_right _ _
/-- Edits that lie one behind the other, from a position on, with a line between them. -/
def Chain : Nat → List (Edit α) → Prop
  | _, [] => True
  | lo, x :: r => (lo : Int) ≤ x.at_ ∧ Chain (x.hi + 1) r
def Within (hi : Nat) (c : List (Edit α)) : Prop := ∀ x ∈ c, x.hi ≤ hi
theorem Chain.weaken : ∀ {c : List (Edit α)} {lo lo' : Nat}, Chain lo c → lo' ≤ lo → Chain lo' c
  | [], _, _, _, _ => trivial
  | _ :: _, _, _, ⟨h1, h2⟩, h => ⟨by omega, h2⟩
theorem Chain.pre : ∀ {c d : List (Edit α)} {lo : Nat}, Chain lo (c ++ d) → Chain lo c
  | [], _, _, _ => trivial
  | _ :: _, _, _, ⟨h1, h2⟩ => ⟨h1, Chain.pre h2⟩
theorem Chain.suf : ∀ {c : List (Edit α)} {x : Edit α} {r : List (Edit α)} {lo : Nat}, Chain lo (c ++ x :: r) → (lo : Int) ≤ x.at_ ∧ Chain x.lo (x :: r)
  | [], x, _, lo, ⟨h1, h2⟩ => ⟨h1, by show ((x.at_.toNat : Nat) : Int) ≤ x.at_; omega, h2⟩
  | y :: c, x, _, lo, ⟨h1, h2⟩ => by
    obtain ⟨h3, h4⟩ := Chain.suf (c := c) h2
    refine ⟨?_, h4⟩
    have : lo ≤ y.hi + 1 := by unfold Edit.hi; omega
    omega
theorem Chain.pos : ∀ {c : List (Edit α)} {lo : Nat}, Chain lo c → ∀ x ∈ c, (lo : Int) ≤ x.at_
  | y :: c, lo, ⟨h1, h2⟩, x, h => by
    rcases List.mem_cons.1 h with rfl | h
    · exact h1
    · have := Chain.pos h2 x h
      have : lo ≤ y.hi + 1 := by unfold Edit.hi; omega
      omega
theorem Within.mono {hi hi' : Nat} {c : List (Edit α)} (h : Within hi c) (hh : hi ≤ hi') : Within hi' c := fun x hx => Nat.le_trans (h x hx) hh
theorem chain_go {a b : List α} : ∀ (l : List (Nat × Nat)) (i j : Nat), Pairs a b i j l → i ≤ a.length → j ≤ b.length → Chain i (diffGo a b i j (l ++ [(a.length, b.length)])) ∧ Within a.length (diffGo a b i j (l ++ [(a.length, b.length)])) := by
  intro l
  induction l with
  | nil =>
    intro i j _ hi hj
    simp only [List.nil_append, diffGo, List.append_nil]
    split
    · exact ⟨trivial, fun x hx => by cases hx⟩
    · refine ⟨⟨by simp, trivial⟩, fun x hx => ?_⟩
      simp only [List.mem_singleton] at hx
      subst hx
      unfold Edit.hi
      simp only [Int.toNat_natCast, cut_length (Nat.le_refl a.length) hi]
      omega
  | cons p r ih =>
    intro i j ⟨h1, h2, ⟨h3, h4, h5⟩, h6⟩ hi hj
    obtain ⟨k1, k2⟩ := ih (p.1 + 1) (p.2 + 1) h6 (by omega) (by omega)
    simp only [List.cons_append, diffGo]
    split
    · exact ⟨by simpa using k1.weaken (by omega), by simpa using k2⟩
    · have hh : (Edit.mk (i : Int) (cut a i p.1) (cut b j p.2)).hi = p.1 := by
        unfold Edit.hi
        simp only [Int.toNat_natCast, cut_length (Nat.le_of_lt h3) h1]
        omega
      refine ⟨⟨by simp, ?_⟩, fun x hx => ?_⟩
      · rw [hh]; exact k1
      · rcases List.mem_cons.1 hx with rfl | hx
        · rw [hh]; omega
        · exact k2 x hx
theorem chain_diff (a b : List α) : Chain 0 (diff a b) := (chain_go (common a b) 0 0 (common_pairs a b) (Nat.zero_le _) (Nat.zero_le _)).1
theorem within_diff (a b : List α) : Within a.length (diff a b) := (chain_go (common a b) 0 0 (common_pairs a b) (Nat.zero_le _) (Nat.zero_le _)).2
theorem diffGo_len {a b : List α} : ∀ (l : List (Nat × Nat)) (i j : Nat), (diffGo a b i j l).length ≤ l.length
  | [], _, _ => Nat.le_refl _
  | p :: r, i, j => by
    have := diffGo_len (a := a) (b := b) r (p.1 + 1) (p.2 + 1)
    simp only [diffGo, List.length_append, List.length_cons]
    split <;> simp <;> omega
theorem diff_len (a b : List α) : (diff a b).length ≤ a.length + 1 := by
  have h := diffGo_len (a := a) (b := b) (common a b ++ [(a.length, b.length)]) 0 0
  rw [List.length_append, common_length] at h
  have := lcs_most a b
  simp only [List.length_singleton] at h
  exact Nat.le_trans h (by omega)
/-- The edits of two changes, in their order, each with its copy (true: the second one). -/
def mergeGo : Nat → List (Edit α) → List (Edit α) → List (Bool × Edit α)
  | 0, _, _ => []
  | _ + 1, [], [] => []
  | n + 1, [], y :: d => (true, y) :: mergeGo n [] d
  | n + 1, x :: c, [] => (false, x) :: mergeGo n c []
  | n + 1, x :: c, y :: d => if y.at_ < x.at_ then (true, y) :: mergeGo n (x :: c) d else (false, x) :: mergeGo n c (y :: d)
def merge (c d : List (Edit α)) : List (Bool × Edit α) := mergeGo (c.length + d.length) c d
/-- Those of one copy. -/
def filt (k : Bool) : List (Bool × Edit α) → List (Edit α)
  | [] => []
  | p :: r => if p.1 = k then p.2 :: filt k r else filt k r
theorem merge_filt : ∀ (n : Nat) (c d : List (Edit α)), c.length + d.length ≤ n → filt false (mergeGo n c d) = c ∧ filt true (mergeGo n c d) = d := by
  intro n
  induction n with
  | zero =>
    intro c d h
    have h1 : c = [] := List.eq_nil_of_length_eq_zero (by omega)
    have h2 : d = [] := List.eq_nil_of_length_eq_zero (by omega)
    subst h1 h2
    exact ⟨rfl, rfl⟩
  | succ n ih =>
    intro c d h
    cases c with
    | nil =>
      cases d with
      | nil => exact ⟨rfl, rfl⟩
      | cons y d =>
        obtain ⟨h1, h2⟩ := ih [] d (by simp at h ⊢; omega)
        simp only [mergeGo, filt]
        exact ⟨by simpa using h1, by simpa using h2⟩
    | cons x c =>
      cases d with
      | nil =>
        obtain ⟨h1, h2⟩ := ih c [] (by simp at h ⊢; omega)
        simp only [mergeGo, filt]
        exact ⟨by simpa using h1, by simpa using h2⟩
      | cons y d =>
        simp only [mergeGo]
        split
        · obtain ⟨h1, h2⟩ := ih (x :: c) d (by simp at h ⊢; omega)
          simp only [filt]
          exact ⟨by simpa using h1, by simpa using h2⟩
        · obtain ⟨h1, h2⟩ := ih c (y :: d) (by simp at h ⊢; omega)
          simp only [filt]
          exact ⟨by simpa using h1, by simpa using h2⟩
theorem filt_mem {l : List (Bool × Edit α)} {p : Bool × Edit α} (h : p ∈ l) : p.2 ∈ filt p.1 l := by
  induction l with
  | nil => cases h
  | cons q r ih =>
    simp only [filt]
    rcases List.mem_cons.1 h with rfl | h
    · simp
    · split
      · exact List.mem_cons_of_mem _ (ih h)
      · exact ih h
theorem mem_filt {k : Bool} {l : List (Bool × Edit α)} {x : Edit α} (h : x ∈ filt k l) : (k, x) ∈ l := by
  induction l with
  | nil => cases h
  | cons q r ih =>
    simp only [filt] at h
    split at h
    · rename_i hk
      rcases List.mem_cons.1 h with rfl | h
      · rw [← hk]; exact List.mem_cons_self
      · exact List.mem_cons_of_mem _ (ih h)
    · exact List.mem_cons_of_mem _ (ih h)
def Sorted (l : List (Bool × Edit α)) : Prop := l.Pairwise fun p q => p.2.lo ≤ q.2.lo
theorem merge_sorted : ∀ (n lo : Nat) (c d : List (Edit α)), c.length + d.length ≤ n → Chain lo c → Chain lo d → Sorted (mergeGo n c d) := by
  intro n
  induction n with
  | zero => intro lo c d _ _ _; exact List.Pairwise.nil
  | succ n ih =>
    intro lo c d h hc hd
    have key : ∀ (c d : List (Edit α)) (x : Edit α), c.length + d.length ≤ n → Chain x.lo c → Chain x.lo d → ∀ p ∈ mergeGo n c d, x.lo ≤ p.2.lo := by
      intro c d x hl h1 h2 p hp
      obtain ⟨k1, k2⟩ := merge_filt n c d hl
      have hm := filt_mem hp
      have : (x.lo : Int) ≤ p.2.at_ := by
        cases hb : p.1 with
        | false => rw [hb, k1] at hm; exact h1.pos _ hm
        | true => rw [hb, k2] at hm; exact h2.pos _ hm
      show _ ≤ p.2.at_.toNat
      omega
    cases c with
    | nil =>
      cases d with
      | nil => exact List.Pairwise.nil
      | cons y d =>
        have h1 := (Chain.suf (c := []) hd).2
        exact List.Pairwise.cons (key [] d y (by simp at h ⊢; omega) trivial (h1.2.weaken (Nat.le_succ_of_le y.lo_hi))) (ih y.lo [] d (by simp at h ⊢; omega) trivial (h1.2.weaken (Nat.le_succ_of_le y.lo_hi)))
    | cons x c =>
      cases d with
      | nil =>
        have h1 := (Chain.suf (c := []) hc).2
        exact List.Pairwise.cons (key c [] x (by simp at h ⊢; omega) (h1.2.weaken (Nat.le_succ_of_le x.lo_hi)) trivial) (ih x.lo c [] (by simp at h ⊢; omega) (h1.2.weaken (Nat.le_succ_of_le x.lo_hi)) trivial)
      | cons y d =>
        have h1 := (Chain.suf (c := []) hc).2
        have h2 := (Chain.suf (c := []) hd).2
        simp only [mergeGo]
        split
        · rename_i hlt
          have hw : Chain y.lo (x :: c) := ⟨by have := h2.1; unfold Edit.lo; have := hd.1; omega, hc.2⟩
          exact List.Pairwise.cons (key (x :: c) d y (by simp at h ⊢; omega) hw (h2.2.weaken (Nat.le_succ_of_le y.lo_hi))) (ih y.lo (x :: c) d (by simp at h ⊢; omega) hw (h2.2.weaken (Nat.le_succ_of_le y.lo_hi)))
        · rename_i hlt
          have hw : Chain x.lo (y :: d) := ⟨by unfold Edit.lo; have := hc.1; omega, hd.2⟩
          exact List.Pairwise.cons (key c (y :: d) x (by simp at h ⊢; omega) (h1.2.weaken (Nat.le_succ_of_le x.lo_hi)) hw) (ih x.lo c (y :: d) (by simp at h ⊢; omega) (h1.2.weaken (Nat.le_succ_of_le x.lo_hi)) hw)
/-- Edits of two copies that meet, and the positions that they cover. -/
structure Block (α : Type) where
  lo : Nat
  hi : Nat
  e0 : List (Edit α)
  e1 : List (Edit α)
deriving DecidableEq
def Block.new (k : Bool) (x : Edit α) : Block α := ⟨x.lo, x.hi, if k then [] else [x], if k then [x] else []⟩
def Block.add (b : Block α) (k : Bool) (x : Edit α) : Block α := ⟨b.lo, max b.hi x.hi, if k then b.e0 else b.e0 ++ [x], if k then b.e1 ++ [x] else b.e1⟩
def grow (b : Block α) : List (Bool × Edit α) → List (Block α)
  | [] => [b]
  | p :: r => if p.2.lo ≤ b.hi then grow (b.add p.1 p.2) r else b :: grow (Block.new p.1 p.2) r
def blocksOf : List (Bool × Edit α) → List (Block α)
  | [] => []
  | p :: r => grow (Block.new p.1 p.2) r
def blocks (c d : List (Edit α)) : List (Block α) := blocksOf (merge c d)
/-- What a copy has between two positions. -/
def hasGo (base : List α) (hi : Nat) : Nat → List (Edit α) → List α
  | at_, [] => cut base at_ hi
  | at_, x :: r => cut base at_ x.lo ++ (x.new ++ hasGo base hi x.hi r)
def joinGo (base : List α) : Nat → List (Block α) → List α × List (Nat × Nat)
  | at_, [] => (base.drop at_, [])
  | at_, b :: r =>
    if b.e1 = [] ∨ hasGo base b.hi b.lo b.e0 = hasGo base b.hi b.lo b.e1 then (cut base at_ b.lo ++ (hasGo base b.hi b.lo b.e0 ++ (joinGo base b.hi r).1), (joinGo base b.hi r).2)
    else if b.e0 = [] then (cut base at_ b.lo ++ (hasGo base b.hi b.lo b.e1 ++ (joinGo base b.hi r).1), (joinGo base b.hi r).2)
    else (cut base at_ b.lo ++ (cut base b.lo b.hi ++ (joinGo base b.hi r).1), (b.lo, b.hi) :: (joinGo base b.hi r).2)
def join (base a b : List α) : List α × List (Nat × Nat) := joinGo base 0 (blocks (diff base a) (diff base b))
/-- Blocks that lie one behind the other, with a line between them. -/
def BlocksOk (n : Nat) : Nat → List (Block α) → Prop
  | _, [] => True
  | at_, b :: r => at_ ≤ b.lo ∧ b.lo ≤ b.hi ∧ b.hi ≤ n ∧ Chain b.lo b.e0 ∧ Within b.hi b.e0 ∧ Chain b.lo b.e1 ∧ Within b.hi b.e1 ∧ BlocksOk n (b.hi + 1) r
theorem BlocksOk.weaken {n : Nat} : ∀ {l : List (Block α)} {i i' : Nat}, BlocksOk n i l → i' ≤ i → BlocksOk n i' l
  | [], _, _, _, _ => trivial
  | _ :: _, _, _, ⟨h1, h2⟩, h => ⟨Nat.le_trans h h1, h2⟩
theorem within_snoc {hi : Nat} {c : List (Edit α)} {x : Edit α} (h : Within hi c) : Within (max hi x.hi) (c ++ [x]) := fun y hy => by
  rcases List.mem_append.1 hy with hy | hy
  · exact Nat.le_trans (h y hy) (Nat.le_max_left _ _)
  · simp only [List.mem_singleton] at hy
    subst hy
    exact Nat.le_max_right _ _
theorem chain_other {lo n : Nat} {c d : List (Edit α)} (h : Chain lo (c ++ d)) (hd : ∀ y ∈ d, n ≤ y.lo) : Chain n d := by
  cases d with
  | nil => trivial
  | cons y d =>
    have := (Chain.suf h).2
    have h1 := hd y List.mem_cons_self
    exact this.weaken h1
theorem grow_ok {n : Nat} : ∀ (l : List (Bool × Edit α)) (b : Block α) (at_ : Nat), at_ ≤ b.lo → b.lo ≤ b.hi → b.hi ≤ n → Within b.hi b.e0 → Within b.hi b.e1 → Chain b.lo (b.e0 ++ filt false l) → Chain b.lo (b.e1 ++ filt true l) → Sorted l → (∀ p ∈ l, p.2.hi ≤ n) →
    BlocksOk n at_ (grow b l) := by
  intro l
  induction l with
  | nil =>
    intro b at_ h1 h2 h3 h4 h5 h6 h7 _ _
    exact ⟨h1, h2, h3, h6.pre, h4, h7.pre, h5, trivial⟩
  | cons p r ih =>
    intro b at_ h1 h2 h3 h4 h5 h6 h7 h8 h9
    obtain ⟨k, x⟩ := p
    have hx : x.hi ≤ n := h9 (k, x) List.mem_cons_self
    have hr : ∀ p ∈ r, p.2.hi ≤ n := fun p hp => h9 p (List.mem_cons_of_mem _ hp)
    obtain ⟨s1, s2⟩ := List.pairwise_cons.1 h8
    simp only [grow]
    split
    · cases k with
      | false =>
        refine ih (b.add false x) at_ h1 (Nat.le_trans h2 (Nat.le_max_left _ _)) (Nat.max_le.2 ⟨h3, hx⟩) ?_ ?_ ?_ ?_ s2 hr
        · exact within_snoc h4
        · exact h5.mono (Nat.le_max_left _ _)
        · simpa [Block.add, filt] using h6
        · simpa [Block.add, filt] using h7
      | true =>
        refine ih (b.add true x) at_ h1 (Nat.le_trans h2 (Nat.le_max_left _ _)) (Nat.max_le.2 ⟨h3, hx⟩) ?_ ?_ ?_ ?_ s2 hr
        · exact h4.mono (Nat.le_max_left _ _)
        · exact within_snoc h5
        · simpa [Block.add, filt] using h6
        · simpa [Block.add, filt] using h7
    · rename_i hgt
      refine ⟨h1, h2, h3, h6.pre, h4, h7.pre, h5, ?_⟩
      cases k with
      | false =>
        refine ih (Block.new false x) (b.hi + 1) (Nat.succ_le_of_lt (Nat.lt_of_not_le hgt)) x.lo_hi hx ?_ ?_ ?_ ?_ s2 hr
        · intro y hy; simp [Block.new] at hy; subst hy; exact Nat.le_refl _
        · intro y hy; simp [Block.new] at hy
        · simp only [filt, if_pos] at h6
          simpa [Block.new] using (Chain.suf h6).2
        · simp only [filt] at h7
          simpa [Block.new] using chain_other (by simpa using h7) (fun y hy => s1 _ (mem_filt hy))
      | true =>
        refine ih (Block.new true x) (b.hi + 1) (Nat.succ_le_of_lt (Nat.lt_of_not_le hgt)) x.lo_hi hx ?_ ?_ ?_ ?_ s2 hr
        · intro y hy; simp [Block.new] at hy
        · intro y hy; simp [Block.new] at hy; subst hy; exact Nat.le_refl _
        · simp only [filt] at h6
          simpa [Block.new] using chain_other (by simpa using h6) (fun y hy => s1 _ (mem_filt hy))
        · simp only [filt, if_pos] at h7
          simpa [Block.new] using (Chain.suf h7).2
theorem blocks_ok {n : Nat} {c d : List (Edit α)} (hc : Chain 0 c) (hd : Chain 0 d) (wc : Within n c) (wd : Within n d) : BlocksOk n 0 (blocks c d) := by
  obtain ⟨k1, k2⟩ := merge_filt (c.length + d.length) c d (Nat.le_refl _)
  have hs := merge_sorted (c.length + d.length) 0 c d (Nat.le_refl _) hc hd
  have hw : ∀ p ∈ mergeGo (c.length + d.length) c d, p.2.hi ≤ n := by
    intro p hp
    have hm := filt_mem hp
    cases hb : p.1 with
    | false => rw [hb, k1] at hm; exact wc _ hm
    | true => rw [hb, k2] at hm; exact wd _ hm
  unfold blocks merge
  generalize mergeGo (c.length + d.length) c d = l at *
  cases l with
  | nil => trivial
  | cons p r =>
    obtain ⟨k, x⟩ := p
    obtain ⟨s1, s2⟩ := List.pairwise_cons.1 hs
    have hx : x.hi ≤ n := hw (k, x) List.mem_cons_self
    have hr : ∀ p ∈ r, p.2.hi ≤ n := fun p hp => hw p (List.mem_cons_of_mem _ hp)
    rw [← k1] at hc
    rw [← k2] at hd
    show BlocksOk n 0 (grow (Block.new k x) r)
    cases k with
    | false =>
      refine grow_ok r (Block.new false x) 0 (Nat.zero_le _) x.lo_hi hx ?_ ?_ ?_ ?_ s2 hr
      · intro y hy; simp [Block.new] at hy; subst hy; exact Nat.le_refl _
      · intro y hy; simp [Block.new] at hy
      · simp only [filt, if_pos] at hc
        simpa [Block.new] using (Chain.suf (c := []) hc).2
      · simp only [filt] at hd
        simpa [Block.new] using chain_other (c := []) (by simpa using hd) (fun y hy => s1 _ (mem_filt hy))
    | true =>
      refine grow_ok r (Block.new true x) 0 (Nat.zero_le _) x.lo_hi hx ?_ ?_ ?_ ?_ s2 hr
      · intro y hy; simp [Block.new] at hy
      · intro y hy; simp [Block.new] at hy; subst hy; exact Nat.le_refl _
      · simp only [filt] at hc
        simpa [Block.new] using chain_other (c := []) (by simpa using hc) (fun y hy => s1 _ (mem_filt hy))
      · simp only [filt, if_pos] at hd
        simpa [Block.new] using (Chain.suf (c := []) hd).2
theorem grow_flat : ∀ (l : List (Bool × Edit α)) (b : Block α), ((grow b l).flatMap fun b => b.e0) = b.e0 ++ filt false l ∧ ((grow b l).flatMap fun b => b.e1) = b.e1 ++ filt true l ∧ (grow b l).length ≤ l.length + 1 := by
  intro l
  induction l with
  | nil => intro b; simp [grow, filt]
  | cons p r ih =>
    intro b
    obtain ⟨k, x⟩ := p
    simp only [grow]
    split
    · obtain ⟨h1, h2, h3⟩ := ih (b.add k x)
      rw [h1, h2]
      cases k <;> refine ⟨?_, ?_, by simp only [List.length_cons]; omega⟩ <;> simp [Block.add, filt]
    · obtain ⟨h1, h2, h3⟩ := ih (Block.new k x)
      simp only [List.flatMap_cons, h1, h2]
      cases k <;> refine ⟨?_, ?_, by simp only [List.length_cons]; omega⟩ <;> simp [Block.new, filt]
theorem merge_len (n : Nat) (c d : List (Edit α)) : (mergeGo n c d).length ≤ n := by
  induction n generalizing c d with
  | zero => exact Nat.le_refl _
  | succ n ih =>
    cases c <;> cases d <;> simp only [mergeGo]
    · exact Nat.zero_le _
    · simpa using ih _ _
    · simpa using ih _ _
    · split <;> simpa using ih _ _
theorem blocks_flat (c d : List (Edit α)) : ((blocks c d).flatMap fun b => b.e0) = c ∧ ((blocks c d).flatMap fun b => b.e1) = d ∧ (blocks c d).length ≤ c.length + d.length := by
  obtain ⟨k1, k2⟩ := merge_filt (c.length + d.length) c d (Nat.le_refl _)
  have hl := merge_len (c.length + d.length) c d
  unfold blocks merge
  generalize hn : mergeGo (c.length + d.length) c d = l at *
  cases l with
  | nil => simp [filt] at k1 k2; subst k1 k2; simp [blocksOf]
  | cons p r =>
    obtain ⟨k, x⟩ := p
    obtain ⟨h1, h2, h3⟩ := grow_flat r (Block.new k x)
    simp only [blocksOf]
    rw [h1, h2]
    simp only [List.length_cons] at hl
    refine ⟨?_, ?_, by omega⟩
    · rw [← k1]; cases k <;> simp [Block.new, filt]
    · rw [← k2]; cases k <;> simp [Block.new, filt]
theorem mem_block0 {c d : List (Edit α)} {b : Block α} (h : b ∈ blocks c d) : b.e0.Sublist c ∧ b.e1.Sublist d := by
  obtain ⟨h1, h2, _⟩ := blocks_flat c d
  obtain ⟨s, t, hst⟩ := List.append_of_mem h
  rw [hst] at h1 h2
  simp only [List.flatMap_append, List.flatMap_cons] at h1 h2
  constructor
  · rw [← h1]; exact ((List.sublist_append_left _ _).trans (List.sublist_append_right _ _))
  · rw [← h2]; exact ((List.sublist_append_left _ _).trans (List.sublist_append_right _ _))
theorem cut_len (a : List α) (i k : Nat) : (cut a i k).length ≤ a.length := by
  unfold cut; rw [List.length_take, List.length_drop]; omega
theorem hasGo_len {base : List α} {hi M : Nat} : ∀ {c : List (Edit α)} {at_ : Nat}, (∀ x ∈ c, x.new.length ≤ M) → (hasGo base hi at_ c).length ≤ base.length + c.length * (base.length + M)
  | [], _, _ => by simp only [hasGo, List.length_nil, Nat.zero_mul, Nat.add_zero]; exact cut_len _ _ _
  | x :: r, at_, h => by
    have h1 := hasGo_len (base := base) (hi := hi) (at_ := x.hi) fun y hy => h y (List.mem_cons_of_mem x hy)
    have h2 := h x List.mem_cons_self
    have h3 := cut_len base at_ x.lo
    simp only [hasGo, List.length_append, List.length_cons, Nat.add_mul]
    omega
theorem cut_cut {a : List α} {i k m : Nat} (h1 : i ≤ k) (h2 : k ≤ m) : cut a i k ++ cut a k m = cut a i m := by
  unfold cut
  have e : a.drop k = (a.drop i).drop (k - i) := by rw [List.drop_drop]; congr 1; omega
  rw [e, show m - i = (k - i) + (m - k) by omega, List.take_add]
/-- One edit more, before those that were made. -/
theorem made_has {base : List α} {lo hi : Nat} {x : Edit α} {r : List (Edit α)} (h1 : (lo : Int) ≤ x.at_) (h2 : Chain (x.hi + 1) r) (h3 : Within hi r) (h4 : x.hi ≤ hi) (h5 : hi ≤ base.length) :
    x.hi - lo ≤ (hasGo base hi lo r).length ∧ made (hasGo base hi lo r) ⟨x.at_ - lo, x.old, x.new⟩ = hasGo base hi lo (x :: r) := by
  have hlo : lo ≤ x.lo := by unfold Edit.lo; omega
  have hlh := x.lo_hi
  obtain ⟨s, hs⟩ : ∃ s, hasGo base hi lo r = cut base lo x.hi ++ s ∧ hasGo base hi x.hi r = s := by
    cases r with
    | nil => exact ⟨cut base x.hi hi, by simp only [hasGo]; rw [cut_cut (by omega) h4], rfl⟩
    | cons y r =>
      have : x.hi ≤ y.lo := by have := h2.1; unfold Edit.lo; omega
      exact ⟨cut base x.hi y.lo ++ (y.new ++ hasGo base hi y.hi r), by simp only [hasGo]; rw [← cut_cut (by omega : lo ≤ x.hi) this, List.append_assoc], rfl⟩
  have hcl : (cut base lo x.hi).length = x.hi - lo := cut_length (by omega) (by omega)
  have e1 : (x.at_ - lo).toNat = x.lo - lo := by unfold Edit.lo; omega
  have e2 : (x.at_ - lo).toNat + x.old.length = x.hi - lo := by unfold Edit.hi; omega
  refine ⟨by rw [hs.1, List.length_append, hcl]; omega, ?_⟩
  simp only [made, hasGo]
  rw [e2, e1, hs.1, hs.2, List.drop_append_of_le_length (by omega), List.drop_of_length_le (by omega), List.nil_append, List.take_append_of_le_length (by omega)]
  congr 1
  unfold cut
  rw [List.take_take]
  congr 1
  omega
end
end File
end Go.Proofs.YtkmcacgeecfjgaaGreatDoor
end
section
namespace Go.Proofs.YtkmcacgeecfjgaaGreatDoor
open Go.RowKit
theorem stepApp1 {α : Type} (E : Enc α) {P : Program} {t e : TypeId} (hT : SlTy P t e E.sz) {ops : Array Oper} {o : Oper} {a : Act} {K : Act → World → Prop} {Q : Exit → Act → World → Prop} {E' : Prop} {w W : World} {arr : Array Value}
    (hgd : o.guard = none) (s x : Operand) (ho : o.op = .call { callee := .builtin .append, args := #[s, x], argTypes := #[t, t] })
    {B : Nat} {v : Value} {xs : List α} (hown : Own E e B w v xs) (y : α) (harr : arr.toList = E.cells y) (hs : a.eval s = v) {G : Nat} (hG : G = w.heap.size) (hx : a.eval x = .slice (some ⟨G, 0, none⟩) 1 1)
    (hW : W = w.alloc (.cells arr e)) (hB : B ≤ w.heap.size) (hn : xs.length + 1 ≤ big)
    (h : ∀ v' w', Own E e B w' v' (xs ++ [y]) → Below B w w' → (∀ b, b < w.heap.size → v.ownBlock ≠ some b → w'.heap[b]? = w.heap[b]?) → K (a.put o.dst v') w') :
    if Region.wanted o (yielded ops a.tmps) = true then Oper.wp P o a W K Q else E' := by
  subst hW hG
  have hw : Region.wanted o (yielded ops a.tmps) = true := by simp [Region.wanted, hgd]
  rw [if_pos hw]
  obtain ⟨i, z, hi, hz, hsz, hby, hzc⟩ := hT.info
  unfold big at hn
  have hsize : arr.size = E.sz := by rw [← Array.length_toList, harr, E.len]
  refine wp_append_own (w.alloc (.cells arr e)) s x t ho B e i z E.sz i.bytes hT.ht hi hz hsz rfl hzc E.pos v xs.length (xs.flatMap E.cells) hs (World.ownsRow.alloc hown _)
    ⟨w.heap.size, 0, none⟩ 1 1 (E.cells y) hx (by rw [E.len]; omega) ?_ (E.one y) (by unfold maxLen; omega) (by have := Nat.mul_le_mul hn hby; omega) (by simp; omega) ?_
  · intro j u hu
    have hadd : (⟨w.heap.size, 0, none⟩ : Addr).add j = ⟨w.heap.size, j, none⟩ := by unfold Addr.add; split <;> simp_all
    rw [hadd, cell_of_row _ w.heap.size j arr e (0, 0) (heap_alloc_new w _), ← hu, ← harr, Array.getElem?_toList]
  · intro v' w' hown' hg _
    have hlt := Own.lt hown
    refine h v' w' (by unfold Own; simpa using hown') ?_ (fun b hb hv => ?_)
    · refine (((Below.refl B w).alloc hB _).grown hg (by simp; omega) fun k hk => ?_)
      exact (hlt k hk).1
    · rw [hg.block b (by simp; omega) (fun e => hv e.symm)]
      exact Below.heap_alloc w _ b hb
/-- append of a whole slice, at such a step. -/
theorem stepAppS {α : Type} (E : Enc α) {P : Program} {t e : TypeId} (hT : SlTy P t e E.sz) {ops : Array Oper} {o : Oper} {a : Act} {K : Act → World → Prop} {Q : Exit → Act → World → Prop} {E' : Prop} {w : World}
    (hgd : o.guard = none) (s x : Operand) (ho : o.op = .call { callee := .builtin .append, args := #[s, x], argTypes := #[t, t] })
    {B : Nat} {v : Value} {xs : List α} (hown : Own E e B w v xs) {g : Nat} {n c : Nat} {ys : List α} (hy : Sl E w (some ⟨g, 0, none⟩) ys) (hyn : n = ys.length) (hs : a.eval s = v) {G : Nat} (hG : G = g) (hx : a.eval x = .slice (some ⟨G, 0, none⟩) n c)
    (hB : B ≤ w.heap.size) (hn : xs.length + ys.length ≤ big)
    (h : ∀ v' w', Own E e B w' v' (xs ++ ys) → Below B w w' → (∀ b, b < w.heap.size → v.ownBlock ≠ some b → w'.heap[b]? = w.heap[b]?) → K (a.put o.dst v') w') :
    if Region.wanted o (yielded ops a.tmps) = true then Oper.wp P o a w K Q else E' := by
  subst hG hyn
  have hw : Region.wanted o (yielded ops a.tmps) = true := by simp [Region.wanted, hgd]
  rw [if_pos hw]
  obtain ⟨i, z, hi, hz, hsz, hby, hzc⟩ := hT.info
  unfold big at hn
  refine wp_append_own w s x t ho B e i z E.sz i.bytes hT.ht hi hz hsz rfl hzc E.pos v xs.length (xs.flatMap E.cells) hs hown
    ⟨G, 0, none⟩ ys.length c (ys.flatMap E.cells) hx (flat_length E ys) ?_ ?_ (by unfold maxLen; omega) (by have := Nat.mul_le_mul hn hby; omega) hB ?_
  · intro j u hu
    obtain ⟨k, y, k', rfl, hk, hu⟩ := flat_inv E ys j u hu
    obtain ⟨b, off, hA, _, hc⟩ := hy (by intro e; subst e; simp at hk)
    injection hA with hA
    injection hA with e1 e2
    subst e1 e2
    rw [Addr.add_lit]
    have := hc k y hk k' u hu
    rw [show 0 + k * E.sz + k' = 0 + (k * E.sz + k') from by omega] at this
    exact this
  · intro u hu
    obtain ⟨y, _, hu⟩ := List.mem_flatMap.1 hu
    exact E.one y u hu
  · intro v' w' hown' hg _
    have hlt := Own.lt hown
    exact h v' w' (by unfold Own; simpa using hown') ((Below.refl B w).grown hg hB fun k hk => (hlt k hk).1) fun b hb hv => hg.block b hb (fun e => hv e.symm)
end Go.Proofs.YtkmcacgeecfjgaaGreatDoor
end
section
namespace Go.Proofs.YtkmcacgeecfjgaaGreatDoor
namespace File
/-- What length reads: the number, whether it is one, what is left, and where. -/
def readNum (l : List UInt8) (k : Nat) : Nat × Bool × List UInt8 × Nat := match l with
  | [] => (0, false, [], k)
  | b :: r => if isDig b then
      let n := b.toNat - 48
      let m := 10 * n + ((nextB r).toNat - 48)
      if 0 < n ∧ isDig (nextB r) = true ∧ m ≤ 40 then (m, takes (· == 58) (rest isDig r), rest (· == 58) (rest isDig r), on (· == 58) (rest isDig r) (on isDig r (k + 1)))
      else (n, takes (· == 58) r, rest (· == 58) r, on (· == 58) r (k + 1))
    else (0, false, b :: r, k)
end File
namespace Fl
open Go.RowKit
set_option maxRecDepth 100000
theorem rest_length (p : UInt8 → Bool) (l : List UInt8) (k : Nat) : File.on p l k + (File.rest p l).length = k + l.length := by
  cases l with
  | nil => rfl
  | cons b r =>
    unfold File.on File.rest File.takes
    by_cases h : p b = true
    · simp only [h, if_true, List.length_cons]; omega
    · simp only [h, if_false, Bool.false_eq_true]
theorem rest_no {p : UInt8 → Bool} {l : List UInt8} (h : File.takes p l = false) : File.rest p l = l := by
  cases l with
  | nil => rfl
  | cons b r => exact if_neg (by rw [show p b = false from h]; simp)
theorem on_no {p : UInt8 → Bool} {l : List UInt8} (h : File.takes p l = false) (k : Nat) : File.on p l k = k := by unfold File.on; rw [h]; rfl
theorem RD.agg {w : World} {g k : Nat} {l : List UInt8} (h : RD w g l k) : w.cell? ⟨g, 0, none⟩ = some (.string (File.ba l)) ∧ w.cell? ⟨g, 1, none⟩ = some (iv k) ∧ g < w.heap.size := ⟨h.cell 0, h.cell 1, h.lt⟩
set_option maxHeartbeats 4000000 in
theorem length_spec (g k : Nat) (l : List UInt8) (w : World) (hR : RD w g l k) (hk : k + l.length ≤ 1000000000) :
    Calls Tryz.prog 159 #[.pointer (some ⟨g, 0, none⟩)] w fun e w' => e = .returned (.tuple #[iv (File.readNum l k).1, .bool (File.readNum l k).2.1]) ∧ RD w' g (File.readNum l k).2.2.1 (File.readNum l k).2.2.2 ∧ Only g w w' := by
  have hmf : ∀ (fn : Fn) (first cap : Array Value) (w : World), (Instr.makeFunc fn first cap).run Tryz.prog w = .ok (.func fn first cap) w := fun _ _ _ _ => rfl
  have hg0 := hR.lt
  obtain ⟨m0, m1, m2⟩ := hR.agg
  by_cases hd : File.takes File.isDig l = true
  · cases l with
    | nil => cases hd
    | cons b r =>
      have hd' : File.isDig b = true := hd
      have hbb : 48 ≤ b.toNat ∧ b.toNat ≤ 57 := by simpa [File.isDig] using hd'
      obtain ⟨n, hn⟩ : ∃ n : Nat, n = b.toNat - 48 := ⟨_, rfl⟩
      have hbn : b.toNat = n + 48 := by omega
      have hn9 : n ≤ 9 := by omega
      have hN := next_spec (b :: r) w
      rw [show bv (File.nextB (b :: r)) = .int .u8 ((n : Int) + 48) from by show Value.int .u8 (b.toNat : Int) = _; rw [hbn]; rfl] at hN
      have HN := Lib.hid hN
      obtain ⟨c, hc⟩ : ∃ c : Nat, c = (File.nextB r).toNat := ⟨_, rfl⟩
      have hc255 : c ≤ 255 := by have := (File.nextB r).toNat_lt; omega
      have HNR : Hid (∀ W : World, Calls Tryz.prog 108 #[.agg #[.string (File.ba r)]] W fun e w' => e = .returned (.int .u8 (c : Int)) ∧ Below W.heap.size W w') := Lib.hid fun W => by rw [hc]; exact next_spec r W
      have HRN : Hid (File.readNum (b :: r) k = if 0 < n ∧ File.isDig (File.nextB r) = true ∧ 10 * n + (c - 48) ≤ 40 then (10 * n + (c - 48), File.takes (· == 58) (File.rest File.isDig r), File.rest (· == 58) (File.rest File.isDig r), File.on (· == 58) (File.rest File.isDig r) (File.on File.isDig r (k + 1)))
          else (n, File.takes (· == 58) r, File.rest (· == 58) r, File.on (· == 58) r (k + 1))) := Lib.hid (by
        show (if File.isDig b = true then _ else _) = _
        rw [if_pos hd', ← hn, ← hc])
      have HDC : Hid (∀ W : World, Calls Tryz.prog 109 #[.int .u8 (c : Int)] W fun e w' => e = .returned (.bool (File.isDig (File.nextB r))) ∧ W = w') := Lib.hid fun W => by rw [hc]; exact digit_spec _ W
      have HCD : Hid (File.isDig (File.nextB r) = true → 48 ≤ c ∧ c ≤ 57) := Lib.hid fun h => by rw [hc]; simpa [File.isDig] using h
      have hkl : k + 1 + r.length ≤ 1000000000 := by simp only [List.length_cons] at hk; omega
      clear hN hbn hn hc
      go_enter Tryz.func159, Tryz.ntmps159
      go_wp2_with fail
      refine HN.out.mono ?_
      rintro e w1 ⟨rfl, hb1⟩
      have hR1 := hR.below hb1
      have hO1 := Only.of_below hb1 (Nat.le_of_lt hg0)
      obtain ⟨m0, m1, m2⟩ := hR1.agg
      have HTD := Lib.hid (takeDigit g k (b :: r) w1 hR1 (by simp only [List.length_cons] at hk ⊢; omega))
      rw [show File.takes File.isDig (b :: r) = true from hd, show File.rest File.isDig (b :: r) = r from by simp [File.rest, hd'], show File.on File.isDig (b :: r) k = k + 1 from by simp [File.on, File.takes, hd']] at HTD
      clear hd hd' hbb HN hR
      go_wp2_with fail
      refine HTD.out.mono ?_
      rintro e w2 ⟨rfl, hR2, hO2⟩
      have hO02 := hO1.trans hO2
      obtain ⟨m0, m1, m2⟩ := hR2.agg
      clear HTD hR1 hO1 hb1 hO2
      go_upto_region 5 with (go_at_call 108; refine (HNR.out _).mono ?_; rintro e w3 ⟨rfl, hb3⟩)
      have hR3 := hR2.below hb3
      have hO3 := hO02.next hb3 (Nat.le_of_lt m2)
      obtain ⟨m0, m1, m2⟩ := hR3.agg
      clear hR2 hO02 hb3
      have HONE : Hid (∀ W : World, Calls Tryz.prog 111 #[.int .u8 58] W fun e w' => ∃ q, e = .returned (.agg #[.func (.func 161) #[] #[.pointer (some ⟨q, 0, none⟩)]]) ∧ Blk w' q 5 #[bv 58] ∧ Below W.heap.size W w') := Lib.hid fun W => one_spec 58 W
      by_cases h0 : 0 < n
      · have h0i : (0 : Int) < (n : Int) := by omega
        cases hdr : File.isDig (File.nextB r)
        · have HX : Hid (File.readNum (b :: r) k = (n, File.takes (· == 58) r, File.rest (· == 58) r, File.on (· == 58) r (k + 1))) := Lib.hid (by rw [HRN.out, if_neg (by rw [hdr]; intro h; cases h.2.1)])
          rw [hdr] at HDC
          clear hdr HRN HCD
          go_wp2_with (first
            | (go_at_call 108; refine (HNR.out _).mono ?_; rintro e w4 ⟨rfl, hb4⟩; have hR4 := hR3.below hb4; obtain ⟨m3, m4, m5⟩ := hR4.agg)
            | (go_at_call 109; refine (HDC.out _).mono ?_; rintro e w' ⟨rfl, rfl⟩)
            | (go_at_call 111; refine (HONE.out _).mono ?_; rintro e w7 ⟨q, rfl, hq, hb7⟩; have hR7 := hR4.below hb7; obtain ⟨m6, m7, m8⟩ := hR7.agg)
            | (go_at_call 107; refine (takeOne 58 q g (k + 1) r _ hR7 (by omega) hq).mono ?_; rintro e w8 ⟨rfl, hR8, hO8⟩))
          go_ret2
          exact ⟨ret_eq (by rw [HX.out]; rfl), by rw [HX.out]; exact hR8, ((hO3.next hb4 (Nat.le_of_lt m2)).next hb7 (Nat.le_of_lt m5)).trans hO8⟩
        · have hcd := HCD.out hdr
          obtain ⟨d, hd⟩ : ∃ d : Nat, d = c - 48 := ⟨_, rfl⟩
          have hcd2 : (c : Int) - 48 = (d : Int) := by omega
          have hd9 : d ≤ 9 := by omega
          by_cases hm : 10 * n + d ≤ 40
          · have hmi : (10 : Int) * (n : Int) + (d : Int) ≤ 40 := by omega
            have HX : Hid (File.readNum (b :: r) k = (10 * n + d, File.takes (· == 58) (File.rest File.isDig r), File.rest (· == 58) (File.rest File.isDig r), File.on (· == 58) (File.rest File.isDig r) (File.on File.isDig r (k + 1)))) := Lib.hid (by rw [HRN.out, if_pos ⟨h0, hdr, by omega⟩, hd])
            have HRL := Lib.hid (rest_length File.isDig r (k + 1))
            rw [hdr] at HDC
            rw [hcd2]
            have HTD := Lib.hid (fun (W : World) (h : RD W g r (k + 1)) => takeDigit g (k + 1) r W h (by omega))
            clear hdr HRN HCD hd hcd hcd2
            go_upto_region 7 with (first
              | (go_at_call 108; refine (HNR.out _).mono ?_; rintro e w4 ⟨rfl, hb4⟩; have hR4 := hR3.below hb4; obtain ⟨m3, m4, m5⟩ := hR4.agg)
              | (go_at_call 109; refine (HDC.out _).mono ?_; rintro e w' ⟨rfl, rfl⟩))
            go_wp2_with fail
            refine (HTD.out _ hR4).mono ?_
            rintro e w6 ⟨rfl, hR6, hO6⟩
            go_wp2_with fail
            refine (HONE.out _).mono ?_
            rintro e w7 ⟨q, rfl, hq, hb7⟩
            have hR7 := hR6.below hb7
            have m8 := hR6.lt
            go_wp2_with fail
            refine (takeOne 58 q g _ _ _ hR7 (by rw [HRL.out]; omega) hq).mono ?_
            rintro e w8 ⟨rfl, hR8, hO8⟩
            go_wp2_with fail
            go_ret2
            exact ⟨ret_eq (by rw [HX.out]; rfl), by rw [HX.out]; exact hR8, ((((hO3.next hb4 (Nat.le_of_lt m2)).trans hO6).next hb7 (Nat.le_of_lt m8))).trans hO8⟩
          · have hmi : ¬ (10 : Int) * (n : Int) + (d : Int) ≤ 40 := by omega
            have HX : Hid (File.readNum (b :: r) k = (n, File.takes (· == 58) r, File.rest (· == 58) r, File.on (· == 58) r (k + 1))) := Lib.hid (by rw [HRN.out, if_neg (by rw [← hd]; intro h; omega)])
            rw [hdr] at HDC
            rw [hcd2]
            clear hdr HRN HCD hd hcd hcd2
            go_wp2_with (first
              | (go_at_call 108; refine (HNR.out _).mono ?_; rintro e w4 ⟨rfl, hb4⟩; have hR4 := hR3.below hb4; obtain ⟨m3, m4, m5⟩ := hR4.agg)
              | (go_at_call 109; refine (HDC.out _).mono ?_; rintro e w' ⟨rfl, rfl⟩)
              | (go_at_call 111; refine (HONE.out _).mono ?_; rintro e w7 ⟨q, rfl, hq, hb7⟩; have hR7 := hR4.below hb7; obtain ⟨m6, m7, m8⟩ := hR7.agg)
              | (go_at_call 107; refine (takeOne 58 q g (k + 1) r _ hR7 (by omega) hq).mono ?_; rintro e w8 ⟨rfl, hR8, hO8⟩))
            go_ret2
            exact ⟨ret_eq (by rw [HX.out]; rfl), by rw [HX.out]; exact hR8, ((hO3.next hb4 (Nat.le_of_lt m2)).next hb7 (Nat.le_of_lt m5)).trans hO8⟩
      · have h0i : ¬ (0 : Int) < (n : Int) := by omega
        have HX : Hid (File.readNum (b :: r) k = (n, File.takes (· == 58) r, File.rest (· == 58) r, File.on (· == 58) r (k + 1))) := Lib.hid (by rw [HRN.out, if_neg (fun h => h0 h.1)])
        clear HRN HCD HDC
        go_wp2_with (first
          | (go_at_call 111; refine (HONE.out _).mono ?_; rintro e w7 ⟨q, rfl, hq, hb7⟩; have hR7 := hR3.below hb7; obtain ⟨m6, m7, m8⟩ := hR7.agg)
          | (go_at_call 107; refine (takeOne 58 q g (k + 1) r _ hR7 (by omega) hq).mono ?_; rintro e w8 ⟨rfl, hR8, hO8⟩))
        go_ret2
        exact ⟨ret_eq (by rw [HX.out]; rfl), by rw [HX.out]; exact hR8, (hO3.next hb7 (Nat.le_of_lt m2)).trans hO8⟩
  · have hd' : File.takes File.isDig l = false := by simpa using hd
    have HTD := Lib.hid (fun (W : World) (h : RD W g l k) => takeDigit g k l W h (by omega))
    rw [hd', rest_no hd', on_no hd'] at HTD
    have HX : Hid (File.readNum l k = (0, false, l, k)) := Lib.hid (by
      cases l with
      | nil => rfl
      | cons b r => show (if File.isDig b = true then _ else _) = _; rw [if_neg (by rw [show File.isDig b = false from hd']; simp)])
    obtain ⟨c, hc⟩ : ∃ c : Nat, c = (File.nextB l).toNat := ⟨_, rfl⟩
    have hc255 : c ≤ 255 := by have := (File.nextB l).toNat_lt; omega
    have HNR : Hid (∀ W : World, Calls Tryz.prog 108 #[.agg #[.string (File.ba l)]] W fun e w' => e = .returned (.int .u8 (c : Int)) ∧ Below W.heap.size W w') := Lib.hid fun W => by rw [hc]; exact next_spec l W
    clear hc hd hd'
    go_enter Tryz.func159, Tryz.ntmps159
    go_wp2_with (first
      | (go_at_call 108; refine (HNR.out _).mono ?_; rintro e w1 ⟨rfl, hb1⟩; have hR1 := hR.below hb1)
      | (go_at_call 107; refine (HTD.out _ hR1).mono ?_; rintro e w2 ⟨rfl, hR2, hO2⟩))
    go_ret2
    exact ⟨ret_eq (by rw [HX.out]; rfl), by rw [HX.out]; exact hR2, (Only.of_below hb1 (Nat.le_of_lt hg0)).trans hO2⟩
end Fl
end Go.Proofs.YtkmcacgeecfjgaaGreatDoor
end
section
namespace Go.Proofs.YtkmcacgeecfjgaaGreatDoor
namespace File
def takeN : Nat → List UInt8 → Nat → Bool × List UInt8 × Nat
  | 0, l, k => (true, l, k)
  | n + 1, l, k => if takes okB l then takeN n (rest okB l) (on okB l k) else (false, l, k)
def runN (s : Bool) (n : Nat) (l : List UInt8) (k : Nat) : Bool × List UInt8 × Nat := if s then takeN n l k else (false, l, k)
/-- What line reads: the line, if it is one, what is left, and where. -/
def readLine (l : List UInt8) (k : Nat) : Option (List UInt8) × List UInt8 × Nat :=
  let q := readNum l k
  let t := runN q.2.1 q.1 q.2.2.1 q.2.2.2
  if t.1 then (if takes (· == 10) t.2.1 then (some (q.2.2.1.take q.1), rest (· == 10) t.2.1, on (· == 10) t.2.1 t.2.2) else (none, t.2.1, t.2.2)) else (none, t.2.1, t.2.2)
theorem readNum_le (l : List UInt8) (k : Nat) : (readNum l k).1 ≤ 40 := by
  unfold readNum
  split
  · exact Nat.zero_le _
  · rename_i b r
    split
    · rename_i h
      have : b.toNat ≤ 57 := by simp [isDig] at h; exact h.2
      dsimp only
      split
      · rename_i h2; exact h2.2.2
      · show b.toNat - 48 ≤ 40; omega
    · exact Nat.zero_le _
end File
namespace Fl
open Go.RowKit
set_option maxRecDepth 100000
theorem readNum_len (l : List UInt8) (k : Nat) : (File.readNum l k).2.2.2 + (File.readNum l k).2.2.1.length = k + l.length := by
  unfold File.readNum
  split
  · rfl
  · rename_i b r
    split
    · dsimp only
      split
      · have h1 := rest_length File.isDig r (k + 1)
        have h2 := rest_length (· == 58) (File.rest File.isDig r) (File.on File.isDig r (k + 1))
        simp only [List.length_cons]
        show File.on (· == 58) (File.rest File.isDig r) (File.on File.isDig r (k + 1)) + (File.rest (· == 58) (File.rest File.isDig r)).length = _
        omega
      · have h2 := rest_length (· == 58) r (k + 1)
        simp only [List.length_cons]
        show File.on (· == 58) r (k + 1) + (File.rest (· == 58) r).length = _
        omega
    · rfl
theorem takeN_true : ∀ (n : Nat) (l : List UInt8) (k : Nat), (File.takeN n l k).1 = true → n ≤ l.length ∧ File.takeN n l k = (true, l.drop n, k + n) := by
  intro n
  induction n with
  | zero => intro l k _; exact ⟨Nat.zero_le _, rfl⟩
  | succ n ih =>
    intro l k h
    unfold File.takeN at h ⊢
    split at h
    · rename_i ht
      rw [if_pos ht]
      cases l with
      | nil => cases ht
      | cons b r =>
        have hb : File.okB b = true := ht
        rw [show File.rest File.okB (b :: r) = r from if_pos hb, show File.on File.okB (b :: r) k = k + 1 from if_pos ht] at h ⊢
        obtain ⟨h1, h2⟩ := ih r (k + 1) h
        refine ⟨by simpa using h1, ?_⟩
        rw [h2, List.drop_succ_cons, show k + 1 + n = k + (n + 1) by omega]
    · cases h
theorem runN_len (s : Bool) : ∀ (n : Nat) (l : List UInt8) (k : Nat), (File.runN s n l k).2.2 + (File.runN s n l k).2.1.length = k + l.length := by
  unfold File.runN
  cases s
  · intro n l k; rfl
  · intro n
    simp only [if_true]
    induction n with
    | zero => intro l k; rfl
    | succ n ih =>
      intro l k
      unfold File.takeN
      split
      · rw [ih, rest_length]
      · rfl
theorem runN_step (s : Bool) (n : Nat) (l : List UInt8) (k : Nat) : File.runN s (n + 1) l k = if s then File.runN (File.takes File.okB l) n (File.rest File.okB l) (File.on File.okB l k) else File.runN false n l k := by
  cases s
  · rfl
  · simp only [if_true]
    unfold File.runN
    simp only [if_true]
    rw [File.takeN]
    split
    · rfl
    · rename_i h
      have h' : File.takes File.okB l = false := by simpa using h
      rw [rest_no h', on_no h']
theorem ba_take (l : List UInt8) (n : Nat) : (File.ba l).extract 0 n = File.ba (l.take n) := by
  apply ByteArray.ext
  simp [File.ba]
set_option maxHeartbeats 4000000 in
theorem line_spec (g k : Nat) (l : List UInt8) (w : World) (hR : RD w g l k) (hk : k + l.length ≤ 1000000000) :
    Calls Tryz.prog 110 #[.pointer (some ⟨g, 0, none⟩)] w fun e w' => e = .returned (.tuple #[.string (File.ba ((File.readLine l k).1.getD [])), .bool (File.readLine l k).1.isSome]) ∧ RD w' g (File.readLine l k).2.1 (File.readLine l k).2.2 ∧ Only g w w' := by
  have HLE := Lib.hid (length_spec g k l w hR hk)
  have hg0 := hR.lt
  have hnl := File.readNum_le l k
  have hqk := readNum_len l k
  have HX : Hid (File.readLine l k = if (File.runN (File.readNum l k).2.1 (File.readNum l k).1 (File.readNum l k).2.2.1 (File.readNum l k).2.2.2).1 then
      (if File.takes (· == 10) (File.runN (File.readNum l k).2.1 (File.readNum l k).1 (File.readNum l k).2.2.1 (File.readNum l k).2.2.2).2.1 then (some ((File.readNum l k).2.2.1.take (File.readNum l k).1), File.rest (· == 10) (File.runN (File.readNum l k).2.1 (File.readNum l k).1 (File.readNum l k).2.2.1 (File.readNum l k).2.2.2).2.1, File.on (· == 10) (File.runN (File.readNum l k).2.1 (File.readNum l k).1 (File.readNum l k).2.2.1 (File.readNum l k).2.2.2).2.1 (File.runN (File.readNum l k).2.1 (File.readNum l k).1 (File.readNum l k).2.2.1 (File.readNum l k).2.2.2).2.2)
        else (none, (File.runN (File.readNum l k).2.1 (File.readNum l k).1 (File.readNum l k).2.2.1 (File.readNum l k).2.2.2).2.1, (File.runN (File.readNum l k).2.1 (File.readNum l k).1 (File.readNum l k).2.2.1 (File.readNum l k).2.2.2).2.2))
      else (none, (File.runN (File.readNum l k).2.1 (File.readNum l k).1 (File.readNum l k).2.2.1 (File.readNum l k).2.2.2).2.1, (File.runN (File.readNum l k).2.1 (File.readNum l k).1 (File.readNum l k).2.2.1 (File.readNum l k).2.2.2).2.2)) := Lib.hid rfl
  generalize File.readNum l k = q at *
  obtain ⟨n, ok, l1, k1⟩ := q
  dsimp only at HLE HX hnl hqk
  generalize File.readLine l k = rl at *
  have hl1 : l1.length ≤ 1000000000 := by omega
  go_enter Tryz.func110, Tryz.ntmps110
  go_wp2_with fail
  refine HLE.out.mono ?_
  rintro e w1 ⟨rfl, hR1, hO1⟩
  obtain ⟨m0, m1, m2⟩ := hR1.agg
  clear HLE hR
  go_wp2_with fail
  obtain ⟨T, hT⟩ : ∃ T, T = File.runN ok n l1 k1 := ⟨_, rfl⟩
  rw [← hT] at HX
  have HT := Lib.hid hT
  clear hT m0 m1
  go_loopw [5, 18] (fun v i wr => ∃ (j : Nat) (s : Bool) (lj : List UInt8) (kj : Nat), j ≤ n ∧ i = iv j ∧ v = .bool s ∧ RD wr g lj kj ∧ Only g w1 wr ∧ Hid (File.runN s (n - j) lj kj = T) ∧ kj + lj.length = k1 + l1.length) (fun _ i _ => n - (intOf i).toNat)
  case atStart => exact ⟨0, ok, l1, k1, by omega, rfl, rfl, hR1, Only.refl _ _, Lib.hid HT.out.symm, rfl⟩
  case round =>
    obtain ⟨j, s, lj, kj, hj, rfl, rfl, hRj, hOj, hr, hlj⟩ := hrel
    by_cases hlt : j < n
    · have hji : (j : Int) < (n : Int) := by omega
      have hr' := hr.out
      rw [show n - j = (n - (j + 1)) + 1 by omega, runN_step] at hr'
      cases s
      · simp only [Bool.false_eq_true, if_false] at hr'
        have HR := Lib.hid hr'
        clear hr hr'
        go_wp2_with fail
        go_roundw
        case rel => exact ⟨j + 1, false, lj, kj, by omega, by go_num, rfl, hRj, hOj, HR, hlj⟩
        case measure => simp [intOf]; omega
      · simp only [if_true] at hr'
        have HR := Lib.hid hr'
        have HTK := Lib.hid (takeOk g kj lj wr hRj (by omega))
        have HRL := Lib.hid (rest_length File.okB lj kj)
        clear hr hr'
        go_wp2_with (go_at_call 107; refine HTK.out.mono ?_; rintro e w2 ⟨rfl, hR2, hO2⟩)
        go_roundw
        case rel => exact ⟨j + 1, File.takes File.okB lj, File.rest File.okB lj, File.on File.okB lj kj, by omega, by go_num, rfl, hR2, hOj.trans hO2, HR, by have := HRL.out; omega⟩
        case measure => simp [intOf]; omega
    · have hji : ¬ (j : Int) < (n : Int) := by omega
      have hr' := hr.out
      rw [show n - j = 0 by omega] at hr'
      have hTe : T = (s, lj, kj) := by rw [← hr']; cases s <;> rfl
      rw [hTe] at HX HT
      dsimp only at HX
      have hmj := hRj.lt
      clear hr hr' hTe
      cases s
      · simp only [Bool.false_eq_true, if_false] at HX
        go_wp2_with fail
        go_ret2
        exact ⟨ret_eq (by rw [HX.out]; rfl), by rw [HX.out]; exact hRj, hO1.trans hOj⟩
      · simp only [if_true] at HX
        have hnle : n ≤ l1.length := by
          have h1 := HT.out
          cases ok
          · cases h1
          · have h2 : (File.takeN n l1 k1).1 = true := by rw [show File.takeN n l1 k1 = (true, lj, kj) from h1.symm]
            exact (takeN_true n l1 k1 h2).1
        have hnsz : (n : Int) ≤ ((File.ba l1).size : Int) := by rw [ba_size]; omega
        have HONE : Hid (∀ W : World, Calls Tryz.prog 111 #[.int .u8 10] W fun e w' => ∃ q, e = .returned (.agg #[.func (.func 161) #[] #[.pointer (some ⟨q, 0, none⟩)]]) ∧ Blk w' q 5 #[bv 10] ∧ Below W.heap.size W w') := Lib.hid fun W => one_spec 10 W
        cases ht : File.takes (· == 10) lj
        · rw [ht] at HX
          simp only [Bool.false_eq_true, if_false] at HX
          have hre := rest_no ht
          have hon := on_no ht kj
          go_wp2_with fail
          refine (HONE.out _).mono ?_
          rintro e w7 ⟨q, rfl, hq, hb7⟩
          have HTO := takeOne 10 q g kj lj w7 (hRj.below hb7) (by omega) hq
          rw [ht, hre, hon] at HTO
          have HTO2 := Lib.hid HTO
          clear hre hon ht HTO
          go_wp2_with fail
          refine HTO2.out.mono ?_
          rintro e w8 ⟨rfl, hR8, hO8⟩
          go_wp2_with fail
          go_ret2
          exact ⟨ret_eq (by rw [HX.out]; rfl), by rw [HX.out]; exact hR8, ((hO1.trans hOj).next hb7 (Nat.le_of_lt hmj)).trans hO8⟩
        · rw [ht] at HX
          simp only [if_true] at HX
          go_wp2_with fail
          refine (HONE.out _).mono ?_
          rintro e w7 ⟨q, rfl, hq, hb7⟩
          have HTO := takeOne 10 q g kj lj w7 (hRj.below hb7) (by omega) hq
          rw [ht] at HTO
          have HTO2 := Lib.hid HTO
          clear ht HTO
          go_wp2_with fail
          refine HTO2.out.mono ?_
          rintro e w8 ⟨rfl, hR8, hO8⟩
          go_wp2_with fail
          go_ret2
          exact ⟨ret_eq (by rw [HX.out]; simp [ba_take]), by rw [HX.out]; exact hR8, ((hO1.trans hOj).next hb7 (Nat.le_of_lt hmj)).trans hO8⟩
end Fl
end Go.Proofs.YtkmcacgeecfjgaaGreatDoor
end
section
namespace Go.Proofs.YtkmcacgeecfjgaaGreatDoor
namespace File
def lines : Nat → List ByteArray → List UInt8 → Nat → (Int × Nat) ⊕ (List ByteArray × List UInt8 × Nat)
  | 0, _, _, k => .inl (11, k)
  | n + 1, out, l, k =>
    if nextB l = 61 then .inr (out, l, k)
    else if out.length = 24 then .inl (if isDig (nextB l) then 2 else 11, k)
    else match (readLine l k).1 with
      | some x => lines n (out ++ [ba x]) (readLine l k).2.1 (readLine l k).2.2
      | none => .inl (11, (readLine l k).2.2)
def matchAll : List UInt8 → List UInt8 → Nat → Bool × List UInt8 × Nat
  | [], l, k => (true, l, k)
  | a :: ws, l, k => if takes (· == a) l then matchAll ws (rest (· == a) l) (on (· == a) l k) else (false, l, k)
def ending : (Int × Nat) ⊕ (List ByteArray × List UInt8 × Nat) → List ByteArray × Nat × Int
  | .inl (e, k) => ([], k, e)
  | .inr (out, l, k) =>
    let t := matchAll (endOf out) (rest (· == 61) l) (on (· == 61) l k)
    if t.1 = true ∧ t.2.1 = [] then (out, 0, 0) else ([], t.2.2, 8)
/-- What Parse returns: the lines, a place, and an error. -/
def parse (s : List UInt8) : List ByteArray × Nat × Int := ending (lines 25 [] s 0)
end File
namespace Fl
open Go.RowKit
set_option maxRecDepth 100000
def slLen (v : Value) : Nat := match v with
  | .slice _ n _ => n
  | _ => 0
theorem Own.apartBlk {α : Type} {E : Enc α} {e t : TypeId} {B : Nat} {w : World} {v : Value} {xs : List α} {g : Nat} {cs : Array Value} (h : Own E e B w v xs) (hb : Blk w g t cs) (ht : t ≠ e) : v.ownBlock ≠ some g := fun hv => by
  rcases h.2 with ⟨rfl, _⟩ | ⟨g', cap, cur, rfl, _, hg, _⟩
  · cases hv
  · have hg' : g' = g := by simpa [Value.ownBlock] using hv
    unfold Blk at hb
    rw [hg', hb] at hg
    injection hg with hg
    injection hg with _ h2 _
    exact ht h2
theorem Own.only {α : Type} {E : Enc α} {e t : TypeId} {B : Nat} {w w' : World} {v : Value} {xs : List α} {g : Nat} {cs : Array Value} (h : Own E e B w v xs) (hb : Blk w g t cs) (ht : t ≠ e) (ho : Only g w w') : Own E e B w' v xs :=
  h.keep ho.below.size fun b hv => ho.other b (h.lt b hv).2 fun e => Own.apartBlk h hb ht (by rw [hv, e])
theorem takeN_ok : ∀ (n : Nat) (l : List UInt8) (k : Nat), (File.takeN n l k).1 = true → ∀ b ∈ l.take n, File.okB b = true := by
  intro n
  induction n with
  | zero => intro l k _ b hb; simp at hb
  | succ n ih =>
    intro l k h b hb
    unfold File.takeN at h
    split at h
    · rename_i ht
      cases l with
      | nil => simp at hb
      | cons c r =>
        have hc : File.okB c = true := ht
        rw [show File.rest File.okB (c :: r) = r from if_pos hc] at h
        rw [List.take_succ_cons] at hb
        rcases List.mem_cons.1 hb with rfl | hb
        · exact hc
        · exact ih _ _ h b hb
    · cases h
theorem readLine_good {l : List UInt8} {k : Nat} {x : List UInt8} (h : (File.readLine l k).1 = some x) : (File.ba x).size ≤ 40 ∧ File.okLine (File.ba x) = true := by
  unfold File.readLine at h
  dsimp only at h
  split at h
  · rename_i ht
    split at h
    · injection h with h
      subst h
      have hn := File.readNum_le l k
      have hs : (File.takeN (File.readNum l k).1 (File.readNum l k).2.2.1 (File.readNum l k).2.2.2).1 = true := by
        unfold File.runN at ht
        split at ht
        · exact ht
        · cases ht
      refine ⟨by rw [ba_size, List.length_take]; omega, ?_⟩
      unfold File.okLine
      rw [List.all_eq_true]
      intro b hb
      exact takeN_ok _ _ _ hs b (by simpa [File.ba] using hb)
    · cases h
  · cases h
theorem readLine_len (l : List UInt8) (k : Nat) : (File.readLine l k).2.2 + (File.readLine l k).2.1.length = k + l.length := by
  unfold File.readLine
  have h1 := runN_len (File.readNum l k).2.1 (File.readNum l k).1 (File.readNum l k).2.2.1 (File.readNum l k).2.2.2
  have h2 := readNum_len l k
  dsimp only
  split
  · split
    · have h3 := rest_length (· == 10) (File.runN (File.readNum l k).2.1 (File.readNum l k).1 (File.readNum l k).2.2.1 (File.readNum l k).2.2.2).2.1 (File.runN (File.readNum l k).2.1 (File.readNum l k).1 (File.readNum l k).2.2.1 (File.readNum l k).2.2.2).2.2
      dsimp only
      omega
    · dsimp only; omega
  · dsimp only; omega
theorem Good.snoc {l : List ByteArray} {x : ByteArray} (h : Good l) (hl : l.length < 24) (h1 : x.size ≤ 40) (h2 : File.okLine x = true) : Good (l ++ [x]) :=
  ⟨by simp; omega, fun s hs => by rcases List.mem_append.1 hs with h3 | h3; exact h.wide s h3; rw [List.mem_singleton.1 h3]; exact h1, fun s hs => by rcases List.mem_append.1 hs with h3 | h3; exact h.ok s h3; rw [List.mem_singleton.1 h3]; exact h2⟩
theorem Good.nil : Good [] := ⟨by simp, (fun _ h => by cases h), (fun _ h => by cases h)⟩
/-- What Parse hands back. -/
def ParseOk (B : Nat) (r : List ByteArray × Nat × Int) (e : Ending) (w' : World) : Prop := ∃ v, e = .returned (.tuple #[v, iv r.2.1, iv r.2.2]) ∧ Own strE 9 B w' v r.1 ∧ (r.2.2 ≠ 0 → v = .slice none 0 0)
set_option maxHeartbeats 8000000 in
theorem parse_spec (s : List UInt8) (w : World) (hs : s.length ≤ 1000000000) (ht : Tab w) :
    Calls Tryz.prog 47 #[.string (File.ba s)] w fun e w' => ParseOk w.heap.size (File.parse s) e w' ∧ Below w.heap.size w w' := by
  have hmf : ∀ (fn : Fn) (first cap : Array Value) (w : World), (Instr.makeFunc fn first cap).run Tryz.prog w = .ok (.func fn first cap) w := fun _ _ _ _ => rfl
  have HT := Lib.hid ht
  clear ht
  go_enter Tryz.func47, Tryz.ntmps47
  go_wp2_with fail
  have hR1 : RD (w.alloc (.cells #[.string (File.ba s), iv 0] 174)) w.heap.size s 0 := Blk.new _ _ _
  have hb1 : Below w.heap.size w (w.alloc (.cells #[.string (File.ba s), iv 0] 174)) := (Below.refl _ _).alloc (Nat.le_refl _) _
  have hz1 : w.heap.size + 1 ≤ (w.alloc (.cells #[.string (File.ba s), iv 0] 174)).heap.size := by simp
  generalize w.alloc (.cells #[.string (File.ba s), iv 0] 174) = w1 at *
  obtain ⟨L, hL⟩ : ∃ L, L = File.lines 25 [] s 0 := ⟨_, rfl⟩
  have HP : Hid (File.parse s = File.ending L) := Lib.hid (by rw [hL]; rfl)
  have HL := Lib.hid hL
  clear hL
  go_loopw [7, 8, 9] (fun v _ _ wr => ∃ (out : List ByteArray) (l : List UInt8) (k : Nat), Own strE 9 w.heap.size wr v out ∧ Good out ∧ RD wr w.heap.size l k ∧ Below w.heap.size w wr ∧ k + l.length = s.length ∧ Hid (File.lines (25 - out.length) out l k = L)) (fun v _ _ _ => 25 - slLen v)
  case atStart => exact ⟨[], s, 0, Own.nil, Good.nil, hR1, hb1, by omega, Lib.hid HL.out.symm⟩
  case round =>
    obtain ⟨out, l, k, hown, hgood, hR, hbw, hkl, hr⟩ := hrel
    obtain ⟨A, cp, rfl, hcp, hcm⟩ := hown.form
    have hom := hgood.many
    obtain ⟨m0, m1, m2⟩ := hR.agg
    obtain ⟨c, hc⟩ : ∃ c : Nat, c = (File.nextB l).toNat := ⟨_, rfl⟩
    have hc255 : c ≤ 255 := by have := (File.nextB l).toNat_lt; omega
    have HNR : Hid (∀ W : World, Calls Tryz.prog 108 #[.agg #[.string (File.ba l)]] W fun e w' => e = .returned (.int .u8 (c : Int)) ∧ Below W.heap.size W w') := Lib.hid fun W => by rw [hc]; exact next_spec l W
    have HDC : Hid (∀ W : World, Calls Tryz.prog 109 #[.int .u8 (c : Int)] W fun e w' => e = .returned (.bool (File.isDig (File.nextB l))) ∧ W = w') := Lib.hid fun W => by rw [hc]; exact digit_spec _ W
    have HONE : Hid (∀ (a : UInt8) (W : World), Calls Tryz.prog 111 #[bv a] W fun e w' => ∃ q, e = .returned (.agg #[.func (.func 161) #[] #[.pointer (some ⟨q, 0, none⟩)]]) ∧ Blk w' q 5 #[bv a] ∧ Below W.heap.size W w') := Lib.hid fun a W => one_spec a W
    have hcf := callFunc_run (P := Tryz.prog) (K := 107) (by kernel_rfl)
    by_cases h61 : c = 61
    · have h61i : ((c : Int) != 61) = false := by simp; omega
      have hn61 : File.nextB l = 61 := UInt8.toNat_inj.1 (by rw [← hc, h61]; rfl)
      have hLe : L = .inr (out, l, k) := by
        rw [← hr.out, show 25 - out.length = (24 - out.length) + 1 by omega, File.lines, if_pos hn61]
      rw [hLe] at HP
      unfold File.ending at HP
      dsimp only at HP
      have HN61 := Lib.hid hn61
      have HGO := Lib.hid hgood
      have HOW := Lib.hid hown
      clear hc h61 hn61 hLe hr HL HDC hgood hown
      go_wp2_with (go_at_call 108; refine (HNR.out _).mono ?_; rintro e w2 ⟨rfl, hb2⟩)
      refine (show Calls Tryz.prog 111 #[.int .u8 61] _ _ from HONE.out 61 _).mono ?_
      rintro e w3 ⟨q, rfl, hq, hb3⟩
      have hR3 := (hR.below hb2).below hb3
      have hb23 := hb2.trans (hb3.mono hb2.size)
      have hRg := hR.lt
      have HT1 := Lib.hid (takeOne 61 q w.heap.size k l w3 hR3 (by omega) hq)
      have HRL1 := Lib.hid (rest_length (· == 61) l k)
      obtain ⟨l1, hl1⟩ : ∃ l1, l1 = File.rest (· == 61) l := ⟨_, rfl⟩
      obtain ⟨k1, hk1⟩ : ∃ k1, k1 = File.on (· == 61) l k := ⟨_, rfl⟩
      rw [← hl1, ← hk1] at HT1 HP HRL1
      clear hl1 hk1 hb2 hb3 hR m0 m1 m2
      go_wp2_with fail
      refine HT1.out.mono ?_
      rintro e w4 ⟨rfl, hR4, hO4⟩
      have hO04 : Only w.heap.size wr w4 := (Only.of_below hb23 (Nat.le_of_lt hRg)).trans hO4
      have hown4 : Own strE 9 w.heap.size w4 (.slice A out.length cp) out := Own.only (HOW.out.below hb23) hR3 (by decide) hO4
      have hbw4 : Below w.heap.size w w4 := hbw.trans hO04.below
      have hsl4 := hown4.sl
      have HEN := Lib.hid (end_spec A out cp w4 HGO.out hsl4 (HT.out.below hbw4))
      clear HT1 hR3 hb23 hO4 hsl4
      go_wp2_with fail
      refine HEN.out.mono ?_
      rintro e w5 ⟨rfl, hb5⟩
      have hR5 := hR4.below hb5
      have hown5 := hown4.below hb5
      have hbw5 := hbw4.next hb5 (Nat.le_refl _)
      obtain ⟨T, hTe⟩ : ∃ T, T = File.matchAll (File.endOf out) l1 k1 := ⟨_, rfl⟩
      rw [← hTe] at HP
      have HTE := Lib.hid hTe
      obtain ⟨W, hW⟩ : ∃ W, W = File.endOf out := ⟨_, rfl⟩
      have hWl : W.length ≤ 1000 := by
        have := sum_bounds out
        have h2 := dec_len 5 (File.sum out).toNat (by omega)
        rw [hW]; unfold File.endOf; simp; omega
      rw [← hW] at HTE ⊢
      clear hTe hW hR4 hown4 hbw4 hb5 HEN
      go_wp2_with fail
      have hsz : (File.ba W).size = W.length := ba_size W
      have HSZ := Lib.hid hsz
      have hWs : (File.ba W).size ≤ 1000 := by omega
      clear hsz
      go_loopw [11, 64] (fun _ i wx => ∃ (j : Nat) (lj : List UInt8) (kj : Nat), j ≤ (File.ba W).size ∧ i = iv j ∧ RD wx w.heap.size lj kj ∧ Own strE 9 w.heap.size wx (.slice A out.length cp) out ∧ Below w.heap.size w wx ∧ kj + lj.length = s.length ∧ Hid (File.matchAll (W.drop j) lj kj = T)) (fun _ i _ => (File.ba W).size - (intOf i).toNat)
      case atStart => exact ⟨0, l1, k1, Nat.zero_le _, rfl, hR5, hown5, hbw5, by have := HRL1.out; omega, Lib.hid HTE.out.symm⟩
      case round =>
        clear hR5 hown5 hbw5
        obtain ⟨j, lj, kj, hj, rfl, hRj, hoj, hbj, hkj, hr⟩ := hrel
        by_cases hlt : j < (File.ba W).size
        · have hji : (j : Int) < ((File.ba W).size : Int) := by omega
          have hjl : j < W.length := by rw [← HSZ.out]; exact hlt
          have hget : (File.ba W)[j]'hlt = W[j]'hjl := by simp [File.ba, ByteArray.getElem_eq_getElem_data]
          have hr' := hr.out
          rw [List.drop_eq_getElem_cons hjl, File.matchAll] at hr'
          generalize W[j]'hjl = a at hget hr'
          have HR := Lib.hid hr'
          have HGET := Lib.hid hget
          clear hr hr' hget hjl
          have hRg := hRj.lt
          go_wp2_with fail
          rw [HGET.out]
          refine (HONE.out a _).mono ?_
          rintro e w6 ⟨q6, rfl, hq6, hb6⟩
          have hR6 := hRj.below hb6
          have HT6 := Lib.hid (takeOne a q6 w.heap.size kj lj w6 hR6 (by omega) hq6)
          cases hta : File.takes (· == a) lj
          · rw [hta] at HT6 HR
            rw [rest_no hta, on_no hta] at HT6
            simp only [Bool.false_eq_true, if_false] at HR
            clear hta
            go_upto_region 19 with (go_at_call 107; refine HT6.out.mono ?_; rintro e w7 ⟨rfl, hR7, hO7⟩)
            obtain ⟨m0, m1, m2⟩ := hR7.agg
            have hfin : Below w.heap.size w w7.drew := ((hbj.next hb6 (Nat.le_refl _)).trans hO7.below).drew
            have HX : Hid (File.parse s = ([], kj, 8)) := Lib.hid (by rw [HP.out, ← HR.out]; rfl)
            go_region
            go_wp2_with fail
            go_ret3
            refine ⟨?_, hfin⟩
            rw [HX.out]
            exact ⟨_, rfl, Own.nil, fun _ => rfl⟩
          · rw [hta] at HT6 HR
            simp only [if_true] at HR
            have HRL := Lib.hid (rest_length (· == a) lj kj)
            clear hta
            go_wp2_with (go_at_call 107; refine HT6.out.mono ?_; rintro e w7 ⟨rfl, hR7, hO7⟩)
            have hb7 : Below w.heap.size w w7 := (hbj.next hb6 (Nat.le_refl _)).trans hO7.below
            have ho7 := Own.only (hoj.below hb6) hR6 (by decide) hO7
            go_roundw
            case rel => exact ⟨j + 1, _, _, by omega, by go_num, hR7, ho7, hb7, by have := HRL.out; omega, HR⟩
            case measure => simp [intOf]; omega
        · have hji : ¬ (j : Int) < ((File.ba W).size : Int) := by omega
          have hr' := hr.out
          rw [List.drop_eq_nil_of_le (by rw [← HSZ.out]; omega)] at hr'
          have hT : T = (true, lj, kj) := by rw [← hr']; rfl
          rw [hT] at HP
          dsimp only at HP
          clear hr hr' hT HTE
          obtain ⟨m0, m1, m2⟩ := hRj.agg
          cases lj with
          | nil =>
            have h1 := ba_em
            have HX : Hid (File.parse s = (out, 0, 0)) := Lib.hid (by rw [HP.out, if_pos ⟨rfl, rfl⟩])
            go_wp2_with fail
            go_ret3
            refine ⟨?_, hbj⟩
            rw [HX.out]
            exact ⟨_, rfl, hoj, fun h => absurd rfl h⟩
          | cons b r =>
            have h1 := ba_ne (b := b) (l := r)
            have HX : Hid (File.parse s = ([], kj, 8)) := Lib.hid (by rw [HP.out, if_neg (fun h => by cases h.2)])
            go_upto_region 22 with fail
            have hfin : Below w.heap.size w wr.drew := hbj.drew
            go_region
            go_wp2_with fail
            go_ret3
            refine ⟨?_, hfin⟩
            rw [HX.out]
            exact ⟨_, rfl, Own.nil, fun _ => rfl⟩
    · have h61i : ((c : Int) != 61) = true := by simp; omega
      have hn61 : ¬ File.nextB l = 61 := fun h => h61 (by rw [hc, h]; rfl)
      have hr' := hr.out
      rw [show 25 - out.length = (24 - out.length) + 1 by omega, File.lines, if_neg hn61] at hr'
      have hmw := hR.lt
      by_cases h24 : out.length = 24
      · rw [if_pos h24] at hr'
        have h24i : ((out.length : Int) == 24) = true := by simp; omega
        have h24j : ¬ (out.length : Int) < 24 := by omega
        have h24k : ¬ out.length < 24 := by omega
        cases hd : File.isDig (File.nextB l)
        · rw [hd] at HDC hr'
          have HX : Hid (File.parse s = ([], k, 11)) := Lib.hid (by rw [HP.out, ← hr']; rfl)
          clear hr hr' hn61 hc h24 hd
          go_upto_region 11 with (first
            | (go_at_call 108; refine (HNR.out _).mono ?_; rintro e w2 ⟨rfl, hb2⟩; first | have hR3 := hR2.below hb2; obtain ⟨m3, m4, m5⟩ := hR3.agg; have hb03 := hb02.next hb2 (Nat.le_refl _) | have hR2 := hR.below hb2; obtain ⟨m0, m1, m2⟩ := hR2.agg; have hb02 := hbw.next hb2 (Nat.le_refl _))
            | (go_at_call 109; refine (HDC.out _).mono ?_; rintro e w' ⟨rfl, rfl⟩))
          have hfin := hb03.drew
          go_region
          go_wp2_with fail
          go_ret3
          refine ⟨?_, hfin⟩
          rw [HX.out]
          exact ⟨_, rfl, Own.nil, fun _ => rfl⟩
        · rw [hd] at HDC hr'
          have HX : Hid (File.parse s = ([], k, 2)) := Lib.hid (by rw [HP.out, ← hr']; rfl)
          clear hr hr' hn61 hc h24 hd
          go_upto_region 6 with (first
            | (go_at_call 108; refine (HNR.out _).mono ?_; rintro e w2 ⟨rfl, hb2⟩; first | have hR3 := hR2.below hb2; obtain ⟨m3, m4, m5⟩ := hR3.agg; have hb03 := hb02.next hb2 (Nat.le_refl _) | have hR2 := hR.below hb2; obtain ⟨m0, m1, m2⟩ := hR2.agg; have hb02 := hbw.next hb2 (Nat.le_refl _))
            | (go_at_call 109; refine (HDC.out _).mono ?_; rintro e w' ⟨rfl, rfl⟩))
          have hfin := hb03.drew
          go_region
          go_wp2_with fail
          go_ret3
          refine ⟨?_, hfin⟩
          rw [HX.out]
          exact ⟨_, rfl, Own.nil, fun _ => rfl⟩
      · rw [if_neg h24] at hr'
        have h24i : ((out.length : Int) == 24) = false := by simp; omega
        have h24j : (out.length : Int) < 24 := by omega
        have h24l : out.length < 24 := by omega
        have HLN := Lib.hid (fun (W : World) (h : RD W w.heap.size l k) => line_spec w.heap.size k l W h (by omega))
        have hll := readLine_len l k
        cases hx : (File.readLine l k).1 with
        | none =>
          rw [hx] at HLN
          have HX : Hid (File.parse s = ([], (File.readLine l k).2.2, 11)) := Lib.hid (by rw [HP.out, ← hr', hx]; rfl)
          clear hr hr' hn61 hc h24 hx
          generalize (File.readLine l k).2 = q at *
          obtain ⟨l', k'⟩ := q
          dsimp only at HLN HX hll
          go_upto_region 11 with (first
            | (go_at_call 108; refine (HNR.out _).mono ?_; rintro e w2 ⟨rfl, hb2⟩; have hR2 := hR.below hb2; have hb02 := hbw.next hb2 (Nat.le_refl _))
            | (go_at_call 110; refine (HLN.out _ hR2).mono ?_; rintro e w3 ⟨rfl, hR3, hO3⟩; obtain ⟨m3, m4, m5⟩ := hR3.agg))
          have hfin := (hb02.trans hO3.below).drew
          go_region
          go_wp2_with fail
          go_ret3
          refine ⟨?_, hfin⟩
          rw [HX.out]
          exact ⟨_, rfl, Own.nil, fun _ => rfl⟩
        | some x =>
          rw [hx] at HLN hr'
          have hxg := readLine_good hx
          have HR : Hid (File.lines (25 - (out ++ [File.ba x]).length) (out ++ [File.ba x]) (File.readLine l k).2.1 (File.readLine l k).2.2 = L) := Lib.hid (by rw [← hr']; simp only [List.length_append, List.length_singleton]; rw [show 25 - (out.length + 1) = 24 - out.length by omega])
          have hgs := hgood.snoc h24l hxg.1 hxg.2
          clear hr hr' hn61 hc h24 hx
          generalize (File.readLine l k).2 = q at *
          obtain ⟨l', k'⟩ := q
          dsimp only at HLN HR hll
          go_wp2_with (first
            | (go_at_call 108; refine (HNR.out _).mono ?_; rintro e w2 ⟨rfl, hb2⟩; have hR2 := hR.below hb2; have hb02 := hbw.next hb2 (Nat.le_refl _); have ho2 := hown.below hb2)
            | (go_at_call 110; refine (HLN.out _ hR2).mono ?_; rintro e w3 ⟨rfl, hR3, hO3⟩; have ho3 := Own.only ho2 hR2 (by decide) hO3; have hb03 := hb02.trans hO3.below)
            | (at_builtin; refine wpApp1 strE tyStrs rfl _ _ rfl ho3 (File.ba x) rfl rfl rfl hb03.size (by unfold big; omega) ?_; intro v5 w5 hown5 hb5 hot5))
          have hR5 : RD w5 w.heap.size l' k' := (hot5 _ hR3.lt (Own.apartBlk ho3 hR3 (by decide))).trans hR3
          obtain ⟨A5, c5, rfl, _, _⟩ := hown5.form
          go_roundw
          case rel => exact ⟨out ++ [File.ba x], l', k', hown5, hgs, hR5, hb03.trans hb5, by omega, HR⟩
          case measure => simp [slLen]; omega
end Fl
end Go.Proofs.YtkmcacgeecfjgaaGreatDoor
end
