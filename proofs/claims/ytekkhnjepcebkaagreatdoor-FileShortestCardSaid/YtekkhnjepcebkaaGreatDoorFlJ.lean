/- Package file: the longest common pairs. Conditions: files that are right. -/
import Derived.Test.YtekkhnjepcebkaaGreatDoorFlI
set_option linter.unusedVariables false
set_option linter.unusedSimpArgs false
namespace Go.Proofs.YtekkhnjepcebkaaGreatDoor
namespace Fl
open Go.RowKit Go.Maps Go.WideMaps Go.ChangeShapes
set_option maxRecDepth 100000
theorem groups_map {w : World} {B m n : Nat} {D : DataW Unit} (h : w.ownsGroups (H := Unit) Tryz.prog 9 B 3 .i64 m n D) : IsMap D := by
  obtain ⟨_, _, _, _, _, e, _⟩ := h
  exact ⟨_, e⟩
theorem Blk.row {W w3 : World} {m B : Nat} {t : TypeId} {cs : Array Value} {v : Value} {zs : List Int} (h : Blk W m t cs) (hoi : W.ownsInts B 3 .i64 v zs) (hg : W.grownBy w3 v.ownBlock) (hm : m < B) : Blk w3 m t cs :=
  (hg.block m h.lt fun e => by have := (hoi.1.lt m e.symm).1; omega).trans h
theorem Blk.turned {W w3 : World} {m M : Nat} {t : TypeId} {cs : Array Value} (h : Blk W m t cs) (hg : W.grownBy w3 (some M)) (hm : m ≠ M) : Blk w3 m t cs :=
  (hg.block m h.lt fun e => by cases e; omega).trans h
theorem Only.grown {M : Nat} {w0 w w' : World} {row : Option Nat} (h : Only M w0 w) (hg : w.grownBy w' row) (hr : ∀ j, row = some j → w0.heap.size ≤ j ∨ j = M) (hM : M ≤ w0.heap.size) : Only M w0 w' := by
  have hs := h.below.size
  refine ⟨⟨hg.os.trans h.below.os, hg.tape.trans h.below.tape, hg.output.trans h.below.output, Nat.le_trans hs hg.size, fun k hk => ?_⟩, fun k hk hne => ?_⟩
  · refine (hg.block k (by omega) fun e => ?_).trans (h.below.block k hk)
    rcases hr k e.symm with h1 | h1 <;> omega
  · refine (hg.block k (by omega) fun e => ?_).trans (h.other k hk hne)
    rcases hr k e.symm with h1 | h1 <;> omega
theorem common_spec (A : Option Addr) (a : List ByteArray) (c : Nat) (A' : Option Addr) (b : List ByteArray) (c' : Nat) (w : World) (hal : a.length ≤ 24) (hbl : b.length ≤ 24) (hsa : Sl strE w A a) (hsb : Sl strE w A' b) (ham : ∀ s ∈ a, s.size ≤ 1000) (hbm : ∀ s ∈ b, s.size ≤ 1000) :
    Calls Tryz.prog 86 #[.slice A a.length c, .slice A' b.length c'] w fun e w' => ∃ v, e = .returned v ∧ Own pairE 137 w.heap.size w' v (File.common a b) ∧ Below w.heap.size w w' := by
  have HL := Lib.hid (fun w1 hb => lens_spec A a c A' b c' w1 hal hbl (Sl.below (w' := w1) hsa hb) (hsb.below hb))
  go_enter Tryz.func86, Tryz.ntmps86
  have hmm := @run_makeMap Tryz.prog
  have hBA : Below w.heap.size w (w.alloc (Obj.cells #[Value.slice A a.length c] 22)) := (Below.refl _ _).alloc (Nat.le_refl _) _
  have hC0 : Blk (w.alloc (Obj.cells #[Value.slice A a.length c] 22)) w.heap.size 22 #[.slice A a.length c] := Blk.new _ _ _
  go_wp2_with (go_at_call 148; refine (HL.out _ hBA).mono ?_)
  rintro e w1 ⟨g, rfl, hG, hb1⟩
  have hgl : w.heap.size < w1.heap.size := by have := hb1.size; simp at this; omega
  have hC1 : Blk w1 w.heap.size 22 #[.slice A a.length c] := hC0.under hb1
  have hb2 := Lib.hid (hBA.next hb1 (by simp))
  have hgs : g < w1.heap.size := by obtain ⟨_, h, _⟩ := hG; exact h.lt
  clear HL hC0 hBA hb1
  go_wp2_with fail
  have hW0 := Lib.hid (where_nil (w1.alloc (.cells #[.pointer (some ⟨g, 0, none⟩)] 205)) (.cells #[.map (some (w1.heap.size + 1))] 207))
  have hP := Lib.hid (((Blk.new w1 205 #[.pointer (some ⟨g, 0, none⟩)]).alloc (.map #[] 0)).alloc (.cells #[.map (some (w1.heap.size + 1))] 207))
  have hM := Lib.hid (Blk.new ((w1.alloc (.cells #[.pointer (some ⟨g, 0, none⟩)] 205)).alloc (.map #[] 0)) 207 #[.map (some (w1.heap.size + 1))])
  have hb3 := Lib.hid ((((Below.refl w1.heap.size w1).alloc (Nat.le_refl _) (.cells #[.pointer (some ⟨g, 0, none⟩)] 205)).alloc (by simp) (.map #[] 0)).alloc (by simp; omega) (.cells #[.map (some (w1.heap.size + 1))] 207))
  have hsz : (((w1.alloc (.cells #[.pointer (some ⟨g, 0, none⟩)] 205)).alloc (.map #[] 0)).alloc (.cells #[.map (some (w1.heap.size + 1))] 207)).heap.size = w1.heap.size + 3 := by simp
  have hM' := hM.out
  simp at hM' hW0
  generalize (((w1.alloc (.cells #[.pointer (some ⟨g, 0, none⟩)] 205)).alloc (.map #[] 0)).alloc (.cells #[.map (some (w1.heap.size + 1))] 207)) = w2 at *
  clear hM
  go_loopw [17] (fun v wS => ∃ (k : Nat), k ≤ b.length ∧ v = iv (k : Int) ∧ Hid (Where wS (w1.heap.size + 1) (w1.heap.size + 3) (b.take k)) ∧ Hid (Only (w1.heap.size + 1) w2 wS)) (fun v _ => b.length - (intOf v).toNat)
  case atStart =>
    have h0 : Hid (Where w2 (w1.heap.size + 1) (w1.heap.size + 3) (b.take 0)) := hW0
    exact ⟨0, Nat.zero_le _, rfl, h0, Only.refl _ _⟩
  case round =>
    obtain ⟨k, hk, rfl, HW, HO⟩ := hrel
    have hgr : w2.heap.size ≤ wr.heap.size := HO.out.below.size
    have hC2 : Blk wr w.heap.size 22 #[.slice A a.length c] := Blk.only ((Blk.below hC1 hb3.out hgl)) (by omega) HO.out
    have hM2 : Blk wr (w1.heap.size + 1 + 1) 207 #[.map (some (w1.heap.size + 1))] := Blk.only hM' (by omega) HO.out
    by_cases hlt : k < b.length
    · have hbw : Below w.heap.size w wr := (hb2.out.trans (hb3.out.mono (by omega))).trans (HO.out.below.mono (by omega))
      obtain ⟨ba, off, s, rfl, hba, hx, hc0⟩ := Sl.atS (hsb.below hbw) hlt
      have hsm : s.size ≤ maxLen := by have := hbm s (List.mem_of_getElem? hx); unfold maxLen; omega
      have hlw : w1.heap.size + 3 ≤ wr.heap.size := by omega
      have hbd : Below wr.heap.size wr wr.drew := (Below.refl _ _).drew
      have hM2 := Blk.under hM2 hbd
      obtain ⟨n, D, hn, hG2, hR⟩ := Where.below HW.out hbd
      have HR := Lib.hid hR
      have HG2 := Lib.hid hG2
      have hnl : n < maxLen := by simp at hn; unfold maxLen; omega
      have hn' := Lib.hid hn
      have hS0 : wr.drew.cell? ⟨w1.heap.size + 1 + 1, 0, none⟩ = some (.map (some (w1.heap.size + 1))) := hM2.cell 0
      obtain ⟨v0, zs0, v2, zs2, hrun0, hrun2, L0, L2⟩ := look_both (.cells #[iv k] 3) HG2.out hnl hsm
      have hrun3 : (Instr.lookup 207 (.map (some (w1.heap.size + 1))) (.string s) false).run Tryz.prog (wr.alloc (.cells #[iv k] 3)).drew = .ok v2 (wr.alloc (.cells #[iv k] 3)).drew := hrun2
      clear hR hG2 hn HW
      go_upto_region 6 with fail
      go_region_held3 (fun a => a.cell? ⟨w1.heap.size + 1 + 1, 0, none⟩ = some (.map (some (w1.heap.size + 1)))) (first | assumption | exact (Blk.alloc hM2 _).cell 0)
        (first
          | (refine stepAppW rfl _ _ rfl (w := wr.drew) k (by omega) rfl L0.own (by have := hn'.out; have := L0.len; simp at *; omega) rfl rfl rfl (by simp; omega) ?_; intro v1 w3 hoi1 hgr1 hloc1; have hM3 := Blk.row (Blk.alloc hM2 _) L0.own hgr1 (by omega); have hS1 := Blk.cell hM3 0; obtain ⟨w4, hrun4, hG4, hgr4⟩ := L0.back w3 v1 _ hgr1 hoi1 (by have := L0.len; simp; omega) hloc1; have hM4 := Blk.turned hM3 hgr4 (by omega); have hS4 := Blk.cell hM4 0; have LL := L0)
          | (refine stepAppW rfl _ _ rfl (w := wr.drew) k (by omega) rfl L2.own (by have := hn'.out; have := L2.len; simp at *; omega) rfl rfl rfl (by simp; omega) ?_; intro v1 w3 hoi1 hgr1 hloc1; have hM3 := Blk.row (Blk.alloc hM2 _) L2.own hgr1 (by omega); have hS1 := Blk.cell hM3 0; obtain ⟨w4, hrun4, hG4, hgr4⟩ := L2.back w3 v1 _ hgr1 hoi1 (by have := L2.len; simp; omega) hloc1; have hM4 := Blk.turned hM3 hgr4 (by omega); have hS4 := Blk.cell hM4 0; have LL := L2))
      all_goals
        have hlk : (b.take k).length = k := by simp; omega
        have hW5 : Hid (Where w4 (w1.heap.size + 1) (w1.heap.size + 3) (b.take (k + 1))) := by
          rw [show b.take (k + 1) = b.take k ++ [s] by rw [List.take_add_one, hx]; rfl]
          exact where_snoc hlk hn'.out (groups_map HG2.out) HR.out hsm LL.at_ LL.own hoi1 hG4
        have hO5 : Hid (Only (w1.heap.size + 1) w2 w4) := by
          refine Only.grown (Only.grown (Only.grown (Only.drew HO.out) (World.grownBy_alloc _ (.cells #[iv k] 3) none) (by simp) (by omega)) hgr1 (fun j hj => .inl ?_) (by omega)) hgr4 (fun j hj => .inr (by simpa using hj.symm)) (by omega)
          have := (LL.own.1.lt j hj).1
          omega
        clear hlk hoi1 hgr1 hloc1 hM3 hS1 hrun4 hG4 hgr4 hM4 hS4 LL L0 L2 hrun0 hrun2 hrun3 HG2 HR hn'
        go_wp2_with fail
        go_roundw
        case rel => exact ⟨k + 1, by omega, by go_num, hW5, hO5⟩
        case measure => simp [intOf]; omega
    · have hke : k = b.length := by omega
      have hbw : Below w.heap.size w wr := (hb2.out.trans (hb3.out.mono (by omega))).trans (HO.out.below.mono (by omega))
      have hb13 : Below w1.heap.size w1 wr := hb3.out.trans (HO.out.below.mono (by omega))
      have hP2 : Blk wr w1.heap.size 205 #[bp g] := Blk.only hP.out (by omega) HO.out
      have hWb : Where wr (w1.heap.size + 1) (w1.heap.size + 3) b := by have := HW.out; rw [hke, List.take_length] at this; exact this
      have HSC : Hid (Scene wr w.heap.size w1.heap.size (w1.heap.size + 1 + 1) g (w1.heap.size + 1) (w1.heap.size + 3) A c a b) :=
        ⟨hal, hbl, ham, hP2, hC2, hM2, hG.below hb13, by omega, hWb, hsa.below hbw⟩
      have hb4 : Below wr.heap.size wr ((wr.alloc (.cells #[.slice none 0 0] 134)).alloc (.cells #[.func (.func 149) #[] #[bp w1.heap.size, bp w.heap.size, bp (w1.heap.size + 1 + 1), bp wr.heap.size, bp (wr.heap.size + 1)]] 208)) := ((Below.refl _ _).alloc (Nat.le_refl _) _).alloc (by simp) _
      have hO4 : Blk ((wr.alloc (.cells #[.slice none 0 0] 134)).alloc (.cells #[.func (.func 149) #[] #[bp w1.heap.size, bp w.heap.size, bp (w1.heap.size + 1 + 1), bp wr.heap.size, bp (wr.heap.size + 1)]] 208)) wr.heap.size 134 #[.slice none 0 0] := (Blk.new _ _ _).alloc _
      have hF4 : Blk ((wr.alloc (.cells #[.slice none 0 0] 134)).alloc (.cells #[.func (.func 149) #[] #[bp w1.heap.size, bp w.heap.size, bp (w1.heap.size + 1 + 1), bp wr.heap.size, bp (wr.heap.size + 1)]] 208)) (wr.heap.size + 1) 208 #[.func (.func 149) #[] #[bp w1.heap.size, bp w.heap.size, bp (w1.heap.size + 1 + 1), bp wr.heap.size, bp (wr.heap.size + 1)]] := Blk.new_ _ _ _ (by simp)
      clear hC2 hM2 hP2 hWb HW HO hG hb13
      go_wp2_with fail
      refine (more_spec HSC (a.length + 1) 0 0 [] (.slice none 0 0) _ (by omega) (Nat.zero_le _) (Nat.zero_le _) (by simp; omega) hb4 hO4 hF4 Own.nil).mono ?_
      rintro e w5 ⟨rfl, hb5, v5, hv5, hw5⟩
      have hbF : Below w.heap.size w w5 := hbw.next hb5 (Nat.le_refl _)
      have c9 := hv5.cell 0
      have hwF : Own pairE 137 w.heap.size w5 v5 (File.common a b) := Own.base hw5 (by have := hbw.size; omega)
      clear hw5 hv5 hb5 hO4 hF4 hb4 HSC
      go_wp2_with fail
      go_ret
      exact ⟨v5, rfl, hwF, hbF⟩
end Fl
end Go.Proofs.YtekkhnjepcebkaaGreatDoor
