/- Package file: Common. Condition: lengths are below a great bound. -/
import Derived.Test.YtekkhnjepcebkaaGreatDoorFlJ
set_option linter.unusedVariables false
set_option linter.unusedSimpArgs false
namespace Go.Proofs.YtekkhnjepcebkaaGreatDoor
namespace Fl
open Go.RowKit Go.Maps Go.WideMaps Go.ChangeShapes
set_option maxRecDepth 100000
/-- The error of two files. -/
def errOf (a b : List ByteArray) : Int := if File.check a = 0 then File.check b else File.check a
theorem tyArr2 : SlTy Tryz.prog 80 83 2 := slTy_of (z := .agg #[iv 0, iv 0]) (bytes := 16) Tryz.underlying80 (by kernel_rfl) rfl (by decide)
theorem err_good {a b : List ByteArray} (h : errOf a b = 0) : File.check a = 0 ∧ File.check b = 0 := by
  unfold errOf at h
  split at h
  · exact ⟨by assumption, h⟩
  · omega
theorem Common_spec (A : Option Addr) (a : List ByteArray) (c : Nat) (A' : Option Addr) (b : List ByteArray) (c' : Nat) (w : World) (ha : a.length ≤ big) (hb : b.length ≤ big) (hsa : Sl strE w A a) (hsb : Sl strE w A' b) :
    Calls Tryz.prog 43 #[.slice A a.length c, .slice A' b.length c'] w fun e w' => ∃ v, e = .returned (.tuple #[v, iv (errOf a b)]) ∧ Own pairE 83 w.heap.size w' v (if errOf a b = 0 then File.common a b else []) ∧ Below w.heap.size w w' := by
  have HB := Lib.hid (both_spec A a c A' b c' w ha hb hsa hsb)
  by_cases h : errOf a b = 0
  · have h1 := err_good h
    have g1 := good_of_check h1.1
    have g2 := good_of_check h1.2
    rw [h, if_pos rfl]
    have HB2 : Hid (Calls Tryz.prog 81 #[.slice A a.length c, .slice A' b.length c'] w fun e w' => e = .returned (iv 0) ∧ Below w.heap.size w w') := Lib.hid (HB.out.mono (by rintro e w' ⟨rfl, hb'⟩; exact ⟨by rw [show (if File.check a = 0 then File.check b else File.check a) = 0 from h], hb'⟩))
    clear HB h
    go_enter Tryz.func43, Tryz.ntmps43
    go_wp2_with fail
    refine HB2.out.mono ?_
    rintro e w1 ⟨rfl, hb1⟩
    go_wp2_with fail
    refine (common_spec A a c A' b c' w1 g1.many g2.many (hsa.below hb1) (hsb.below hb1) (fun s hs => Nat.le_trans (g1.wide s hs) (by decide)) (fun s hs => Nat.le_trans (g2.wide s hs) (by decide))).mono ?_
    rintro e w2 ⟨v, rfl, hv, hb2⟩
    obtain ⟨X, cx, rfl, hcx, hmx⟩ := hv.form
    have hb02 : Below w.heap.size w w2 := hb1.next hb2 (Nat.le_refl _)
    have hsl := hv.sl
    have hll : (File.common a b).length ≤ 24 := by rw [File.common_length]; exact Nat.le_trans (File.lcs_most a b) g1.many
    obtain ⟨l, hl⟩ : ∃ l, l = File.common a b := ⟨_, rfl⟩
    rw [← hl] at hsl hll
    rw [← hl]
    have HL := Lib.hid hl
    clear hl hv
    go_wp2_with fail
    go_loopw [7, 20] (fun u i wr => ∃ k : Nat, k ≤ l.length ∧ i = iv (k : Int) ∧ Hid (Own pairE 83 w2.heap.size wr u (l.take k)) ∧ Hid (Below w2.heap.size w2 wr)) (fun _ i _ => l.length - (intOf i).toNat)
    case atStart => exact ⟨0, Nat.zero_le _, rfl, Own.nil, Below.refl _ _⟩
    case round =>
      obtain ⟨k, hk, rfl, HO, HBR⟩ := hrel
      by_cases hlt : k < l.length
      · obtain ⟨bx, ox, p, rfl, hbx, hp, hc⟩ := Sl.at_ (hsl.below HBR.out) hlt
        obtain ⟨x, y⟩ := p
        have q0 : wr.cell? ⟨bx, ox + k * 2, none⟩ = some (iv (x : Int)) := by simpa [pairE] using hc 0 (iv (x : Int)) rfl
        have q1 : wr.cell? ⟨bx, ox + k * 2 + 1, none⟩ = some (iv (y : Int)) := by simpa [pairE] using hc 1 (iv (y : Int)) rfl
        have hzr := HBR.out.size
        clear hc
        go_upto_region 8 with fail
        have hNb : Below wr.heap.size wr (wr.alloc (.cells #[Value.int .i64 (x : Int), Value.int .i64 (y : Int)] 137)) := (Below.refl _ _).alloc (Nat.le_refl _) _
        have hNx : Blk (wr.alloc (.cells #[Value.int .i64 (x : Int), Value.int .i64 (y : Int)] 137)) wr.heap.size 137 #[iv (x : Int), iv (y : Int)] := Blk.new _ _ _
        generalize wr.alloc (.cells #[Value.int .i64 (x : Int), Value.int .i64 (y : Int)] 137) = wN at *
        have n0 := hNx.cell 0
        have n1 := hNx.cell 1
        have hzN := hNb.size
        have HON := Lib.hid (Own.below HO.out hNb)
        have HBN := Lib.hid (HBR.out.next hNb (Nat.le_refl _))
        have hkl : (l.take k).length + 1 ≤ big := by rw [List.length_take]; unfold big; omega
        have htk : Hid (l.take (k + 1) = l.take k ++ [(x, y)]) := Lib.hid (by rw [List.take_add_one, hp]; rfl)
        clear q0 q1 HO HBR hNb hp
        go_wp2_with (first
          | (at_builtin; refine wpApp1 pairE tyArr2 rfl _ _ rfl HON.out (x, y) rfl rfl rfl (by omega) hkl ?_; intro v1 w4 hown1 hb1 hk1))
        go_roundw
        case rel => exact ⟨k + 1, by omega, by go_num, by rw [htk.out]; exact hown1, HBN.out.trans hb1⟩
        case measure => simp [intOf]; omega
      · have hke : k = l.length := by omega
        have hOF := HO.out
        rw [hke, List.take_length] at hOF
        have hbF : Below w.heap.size w wr := hb02.next HBR.out (Nat.le_refl _)
        have hOw := Lib.hid (Own.base hOF hb02.size)
        clear HO hOF HBR
        go_wp2_with fail
        go_ret2
        refine ⟨_, rfl, ?_, hbF⟩
        rw [← HL.out]
        exact hOw.out
  · rw [if_neg h]
    have HB2 : Hid (Calls Tryz.prog 81 #[.slice A a.length c, .slice A' b.length c'] w fun e w' => e = .returned (iv (errOf a b)) ∧ Below w.heap.size w w') := Lib.hid HB.out
    clear HB
    obtain ⟨r, hr⟩ : ∃ r, r = errOf a b := ⟨_, rfl⟩
    rw [← hr] at HB2 h
    rw [← hr]
    have hne : (r != 0) = true := by simpa using h
    clear hr h
    go_enter Tryz.func43, Tryz.ntmps43
    go_wp2_with fail
    refine HB2.out.mono ?_
    rintro e w1 ⟨rfl, hb1⟩
    go_wp2_with fail
    go_ret2
    exact ⟨_, rfl, Own.nil, hb1⟩
end Fl
end Go.Proofs.YtekkhnjepcebkaaGreatDoor
