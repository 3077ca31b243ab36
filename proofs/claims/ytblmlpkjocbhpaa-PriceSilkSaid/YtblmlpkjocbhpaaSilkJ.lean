/- Package silk, for a mill of one lot: where silk is. Conditions: weighings that are right. -/
import Derived.Test.YtblmlpkjocbhpaaSilkI
set_option linter.unusedVariables false
set_option linter.unusedSimpArgs false
namespace Go.Proofs.Ytblmlpkjocbhpaa
open Go.RowKit Go.Maps
set_option maxRecDepth 100000
theorem where1_spec (g : Nat) (w : World) (hg : g < w.heap.size) (hc : w.cell? ⟨g, 0, none⟩ = some (iv 2)) : Calls Try.prog 123 #[iv 2, .pointer (some ⟨g, 0, none⟩)] w fun e w' => e = .returned (.bool true) ∧ Below w.heap.size w w' := by
  go_enter Try.func123, Try.ntmps123
  go_wp2_with fail
  go_ret
  exact ⟨rfl, Below.refl _ _⟩
theorem where2_spec (g : Nat) (w : World) (hg : g < w.heap.size) (hc : w.cell? ⟨g, 0, none⟩ = some (iv 2)) : Calls Try.prog 124 #[iv 2, .pointer (some ⟨g, 0, none⟩)] w fun e w' => e = .returned (.bool false) ∧ Below w.heap.size w w' := by
  go_enter Try.func124, Try.ntmps124
  go_wp2_with fail
  go_ret
  exact ⟨rfl, Below.refl _ _⟩
set_option maxHeartbeats 4000000 in
theorem where_spec (Al : Option Addr) (cl : Nat) (Aw : Option Addr) (ws : List Weigh) (c : Nat) (w : World) (hl : Sl lotE w Al [⟨-1, 2⟩]) (hw : Sl weighE w Aw ws) (hn : ws.length ≤ 10) (hok : ∀ x ∈ ws, x.Ok) (h : (Price.sbnd ws).1 ≤ (Price.sbnd ws).2) (hlo : 0 ≤ (Price.sbnd ws).1) (hhi : (Price.sbnd ws).2 ≤ 10000) :
    Calls Try.prog 78 #[millV Al cl Aw ws.length c, iv 2] w fun e w' => e = .returned (.tuple #[.agg #[iv (Price.sbnd ws).1, iv (Price.sbnd ws).2], iv 0]) ∧ Below w.heap.size w w' := by
  go_enter Try.func78, Try.ntmps78
  go_wp2_with fail
  have hM : Blk (((w.alloc (.cells #[iv 1, .slice Al 1 cl, .slice Aw ws.length c] 119)).alloc (.cells #[iv 2] 113)).alloc (.cells #[iv 0, iv 0] 121)) w.heap.size 119 #[iv 1, .slice Al 1 cl, .slice Aw ws.length c] := ((Blk.new _ _ _).alloc _).alloc _
  have hKd : Blk (((w.alloc (.cells #[iv 1, .slice Al 1 cl, .slice Aw ws.length c] 119)).alloc (.cells #[iv 2] 113)).alloc (.cells #[iv 0, iv 0] 121)) (w.heap.size + 1) 113 #[iv 2] := (Blk.new_ _ _ _ (by simp)).alloc _
  have hSp : Blk (((w.alloc (.cells #[iv 1, .slice Al 1 cl, .slice Aw ws.length c] 119)).alloc (.cells #[iv 2] 113)).alloc (.cells #[iv 0, iv 0] 121)) (w.heap.size + 1 + 1) 121 #[iv 0, iv 0] := Blk.new_ _ _ _ (by simp)
  have hb1 : Below w.heap.size w (((w.alloc (.cells #[iv 1, .slice Al 1 cl, .slice Aw ws.length c] 119)).alloc (.cells #[iv 2] 113)).alloc (.cells #[iv 0, iv 0] 121)) := (((Below.refl _ _).alloc (Nat.le_refl _) _).alloc (by simp) _).alloc (by simp; omega) _
  generalize ((w.alloc (.cells #[iv 1, .slice Al 1 cl, .slice Aw ws.length c] 119)).alloc (.cells #[iv 2] 113)).alloc (.cells #[iv 0, iv 0] 121) = w1 at *
  refine (scheck_spec Al cl Aw ws c w1 (hl.below hb1) (hw.below hb1) hn hok).mono ?_
  rintro e w2 ⟨rfl, hb2⟩
  have hM2 := hM.under hb2
  have hK2 := hKd.under hb2
  have hS2 := hSp.under hb2
  have hb02 := hb1.next hb2 (Nat.le_refl _)
  have m0 := hM2.cell
  have m1 := hM2.lt
  have m2 := hK2.cell
  have m3 := hK2.lt
  clear hM hKd hSp hb1 hb2
  go_wp2_with fail
  refine (sallowed_spec _ _).mono ?_
  rintro e w3 ⟨rfl, rfl⟩
  have HTO := Lib.hid (told_spec Al cl Aw ws c w2 (hl.below hb02) (hw.below hb02) hn hok h)
  go_wp2_with fail
  refine HTO.out.mono ?_
  rintro e w4 ⟨gd, rfl, hb4, hd4⟩
  have hK4 := hK2.under hb4
  have hS4 := hS2.under hb4
  have hb04 := hb02.next hb4 (Nat.le_refl _)
  clear hM2 hK2 hS2 hb02 m0 m1 m2 m3 HTO hb4
  go_upto_region 9 with (refine wpList_store_row rfl 176 _ _ rfl w4.heap.size _ rfl rfl 176 zeroA (heap_alloc_new w4 _) (bndA_info _ _) (by rw [bndA_size]; rfl) (bndA_one _ _) ?_)
  have hx5 : Below w4.heap.size w4 ((w4.alloc (.cells zeroA 176)).setRow w4.heap.size (bndA (Price.sbnd ws).1 (Price.sbnd ws).2)) := below_setRow ((Below.refl _ _).alloc (Nat.le_refl _) _) (Nat.le_refl _) _
  have hBn : Blk ((w4.alloc (.cells zeroA 176)).setRow w4.heap.size (bndA (Price.sbnd ws).1 (Price.sbnd ws).2)) w4.heap.size 176 (bndA (Price.sbnd ws).1 (Price.sbnd ws).2) := setRow_heap _ _ _ _ _ _ (heap_alloc_new w4 _)
  generalize (w4.alloc (.cells zeroA 176)).setRow w4.heap.size (bndA (Price.sbnd ws).1 (Price.sbnd ws).2) = w5 at *
  have hK5 := hK4.under hx5
  have hS5 := hS4.under hx5
  have hd5 := hd4.below hx5
  have hb05 := hb04.next hx5 (Nat.le_refl _)
  clear hx5 hK4 hS4 hd4 hb04
  have hx6 : Below w5.heap.size w5 (w5.alloc (.cells #[iv 0, iv 0] 121)) := (Below.refl _ _).alloc (Nat.le_refl _) _
  have hO6 : Blk (w5.alloc (.cells #[iv 0, iv 0] 121)) w5.heap.size 121 #[iv 0, iv 0] := Blk.new _ _ _
  obtain ⟨gm, gp, cp, hD5, hM5, hP5⟩ := id hd5
  have hlk := (hM5.below hx6).lookup_self Try.underlying3 Try.underlying179 (zeroSl _) (keyInt (by decide))
  have m0 := (hD5.under hx6).cell
  have m1 := (hD5.under hx6).lt
  go_wp2_with fail
  generalize w5.alloc (.cells #[iv 0, iv 0] 121) = w6 at *
  generalize w4.heap.size = gb at *
  have hP := hP5.sl
  clear hlk m0 m1 hD5 hM5 hP5
  go_loopw [12, 13, 14, 15, 16, 43] (fun _ _ _ _ _ i x => ∃ k : Nat, k ≤ 1 ∧ i = iv k ∧ Below w5.heap.size w5 x ∧ Blk x w5.heap.size 121 (if k = 0 then #[iv 0, iv 0] else #[iv (Price.sbnd ws).1, iv (Price.sbnd ws).2])) (fun _ _ _ _ _ i _ => 1 - (intOf i).toNat)
  case atStart => exact ⟨0, by omega, rfl, hx6, hO6⟩
  case round =>
    obtain ⟨k, hk, rfl, hbr, hOr⟩ := hrel
    clear hx6 hO6
    by_cases hlt : k < 1
    · have hk0 : k = 0 := by omega
      subst hk0
      have hki : ((0 : Nat) : Int) < 1 := by omega
      simp only [if_pos] at hOr
      obtain ⟨b, off, y, hA, hbl, hy, hc0⟩ := (hP.below hbr).atI (k := 0) (by simp)
      injection hA with hA
      injection hA with h1 h2
      subst h1 h2
      have hye : y = 0 := by simpa using hy.symm
      subst hye
      simp only [Nat.zero_add] at hc0
      have hB0 := hBn.under hbr
      have hmf : ∀ (fn : Fn) (first cap : Array Value) (w : World), (Instr.makeFunc fn first cap).run Try.prog w = .ok (.func fn first cap) w := fun _ _ _ _ => rfl
      have HDS : Hid (∀ X : World, Below wr.heap.size wr X → DeskOk X gd (.slice Al 1 cl) (.slice Aw ws.length c) ∧ Sl lotE X Al [⟨-1, 2⟩] ∧ Blk X gb 176 (bndA (Price.sbnd ws).1 (Price.sbnd ws).2) ∧ Blk X (w.heap.size + 1) 113 #[iv 2]) := fun X hX =>
        have h5 := hbr.trans (hX.mono hbr.size)
        ⟨hd5.below h5, hl.below (hb05.next h5 (Nat.le_refl _)), hBn.under h5, hK5.under h5⟩
      have HS1 : Hid (∀ X : World, Below wr.heap.size wr X → Calls Try.prog 122 #[.pointer (some ⟨gd, 0, none⟩), bndV (Price.sbnd ws).1 (Price.sbnd ws).2, iv 0, .func (.func 123) #[] #[.pointer (some ⟨w.heap.size + 1, 0, none⟩)]] X fun e w' => e = .returned (.tuple #[iv (Price.sbnd ws).1, iv 0]) ∧ Below X.heap.size X w') := fun X hX =>
        have h := HDS.out X hX
        shares_spec gd Al cl _ _ _ 123 #[.pointer (some ⟨w.heap.size + 1, 0, none⟩)] true X h.1 h.2.1 (callFunc_run (by kernel_rfl)) fun w' hw' => where1_spec _ w' (h.2.2.2.under hw').lt ((h.2.2.2.under hw').cell 0)
      have HS2 : Hid (∀ X : World, Below wr.heap.size wr X → Calls Try.prog 122 #[.pointer (some ⟨gd, 0, none⟩), bndV (Price.sbnd ws).1 (Price.sbnd ws).2, iv 0, .func (.func 124) #[] #[.pointer (some ⟨w.heap.size + 1, 0, none⟩)]] X fun e w' => e = .returned (.tuple #[iv 0, iv (Price.sbnd ws).2]) ∧ Below X.heap.size X w') := fun X hX =>
        have h := HDS.out X hX
        shares_spec gd Al cl _ _ _ 124 #[.pointer (some ⟨w.heap.size + 1, 0, none⟩)] false X h.1 h.2.1 (callFunc_run (by kernel_rfl)) fun w' hw' => where2_spec _ w' (h.2.2.2.under hw').lt ((h.2.2.2.under hw').cell 0)
      have HR := Lib.hid hbr
      have HO := Lib.hid hOr
      clear hbr hOr hd5 hK5 hS5 hb05 hBn
      go_wp2_with (first
        | (refine wpList_load_row rfl 176 _ rfl gb rfl 176 _ (0, 0) _ hB0 Try.underlying176 rfl (bndA_info _ _) ?_)
        | (refine wpList_load_row rfl 176 _ rfl gb rfl 176 _ (0, 0) _ hBa Try.underlying176 rfl (bndA_info _ _) ?_)
        | (go_at_call 122; ((with_reducible refine (HS1.out _ (Below.refl _ _)).mono ?_); rintro e wa ⟨rfl, hba⟩; have hBa := (HDS.out _ hba).2.2.1))
        | (go_at_call 122; ((with_reducible refine (HS2.out _ hba).mono ?_); rintro e wb ⟨rfl, hbb⟩; have hOb := (HO.out.under hba).under hbb; have o0 := hOb.cell; have o1 := hOb.lt; have o2 := hOb.frozen)))
      have HX : Hid (Below w5.heap.size w5 ((wb.setCell ⟨w5.heap.size, 0, none⟩ (iv (Price.sbnd ws).1)).setCell ⟨w5.heap.size, 1, none⟩ (iv (Price.sbnd ws).2)) ∧ Blk ((wb.setCell ⟨w5.heap.size, 0, none⟩ (iv (Price.sbnd ws).1)).setCell ⟨w5.heap.size, 1, none⟩ (iv (Price.sbnd ws).2)) w5.heap.size 121 #[iv (Price.sbnd ws).1, iv (Price.sbnd ws).2]) :=
        Lib.hid ⟨(((HR.out.trans (hba.mono HR.out.size)).trans (hbb.mono (Nat.le_trans HR.out.size hba.size))).setCell (Nat.le_refl _) _).setCell (Nat.le_refl _) _, by simpa using (hOb.set_ 0 (iv (Price.sbnd ws).1)).set_ 1 (iv (Price.sbnd ws).2)⟩
      go_roundw
      case rel => exact ⟨1, by omega, rfl, HX.out.1, HX.out.2⟩
      case measure => simp [intOf]
    · have hki : ¬ (k : Int) < 1 := by omega
      have hk1 : k ≠ 0 := by omega
      simp only [if_neg hk1] at hOr
      have o0 := hOr.cell
      have o1 := hOr.lt
      have hSr := hS5.under hbr
      have n0 := hSr.cell
      have n1 := hSr.lt
      have n2 := hSr.frozen
      have HS := Lib.hid hSr
      have HB := Lib.hid (hb05.next hbr (Nat.le_refl _))
      clear hSr hbr hOr hd5 hK5 hS5 hb05 hBn
      go_wp2_with fail
      have hSf : Blk ((wr.setCell ⟨w.heap.size + 1 + 1, 0, none⟩ (iv (Price.sbnd ws).1)).setCell ⟨w.heap.size + 1 + 1, 1, none⟩ (iv (Price.sbnd ws).2)) (w.heap.size + 1 + 1) 121 #[iv (Price.sbnd ws).1, iv (Price.sbnd ws).2] := by simpa using (HS.out.set_ 0 (iv (Price.sbnd ws).1)).set_ 1 (iv (Price.sbnd ws).2)
      have hr := run_loadVar_row (P := Try.prog) _ (w.heap.size + 1 + 1) 121 121 _ (0, 0) _ hSf Try.underlying121 rfl (by kernel_rfl)
      refine bodyPost_ret (v := .tuple #[.agg #[iv (Price.sbnd ws).1, iv (Price.sbnd ws).2], iv 0]) ?_ rfl ⟨rfl, (HB.out.setCell (by simp; omega) _).setCell (by simp; omega) _⟩
      rw [results_cell_tmp (p := 4) (u := 5) (ty := 121) (by kernel_rfl)]
      simp [asAddr, hr]
end Go.Proofs.Ytblmlpkjocbhpaa
