/- PriceSmall returns true: the walk. No condition. -/
import Derived.Test.YtkailkfiakagfaaGreatSmallB
import Derived.Test.YtkailkfiakagfaaGreatBuildV
import Derived.Test.YtkailkfiakagfaaGreatFree
import Derived.Deep.DeepCutAuto
import Derived.BigRegion
set_option linter.unusedVariables false
set_option linter.unusedSimpArgs false
namespace Go.Proofs.YtkailkfiakagfaaGreat
open Go.RowKit Go.Shelf
set_option maxRecDepth 100000
set_option maxHeartbeats 60000000 in
theorem small_walk (w : World) : Calls Tryz.prog 3 #[] w fun e w' => e = .returned (.bool true) ∧ Below w.heap.size w w' := by
  go_enter Tryz.func3, Tryz.ntmps3
  go_upto_region 1 with fail
  apply wp_region_lit
  refine buildVals rfl 22 3 16 _ rfl [iv (-9223372036854775808), iv (-2), iv (-1), iv 0, iv 1, iv 2, iv 3, iv 4, iv 5, iv 9, iv 10, iv 30, iv 31, iv 500, iv 501, iv 9223372036854775807] Tryz.underlying22 (by kernel_rfl) (by kernel_rfl) rfl (by decide) (by decide) (fun v hv => by simp only [List.mem_cons, List.not_mem_nil, or_false] at hv; rcases hv with rfl | rfl | rfl | rfl | rfl | rfl | rfl | rfl | rfl | rfl | rfl | rfl | rfl | rfl | rfl | rfl <;> rfl) (by kernel_rfl) ?_
  go_wp2_with fail
  go_loopw [2, 32] (fun _ i wr => ∃ k : Nat, k ≤ 16 ∧ i = iv k ∧ Below (w.heap.size + 1) (w.alloc (.cells #[iv (-9223372036854775808), iv (-2), iv (-1), iv 0, iv 1, iv 2, iv 3, iv 4, iv 5, iv 9, iv 10, iv 30, iv 31, iv 500, iv 501, iv 9223372036854775807] 3)) wr) (fun _ i _ => 16 - (intOf i).toNat)
  case atStart => exact ⟨0, by omega, rfl, Below.refl _ _⟩
  case round =>
    obtain ⟨k, hk, rfl, hbw⟩ := hrel
    by_cases hlt : k < 16
    · as_aux_lemma =>
      have hki : (k : Int) < 16 := by omega
      have hvv : ∃ v, I64 v ∧ wr.cell? ⟨w.heap.size, k, none⟩ = some (iv v) := by
        have hI : Ints (w.alloc (.cells #[iv (-9223372036854775808), iv (-2), iv (-1), iv 0, iv 1, iv 2, iv 3, iv 4, iv 5, iv 9, iv 10, iv 30, iv 31, iv 500, iv 501, iv 9223372036854775807] 3)) w.heap.size 3 16 := ⟨[-9223372036854775808, -2, -1, 0, 1, 2, 3, 4, 5, 9, 10, 30, 31, 500, 501, 9223372036854775807], rfl, by intro y hy; simp at hy; unfold I64; omega, Blk.new _ _ _⟩
        obtain ⟨y, h1, h2⟩ := hI.cell hlt
        exact ⟨y, h1, (hbw.cell (p := ⟨w.heap.size, k, none⟩) (Nat.lt_succ_self _)).trans h2⟩
      obtain ⟨vz, hv, hcv⟩ := hvv
      go_wp2_with fail
      obtain ⟨w1, rfl⟩ : ∃ w1 : World, w1 = wr := ⟨_, rfl⟩
      go_loopw [3, 4, 5, 6, 7, 8, 9, 10, 11, 12, 36] (fun _ _ _ _ _ _ _ _ _ _ i wr => ∃ j : Nat, j ≤ 19 ∧ i = iv j ∧ Below w1.heap.size w1 wr) (fun _ _ _ _ _ _ _ _ _ _ i _ => 19 - (intOf i).toNat)
      case atStart => exact ⟨0, by omega, rfl, Below.refl _ _⟩
      case round =>
        obtain ⟨j, hj, rfl, hbr⟩ := hrel
        by_cases hlt2 : j < 19
        · have hji : (j : Int) < 19 := by omega
          go_wp2_with fail
          refine wp_free_lit (by kernel_rfl) 14 (by kernel_rfl) (by kernel_rfl) (by decide) (fun _ x => Below wr.heap.size wr x) IntsKeep
            [fun _ u x => SlInts wr.heap.size 0 5 28 20 u x,
             fun _ u x => SlInts wr.heap.size 0 5 28 20 u x,
             fun _ u x => SlInts wr.heap.size 4 4 28 20 u x,
             fun _ u _ => u = .agg #[iv 1, iv 2, iv 1],
             fun _ u _ => u = .agg #[iv (-1), iv 2, iv 1, iv 16],
             fun _ u x => SlInts wr.heap.size 0 4 3 4 u x,
             fun _ u x => PtInts wr.heap.size 3 1 u x,
             fun _ u x => PtInts wr.heap.size 26 3 u x,
             fun _ u x => PtInts wr.heap.size 28 4 u x,
             fun _ u x => SlInts wr.heap.size 0 5 28 20 u x,
             fun _ u x => SlInts wr.heap.size 4 4 28 20 u x,
             fun _ _ _ => True, fun _ _ _ => True, fun _ _ _ => True]
            (Below.refl _ wr).drew ?_ ?_
          · simp only [List.take_succ_cons, List.take_zero, HopL]
            refine ⟨?_, ?_, ?_, ?_, ?_, ?_, ?_, ?_, ?_, ?_, ?_, ?_, ?_, ?_, trivial⟩
            · refine ⟨fun _ _ _ _ _ h => h, fun _ _ _ _ h hS => h.keep hS, fun v n x hn hR hk => ?_⟩
              simp only [List.take_succ_cons, List.take_zero, frameF, Act.put, List.setIfInBounds_toArray, List.set_cons_zero, List.set_cons_succ]
              refine stepF_call (by rfl) (by go_simp) (Five_own x) ?_
              rintro e x' ⟨g, rfl, hg, hi, hb⟩
              exact ⟨_, rfl, ⟨g, rfl, Nat.le_trans hR.size hg, hi⟩, IntsKeep.below hb, hR.next hb (Nat.le_refl _)⟩
            · refine ⟨fun _ _ _ _ _ h => h, fun _ _ _ _ h hS => h.keep hS, fun v n x hn hR hk => ?_⟩
              simp only [List.take_succ_cons, List.take_zero, frameF, Act.put, List.setIfInBounds_toArray, List.set_cons_zero, List.set_cons_succ]
              refine stepF_call (by rfl) (by go_simp) (Five_own x) ?_
              rintro e x' ⟨g, rfl, hg, hi, hb⟩
              exact ⟨_, rfl, ⟨g, rfl, Nat.le_trans hR.size hg, hi⟩, IntsKeep.below hb, hR.next hb (Nat.le_refl _)⟩
            · refine ⟨fun _ _ _ _ _ h => h, fun _ _ _ _ h hS => h.keep hS, fun v n x hn hR hk => ?_⟩
              have h1 : SlInts wr.heap.size 0 5 28 20 (v 1) x := hk 1 (by kernel_rfl)
              obtain ⟨g, e1, hg, hi⟩ := h1
              simp only [List.take_succ_cons, List.take_zero, frameF, Act.put, List.setIfInBounds_toArray, List.set_cons_zero, List.set_cons_succ]
              exact stepF_val (u := .slice (some ⟨g, 4, none⟩) 4 4) (by rfl) (by go_simp) ⟨⟨g, rfl, hg, hi⟩, IntsKeep.refl _, hR⟩
            · refine ⟨fun _ _ _ _ _ h => h, fun _ _ _ _ h _ => h, fun v n x hn hR hk => ?_⟩
              simp only [List.take_succ_cons, List.take_zero, frameF, Act.put, List.setIfInBounds_toArray, List.set_cons_zero, List.set_cons_succ]
              exact stepF_val (by rfl) (by go_simp) ⟨rfl, IntsKeep.refl _, hR⟩
            · refine ⟨fun _ _ _ _ _ h => h, fun _ _ _ _ h _ => h, fun v n x hn hR hk => ?_⟩
              simp only [List.take_succ_cons, List.take_zero, frameF, Act.put, List.setIfInBounds_toArray, List.set_cons_zero, List.set_cons_succ]
              exact stepF_val (by rfl) (by go_simp) ⟨rfl, IntsKeep.refl _, hR⟩
            · refine ⟨fun _ _ _ _ _ h => h, fun _ _ _ _ h hS => h.keep hS, fun v n x hn hR hk => ?_⟩
              simp only [List.take_succ_cons, List.take_zero, frameF, Act.put, List.setIfInBounds_toArray, List.set_cons_zero, List.set_cons_succ]
              exact stepF_new (u := .slice (some ⟨x.heap.size, 0, none⟩) 4 4) (w' := x.alloc (.cells #[iv 1, iv 1, iv 0, iv (-1)] 3)) (by rfl) (by go_simp) ⟨⟨x.heap.size, rfl, hR.size, ⟨[1, 1, 0, -1], rfl, by intro y hy; simp at hy; unfold I64; omega, Blk.new _ _ _⟩⟩, IntsKeep.below ((Below.refl _ _).alloc (Nat.le_refl _) _), hR.alloc hR.size _⟩
            · refine ⟨fun _ _ _ _ _ h => h, fun _ _ _ _ h hS => h.keep hS, fun v n x hn hR hk => ?_⟩
              simp only [List.take_succ_cons, List.take_zero, frameF, Act.put, List.setIfInBounds_toArray, List.set_cons_zero, List.set_cons_succ]
              exact stepF_new (u := .pointer (some ⟨x.heap.size, 0, none⟩)) (w' := x.alloc (.cells #[iv 0] 3)) (by rfl) (by go_simp) ⟨⟨x.heap.size, rfl, hR.size, ⟨[0], rfl, by intro y hy; simp at hy; unfold I64; omega, Blk.new _ _ _⟩⟩, IntsKeep.below ((Below.refl _ _).alloc (Nat.le_refl _) _), hR.alloc hR.size _⟩
            · refine ⟨fun _ _ _ _ _ h => h, fun _ _ _ _ h hS => h.keep hS, fun v n x hn hR hk => ?_⟩
              simp only [List.take_succ_cons, List.take_zero, frameF, Act.put, List.setIfInBounds_toArray, List.set_cons_zero, List.set_cons_succ]
              exact stepF_new (u := .pointer (some ⟨x.heap.size, 0, none⟩)) (w' := x.alloc (.cells #[iv 0, iv 0, iv 0] 26)) (by rfl) (by go_simp) ⟨⟨x.heap.size, rfl, hR.size, ⟨[0, 0, 0], rfl, by intro y hy; simp at hy; unfold I64; omega, Blk.new _ _ _⟩⟩, IntsKeep.below ((Below.refl _ _).alloc (Nat.le_refl _) _), hR.alloc hR.size _⟩
            · refine ⟨fun _ _ _ _ _ h => h, fun _ _ _ _ h hS => h.keep hS, fun v n x hn hR hk => ?_⟩
              simp only [List.take_succ_cons, List.take_zero, frameF, Act.put, List.setIfInBounds_toArray, List.set_cons_zero, List.set_cons_succ]
              exact stepF_new (u := .pointer (some ⟨x.heap.size, 0, none⟩)) (w' := x.alloc (.cells #[iv 0, iv 0, iv 0, iv 0] 28)) (by rfl) (by go_simp) ⟨⟨x.heap.size, rfl, hR.size, ⟨[0, 0, 0, 0], rfl, by intro y hy; simp at hy; unfold I64; omega, Blk.new _ _ _⟩⟩, IntsKeep.below ((Below.refl _ _).alloc (Nat.le_refl _) _), hR.alloc hR.size _⟩
            · refine ⟨fun _ _ _ _ _ h => h, fun _ _ _ _ h hS => h.keep hS, fun v n x hn hR hk => ?_⟩
              have h1 : SlInts wr.heap.size 0 5 28 20 (v 0) x := hk 0 (by kernel_rfl)
              obtain ⟨g, e1, hg, hi⟩ := h1
              simp only [List.take_succ_cons, List.take_zero, frameF, Act.put, List.setIfInBounds_toArray, List.set_cons_zero, List.set_cons_succ]
              exact stepF_val (u := .slice (some ⟨g, 0, none⟩) 5 5) (by rfl) (by go_simp) ⟨⟨g, rfl, hg, hi⟩, IntsKeep.refl _, hR⟩
            · refine ⟨fun _ _ _ _ _ h => h, fun _ _ _ _ h hS => h.keep hS, fun v n x hn hR hk => ?_⟩
              have h1 : SlInts wr.heap.size 4 4 28 20 (v 2) x := hk 2 (by kernel_rfl)
              obtain ⟨g, e1, hg, hi⟩ := h1
              simp only [List.take_succ_cons, List.take_zero, frameF, Act.put, List.setIfInBounds_toArray, List.set_cons_zero, List.set_cons_succ]
              exact stepF_val (u := .slice (some ⟨g, 4, none⟩) 4 4) (by rfl) (by go_simp) ⟨⟨g, rfl, hg, hi⟩, IntsKeep.refl _, hR⟩
            · refine ⟨fun _ _ _ _ _ h => h, fun _ _ _ _ h _ => h, fun v n x hn hR hk => ?_⟩
              have h1 : PtInts wr.heap.size 3 1 (v 6) x := hk 6 (by kernel_rfl)
              obtain ⟨g, e1, hg, hi⟩ := h1
              obtain ⟨y0, _, hy0⟩ := hi.cell (o := 0) (by omega)
              have hf := hi.frozen
              have hgl := hi.lt
              simp only [List.take_succ_cons, List.take_zero, frameF, Act.put, List.setIfInBounds_toArray, List.set_cons_zero, List.set_cons_succ]
              exact stepF_skip (w' := x.setCell ⟨g, 0, none⟩ (iv 3)) (by rfl) (by go_simp) ⟨trivial, IntsKeep.set _ _ _ _ (by unfold I64; omega), hR.setCell (p := ⟨g, 0, none⟩) hg _⟩
            · refine ⟨fun _ _ _ _ _ h => h, fun _ _ _ _ h _ => h, fun v n x hn hR hk => ?_⟩
              have h1 : PtInts wr.heap.size 26 3 (v 7) x := hk 7 (by kernel_rfl)
              have h3 : v 3 = .agg #[iv 1, iv 2, iv 1] := hk 3 (by kernel_rfl)
              obtain ⟨g, e1, hg, hi⟩ := h1
              obtain ⟨y0, _, hy0⟩ := hi.cell (o := 0) (by omega)
              obtain ⟨y1, _, hy1⟩ := hi.cell (o := 1) (by omega)
              obtain ⟨y2, _, hy2⟩ := hi.cell (o := 2) (by omega)
              have hf := hi.frozen
              have hgl := hi.lt
              simp only [List.take_succ_cons, List.take_zero, frameF, Act.put, List.setIfInBounds_toArray, List.set_cons_zero, List.set_cons_succ]
              exact stepF_skip (w' := ((x.setCell ⟨g, 0, none⟩ (iv 1)).setCell ⟨g, 1, none⟩ (iv 2)).setCell ⟨g, 2, none⟩ (iv 1)) (by rfl) (by go_simp) ⟨trivial, ((IntsKeep.set _ _ _ _ (by unfold I64; omega)).trans (IntsKeep.set _ _ _ _ (by unfold I64; omega))).trans (IntsKeep.set _ _ _ _ (by unfold I64; omega)), ((hR.setCell (p := ⟨g, 0, none⟩) hg _).setCell (p := ⟨g, 1, none⟩) hg _).setCell (p := ⟨g, 2, none⟩) hg _⟩
            · refine ⟨fun _ _ _ _ _ h => h, fun _ _ _ _ h _ => h, fun v n x hn hR hk => ?_⟩
              have h1 : PtInts wr.heap.size 28 4 (v 8) x := hk 8 (by kernel_rfl)
              have h3 : v 4 = .agg #[iv (-1), iv 2, iv 1, iv 16] := hk 4 (by kernel_rfl)
              obtain ⟨g, e1, hg, hi⟩ := h1
              obtain ⟨y0, _, hy0⟩ := hi.cell (o := 0) (by omega)
              obtain ⟨y1, _, hy1⟩ := hi.cell (o := 1) (by omega)
              obtain ⟨y2, _, hy2⟩ := hi.cell (o := 2) (by omega)
              obtain ⟨y3, _, hy3⟩ := hi.cell (o := 3) (by omega)
              have hf := hi.frozen
              have hgl := hi.lt
              simp only [List.take_succ_cons, List.take_zero, frameF, Act.put, List.setIfInBounds_toArray, List.set_cons_zero, List.set_cons_succ]
              exact stepF_skip (w' := (((x.setCell ⟨g, 0, none⟩ (iv (-1))).setCell ⟨g, 1, none⟩ (iv 2)).setCell ⟨g, 2, none⟩ (iv 1)).setCell ⟨g, 3, none⟩ (iv 16)) (by rfl) (by go_simp) ⟨trivial, (((IntsKeep.set _ _ _ _ (by unfold I64; omega)).trans (IntsKeep.set _ _ _ _ (by unfold I64; omega))).trans (IntsKeep.set _ _ _ _ (by unfold I64; omega))).trans (IntsKeep.set _ _ _ _ (by unfold I64; omega)), (((hR.setCell (p := ⟨g, 0, none⟩) hg _).setCell (p := ⟨g, 1, none⟩) hg _).setCell (p := ⟨g, 2, none⟩) hg _).setCell (p := ⟨g, 3, none⟩) hg _⟩
          · intro v2 n x hn hR hall
            obtain ⟨g4, e4, hg4, i4⟩ : SlInts wr.heap.size 0 5 28 20 (v2 9) x := hall 9 (by decide)
            obtain ⟨g5, e5, hg5, i5⟩ : SlInts wr.heap.size 4 4 28 20 (v2 10) x := hall 10 (by decide)
            obtain ⟨g9, e9, hg9, i9⟩ : SlInts wr.heap.size 0 4 3 4 (v2 5) x := hall 5 (by decide)
            obtain ⟨g6, e6, hg6, i6⟩ : PtInts wr.heap.size 3 1 (v2 6) x := hall 6 (by decide)
            obtain ⟨g7, e7, hg7, i7⟩ : PtInts wr.heap.size 26 3 (v2 7) x := hall 7 (by decide)
            obtain ⟨g8, e8, hg8, i8⟩ : PtInts wr.heap.size 28 4 (v2 8) x := hall 8 (by decide)
            have hrx := hR
            clear hall hR
            simp only [List.drop_succ_cons, List.drop_zero, List.take_succ_cons, List.take_zero, frameF, Act.put, List.setIfInBounds_toArray, List.set_cons_zero, List.set_cons_succ, e4, e5, e9, e6, e7, e8]
            clear e4 e5 e6 e7 e8 e9
            go_wp2_with fail
            refine (Week_own x).mono ?_
            rintro e x2 ⟨gb, gs, rfl, hgb, hgs, ib, is, hb2⟩
            have hx2 := hrx.next hb2 (Nat.le_refl _)
            have hx3 : Below x2.heap.size x2 (x2.alloc (.cells #[iv 10, .slice (some ⟨gb, 0, none⟩) 2 2] 30)) := (Below.refl _ _).alloc (Nat.le_refl _) _
            have hBS : Blk (x2.alloc (.cells #[iv 10, .slice (some ⟨gb, 0, none⟩) 2 2] 30)) x2.heap.size 30 #[iv 10, .slice (some ⟨gb, 0, none⟩) 2 2] := Blk.new _ _ _
            have j4 := (i4.under hb2).under hx3
            have j5 := (i5.under hb2).under hx3
            have j6 := (i6.under hb2).under hx3
            have j7 := (i7.under hb2).under hx3
            have j8 := (i8.under hb2).under hx3
            have j9 := (i9.under hb2).under hx3
            have jb := ib.under hx3
            have js := is.under hx3
            have hz2 := hx2.size
            have hg10 : wr.heap.size ≤ x2.heap.size := hx2.size
            have hx3' := hx2.next hx3 (Nat.le_refl _)
            have hrx2 := hrx.size
            clear i4 i5 i6 i7 i8 i9 ib is hrx hb2
            go_wp2_with fail
            obtain ⟨g10, hg10e⟩ : ∃ g, g = x2.heap.size := ⟨_, rfl⟩
            generalize x2.alloc (.cells #[iv 10, .slice (some ⟨gb, 0, none⟩) 2 2] 30) = x3 at *
            rw [← hg10e] at hBS hg10 ⊢
            have c10 := hBS.cell
            have l10 := hBS.lt
            have hd3 : Below wr.heap.size wr x3.drew := hx3'.drew
            have HBS := Lib.hid hBS
            have hSA : SaleAt x3 g10 gb := ⟨10, hBS⟩
            have HSA := Lib.hid hSA
            clear hg10e hx3 hx2 hBS hSA c10 l10
            go_upto_region 9 with fail
            refine wp_free_lit (by kernel_rfl) 37 (by kernel_rfl) (by kernel_rfl) (by decide) (fun nR x => Below x3.heap.size x3 x) (fun x x' => Below x.heap.size x x')
              [fun _ u _ => u = .slice (some ⟨g4, 0, none⟩) 5 5,
               fun _ u _ => u = .pointer (some ⟨g4, 4, none⟩),
               fun _ u _ => u = .pointer (some ⟨g4, 4, none⟩),
               fun _ u _ => u = .slice (some ⟨g4, 0, none⟩) 5 5,
               fun _ u _ => u = .pointer (some ⟨g4, 12, none⟩),
               fun _ u _ => u = .pointer (some ⟨g4, 13, none⟩),
               fun _ u _ => u = .slice (some ⟨g4, 0, none⟩) 5 5,
               fun _ u _ => u = .pointer (some ⟨g4, 16, none⟩),
               fun _ u _ => u = .pointer (some ⟨g4, 18, none⟩),
               fun _ u _ => u = .slice (some ⟨g4, 0, none⟩) 5 5,
               fun _ u _ => u = .pointer (some ⟨g4, 8, none⟩),
               fun _ u _ => u = .pointer (some ⟨g4, 11, none⟩),
               fun _ u _ => u = .slice (some ⟨g5, 4, none⟩) 4 4,
               fun _ u _ => u = .pointer (some ⟨g5, 4, none⟩),
               fun _ u _ => u = .pointer (some ⟨g5, 4, none⟩),
               fun _ u _ => u = .slice (some ⟨g5, 4, none⟩) 4 4,
               fun _ u _ => u = .pointer (some ⟨g5, 8, none⟩),
               fun _ u _ => u = .pointer (some ⟨g5, 11, none⟩),
               fun _ u _ => u = .pointer (some ⟨g7, 0, none⟩),
               fun _ u _ => u = .pointer (some ⟨g7, 1, none⟩),
               fun _ u _ => u = .pointer (some ⟨g7, 2, none⟩),
               fun _ u _ => u = .pointer (some ⟨g8, 0, none⟩),
               fun _ u _ => u = .pointer (some ⟨g8, 1, none⟩),
               fun _ u _ => u = .pointer (some ⟨g8, 2, none⟩),
               fun _ u _ => u = .pointer (some ⟨g8, 3, none⟩),
               fun _ u _ => u = .pointer (some ⟨g10, 0, none⟩),
               fun _ u _ => u = .pointer (some ⟨g10, 1, none⟩),
               fun _ u _ => u = .slice (some ⟨gb, 0, none⟩) 2 2,
               fun _ u _ => u = .pointer (some ⟨gb, 1, none⟩),
               fun _ u _ => u = .slice (some ⟨gs, 0, none⟩) 4 4,
               fun _ u _ => u = .pointer (some ⟨gs, 6, none⟩),
               fun _ u _ => u = .pointer (some ⟨gs, 6, none⟩),
               fun _ u _ => u = .slice (some ⟨gs, 0, none⟩) 4 4,
               fun _ u _ => u = .pointer (some ⟨gs, 0, none⟩),
               fun _ u _ => u = .pointer (some ⟨gs, 2, none⟩),
               fun _ u _ => u = .slice (some ⟨g9, 0, none⟩) 4 4,
               fun _ u _ => u = .pointer (some ⟨g9, 1, none⟩)]
              (Below.refl _ x3).drew ?_ ?_
            · simp only [List.take_succ_cons, List.take_zero, HopL]
              refine ⟨?_, ?_, ?_, ?_, ?_, ?_, ?_, ?_, ?_, ?_, ?_, ?_, ?_, ?_, ?_, ?_, ?_, ?_, ?_, ?_, ?_, ?_, ?_, ?_, ?_, ?_, ?_, ?_, ?_, ?_, ?_, ?_, ?_, ?_, ?_, ?_, ?_, trivial⟩
              · refine ⟨fun _ _ _ _ _ h => h, fun _ _ _ _ h _ => h, fun v nR x hnR hR hk => ?_⟩
                simp only [List.take_succ_cons, List.take_zero, frameF, Act.put, List.setIfInBounds_toArray, List.set_cons_zero, List.set_cons_succ]
                exact stepF_val (by first | rfl | simp [Region.wanted, yielded, *]) (by go_simp <;> omega) ⟨rfl, Below.refl _ _, hR⟩
              · refine ⟨fun _ _ _ _ _ h => h, fun _ _ _ _ h _ => h, fun v nR x hnR hR hk => ?_⟩
                have h0 : v 0 = .slice (some ⟨g4, 0, none⟩) 5 5 := hk 0 (by kernel_rfl)
                simp only [List.take_succ_cons, List.take_zero, frameF, Act.put, List.setIfInBounds_toArray, List.set_cons_zero, List.set_cons_succ]
                exact stepF_val (by first | rfl | simp [Region.wanted, yielded, *]) (by go_simp <;> omega) ⟨rfl, Below.refl _ _, hR⟩
              · refine ⟨fun _ _ _ _ _ h => h, fun _ _ _ _ h _ => h, fun v nR x hnR hR hk => ?_⟩
                have h1 : v 1 = .pointer (some ⟨g4, 4, none⟩) := hk 1 (by kernel_rfl)
                simp only [List.take_succ_cons, List.take_zero, frameF, Act.put, List.setIfInBounds_toArray, List.set_cons_zero, List.set_cons_succ]
                exact stepF_val (by first | rfl | simp [Region.wanted, yielded, *]) (by go_simp <;> omega) ⟨rfl, Below.refl _ _, hR⟩
              · refine ⟨fun _ _ _ _ _ h => h, fun _ _ _ _ h _ => h, fun v nR x hnR hR hk => ?_⟩
                simp only [List.take_succ_cons, List.take_zero, frameF, Act.put, List.setIfInBounds_toArray, List.set_cons_zero, List.set_cons_succ]
                exact stepF_val (by first | rfl | simp [Region.wanted, yielded, *]) (by go_simp <;> omega) ⟨rfl, Below.refl _ _, hR⟩
              · refine ⟨fun _ _ _ _ _ h => h, fun _ _ _ _ h _ => h, fun v nR x hnR hR hk => ?_⟩
                have h3 : v 3 = .slice (some ⟨g4, 0, none⟩) 5 5 := hk 3 (by kernel_rfl)
                simp only [List.take_succ_cons, List.take_zero, frameF, Act.put, List.setIfInBounds_toArray, List.set_cons_zero, List.set_cons_succ]
                exact stepF_val (by first | rfl | simp [Region.wanted, yielded, *]) (by go_simp <;> omega) ⟨rfl, Below.refl _ _, hR⟩
              · refine ⟨fun _ _ _ _ _ h => h, fun _ _ _ _ h _ => h, fun v nR x hnR hR hk => ?_⟩
                have h4 : v 4 = .pointer (some ⟨g4, 12, none⟩) := hk 4 (by kernel_rfl)
                simp only [List.take_succ_cons, List.take_zero, frameF, Act.put, List.setIfInBounds_toArray, List.set_cons_zero, List.set_cons_succ]
                exact stepF_val (by first | rfl | simp [Region.wanted, yielded, *]) (by go_simp <;> omega) ⟨rfl, Below.refl _ _, hR⟩
              · refine ⟨fun _ _ _ _ _ h => h, fun _ _ _ _ h _ => h, fun v nR x hnR hR hk => ?_⟩
                simp only [List.take_succ_cons, List.take_zero, frameF, Act.put, List.setIfInBounds_toArray, List.set_cons_zero, List.set_cons_succ]
                exact stepF_val (by first | rfl | simp [Region.wanted, yielded, *]) (by go_simp <;> omega) ⟨rfl, Below.refl _ _, hR⟩
              · refine ⟨fun _ _ _ _ _ h => h, fun _ _ _ _ h _ => h, fun v nR x hnR hR hk => ?_⟩
                have h6 : v 6 = .slice (some ⟨g4, 0, none⟩) 5 5 := hk 6 (by kernel_rfl)
                simp only [List.take_succ_cons, List.take_zero, frameF, Act.put, List.setIfInBounds_toArray, List.set_cons_zero, List.set_cons_succ]
                exact stepF_val (by first | rfl | simp [Region.wanted, yielded, *]) (by go_simp <;> omega) ⟨rfl, Below.refl _ _, hR⟩
              · refine ⟨fun _ _ _ _ _ h => h, fun _ _ _ _ h _ => h, fun v nR x hnR hR hk => ?_⟩
                have h7 : v 7 = .pointer (some ⟨g4, 16, none⟩) := hk 7 (by kernel_rfl)
                simp only [List.take_succ_cons, List.take_zero, frameF, Act.put, List.setIfInBounds_toArray, List.set_cons_zero, List.set_cons_succ]
                exact stepF_val (by first | rfl | simp [Region.wanted, yielded, *]) (by go_simp <;> omega) ⟨rfl, Below.refl _ _, hR⟩
              · refine ⟨fun _ _ _ _ _ h => h, fun _ _ _ _ h _ => h, fun v nR x hnR hR hk => ?_⟩
                simp only [List.take_succ_cons, List.take_zero, frameF, Act.put, List.setIfInBounds_toArray, List.set_cons_zero, List.set_cons_succ]
                exact stepF_val (by first | rfl | simp [Region.wanted, yielded, *]) (by go_simp <;> omega) ⟨rfl, Below.refl _ _, hR⟩
              · refine ⟨fun _ _ _ _ _ h => h, fun _ _ _ _ h _ => h, fun v nR x hnR hR hk => ?_⟩
                have h9 : v 9 = .slice (some ⟨g4, 0, none⟩) 5 5 := hk 9 (by kernel_rfl)
                simp only [List.take_succ_cons, List.take_zero, frameF, Act.put, List.setIfInBounds_toArray, List.set_cons_zero, List.set_cons_succ]
                exact stepF_val (by first | rfl | simp [Region.wanted, yielded, *]) (by go_simp <;> omega) ⟨rfl, Below.refl _ _, hR⟩
              · refine ⟨fun _ _ _ _ _ h => h, fun _ _ _ _ h _ => h, fun v nR x hnR hR hk => ?_⟩
                have h10 : v 10 = .pointer (some ⟨g4, 8, none⟩) := hk 10 (by kernel_rfl)
                simp only [List.take_succ_cons, List.take_zero, frameF, Act.put, List.setIfInBounds_toArray, List.set_cons_zero, List.set_cons_succ]
                exact stepF_val (by first | rfl | simp [Region.wanted, yielded, *]) (by go_simp <;> omega) ⟨rfl, Below.refl _ _, hR⟩
              · refine ⟨fun _ _ _ _ _ h => h, fun _ _ _ _ h _ => h, fun v nR x hnR hR hk => ?_⟩
                simp only [List.take_succ_cons, List.take_zero, frameF, Act.put, List.setIfInBounds_toArray, List.set_cons_zero, List.set_cons_succ]
                exact stepF_val (by first | rfl | simp [Region.wanted, yielded, *]) (by go_simp <;> omega) ⟨rfl, Below.refl _ _, hR⟩
              · refine ⟨fun _ _ _ _ _ h => h, fun _ _ _ _ h _ => h, fun v nR x hnR hR hk => ?_⟩
                have h12 : v 12 = .slice (some ⟨g5, 4, none⟩) 4 4 := hk 12 (by kernel_rfl)
                simp only [List.take_succ_cons, List.take_zero, frameF, Act.put, List.setIfInBounds_toArray, List.set_cons_zero, List.set_cons_succ]
                exact stepF_val (by first | rfl | simp [Region.wanted, yielded, *]) (by go_simp <;> omega) ⟨rfl, Below.refl _ _, hR⟩
              · refine ⟨fun _ _ _ _ _ h => h, fun _ _ _ _ h _ => h, fun v nR x hnR hR hk => ?_⟩
                have h13 : v 13 = .pointer (some ⟨g5, 4, none⟩) := hk 13 (by kernel_rfl)
                simp only [List.take_succ_cons, List.take_zero, frameF, Act.put, List.setIfInBounds_toArray, List.set_cons_zero, List.set_cons_succ]
                exact stepF_val (by first | rfl | simp [Region.wanted, yielded, *]) (by go_simp <;> omega) ⟨rfl, Below.refl _ _, hR⟩
              · refine ⟨fun _ _ _ _ _ h => h, fun _ _ _ _ h _ => h, fun v nR x hnR hR hk => ?_⟩
                simp only [List.take_succ_cons, List.take_zero, frameF, Act.put, List.setIfInBounds_toArray, List.set_cons_zero, List.set_cons_succ]
                exact stepF_val (by first | rfl | simp [Region.wanted, yielded, *]) (by go_simp <;> omega) ⟨rfl, Below.refl _ _, hR⟩
              · refine ⟨fun _ _ _ _ _ h => h, fun _ _ _ _ h _ => h, fun v nR x hnR hR hk => ?_⟩
                have h15 : v 15 = .slice (some ⟨g5, 4, none⟩) 4 4 := hk 15 (by kernel_rfl)
                simp only [List.take_succ_cons, List.take_zero, frameF, Act.put, List.setIfInBounds_toArray, List.set_cons_zero, List.set_cons_succ]
                exact stepF_val (by first | rfl | simp [Region.wanted, yielded, *]) (by go_simp <;> omega) ⟨rfl, Below.refl _ _, hR⟩
              · refine ⟨fun _ _ _ _ _ h => h, fun _ _ _ _ h _ => h, fun v nR x hnR hR hk => ?_⟩
                have h16 : v 16 = .pointer (some ⟨g5, 8, none⟩) := hk 16 (by kernel_rfl)
                simp only [List.take_succ_cons, List.take_zero, frameF, Act.put, List.setIfInBounds_toArray, List.set_cons_zero, List.set_cons_succ]
                exact stepF_val (by first | rfl | simp [Region.wanted, yielded, *]) (by go_simp <;> omega) ⟨rfl, Below.refl _ _, hR⟩
              · refine ⟨fun _ _ _ _ _ h => h, fun _ _ _ _ h _ => h, fun v nR x hnR hR hk => ?_⟩
                simp only [List.take_succ_cons, List.take_zero, frameF, Act.put, List.setIfInBounds_toArray, List.set_cons_zero, List.set_cons_succ]
                exact stepF_val (by first | rfl | simp [Region.wanted, yielded, *]) (by go_simp <;> omega) ⟨rfl, Below.refl _ _, hR⟩
              · refine ⟨fun _ _ _ _ _ h => h, fun _ _ _ _ h _ => h, fun v nR x hnR hR hk => ?_⟩
                simp only [List.take_succ_cons, List.take_zero, frameF, Act.put, List.setIfInBounds_toArray, List.set_cons_zero, List.set_cons_succ]
                exact stepF_val (by first | rfl | simp [Region.wanted, yielded, *]) (by go_simp <;> omega) ⟨rfl, Below.refl _ _, hR⟩
              · refine ⟨fun _ _ _ _ _ h => h, fun _ _ _ _ h _ => h, fun v nR x hnR hR hk => ?_⟩
                simp only [List.take_succ_cons, List.take_zero, frameF, Act.put, List.setIfInBounds_toArray, List.set_cons_zero, List.set_cons_succ]
                exact stepF_val (by first | rfl | simp [Region.wanted, yielded, *]) (by go_simp <;> omega) ⟨rfl, Below.refl _ _, hR⟩
              · refine ⟨fun _ _ _ _ _ h => h, fun _ _ _ _ h _ => h, fun v nR x hnR hR hk => ?_⟩
                simp only [List.take_succ_cons, List.take_zero, frameF, Act.put, List.setIfInBounds_toArray, List.set_cons_zero, List.set_cons_succ]
                exact stepF_val (by first | rfl | simp [Region.wanted, yielded, *]) (by go_simp <;> omega) ⟨rfl, Below.refl _ _, hR⟩
              · refine ⟨fun _ _ _ _ _ h => h, fun _ _ _ _ h _ => h, fun v nR x hnR hR hk => ?_⟩
                simp only [List.take_succ_cons, List.take_zero, frameF, Act.put, List.setIfInBounds_toArray, List.set_cons_zero, List.set_cons_succ]
                exact stepF_val (by first | rfl | simp [Region.wanted, yielded, *]) (by go_simp <;> omega) ⟨rfl, Below.refl _ _, hR⟩
              · refine ⟨fun _ _ _ _ _ h => h, fun _ _ _ _ h _ => h, fun v nR x hnR hR hk => ?_⟩
                simp only [List.take_succ_cons, List.take_zero, frameF, Act.put, List.setIfInBounds_toArray, List.set_cons_zero, List.set_cons_succ]
                exact stepF_val (by first | rfl | simp [Region.wanted, yielded, *]) (by go_simp <;> omega) ⟨rfl, Below.refl _ _, hR⟩
              · refine ⟨fun _ _ _ _ _ h => h, fun _ _ _ _ h _ => h, fun v nR x hnR hR hk => ?_⟩
                simp only [List.take_succ_cons, List.take_zero, frameF, Act.put, List.setIfInBounds_toArray, List.set_cons_zero, List.set_cons_succ]
                exact stepF_val (by first | rfl | simp [Region.wanted, yielded, *]) (by go_simp <;> omega) ⟨rfl, Below.refl _ _, hR⟩
              · refine ⟨fun _ _ _ _ _ h => h, fun _ _ _ _ h _ => h, fun v nR x hnR hR hk => ?_⟩
                simp only [List.take_succ_cons, List.take_zero, frameF, Act.put, List.setIfInBounds_toArray, List.set_cons_zero, List.set_cons_succ]
                exact stepF_val (by first | rfl | simp [Region.wanted, yielded, *]) (by go_simp <;> omega) ⟨rfl, Below.refl _ _, hR⟩
              · refine ⟨fun _ _ _ _ _ h => h, fun _ _ _ _ h _ => h, fun v nR x hnR hR hk => ?_⟩
                simp only [List.take_succ_cons, List.take_zero, frameF, Act.put, List.setIfInBounds_toArray, List.set_cons_zero, List.set_cons_succ]
                exact stepF_val (by first | rfl | simp [Region.wanted, yielded, *]) (by go_simp <;> omega) ⟨rfl, Below.refl _ _, hR⟩
              · refine ⟨fun _ _ _ _ _ h => h, fun _ _ _ _ h _ => h, fun v nR x hnR hR hk => ?_⟩
                have h26 : v 26 = .pointer (some ⟨g10, 1, none⟩) := hk 26 (by kernel_rfl)
                have c76 : x.cell? ⟨g10, 1, none⟩ = some (.slice (some ⟨gb, 0, none⟩) 2 2) := (HBS.out.under hR).cell 1
                simp only [List.take_succ_cons, List.take_zero, frameF, Act.put, List.setIfInBounds_toArray, List.set_cons_zero, List.set_cons_succ]
                exact stepF_val (by first | rfl | simp [Region.wanted, yielded, *]) (by go_simp <;> omega) ⟨rfl, Below.refl _ _, hR⟩
              · refine ⟨fun _ _ _ _ _ h => h, fun _ _ _ _ h _ => h, fun v nR x hnR hR hk => ?_⟩
                have h27 : v 27 = .slice (some ⟨gb, 0, none⟩) 2 2 := hk 27 (by kernel_rfl)
                simp only [List.take_succ_cons, List.take_zero, frameF, Act.put, List.setIfInBounds_toArray, List.set_cons_zero, List.set_cons_succ]
                exact stepF_val (by first | rfl | simp [Region.wanted, yielded, *]) (by go_simp <;> omega) ⟨rfl, Below.refl _ _, hR⟩
              · refine ⟨fun _ _ _ _ _ h => h, fun _ _ _ _ h _ => h, fun v nR x hnR hR hk => ?_⟩
                simp only [List.take_succ_cons, List.take_zero, frameF, Act.put, List.setIfInBounds_toArray, List.set_cons_zero, List.set_cons_succ]
                exact stepF_val (by first | rfl | simp [Region.wanted, yielded, *]) (by go_simp <;> omega) ⟨rfl, Below.refl _ _, hR⟩
              · refine ⟨fun _ _ _ _ _ h => h, fun _ _ _ _ h _ => h, fun v nR x hnR hR hk => ?_⟩
                have h29 : v 29 = .slice (some ⟨gs, 0, none⟩) 4 4 := hk 29 (by kernel_rfl)
                simp only [List.take_succ_cons, List.take_zero, frameF, Act.put, List.setIfInBounds_toArray, List.set_cons_zero, List.set_cons_succ]
                exact stepF_val (by first | rfl | simp [Region.wanted, yielded, *]) (by go_simp <;> omega) ⟨rfl, Below.refl _ _, hR⟩
              · refine ⟨fun _ _ _ _ _ h => h, fun _ _ _ _ h _ => h, fun v nR x hnR hR hk => ?_⟩
                have h30 : v 30 = .pointer (some ⟨gs, 6, none⟩) := hk 30 (by kernel_rfl)
                simp only [List.take_succ_cons, List.take_zero, frameF, Act.put, List.setIfInBounds_toArray, List.set_cons_zero, List.set_cons_succ]
                exact stepF_val (by first | rfl | simp [Region.wanted, yielded, *]) (by go_simp <;> omega) ⟨rfl, Below.refl _ _, hR⟩
              · refine ⟨fun _ _ _ _ _ h => h, fun _ _ _ _ h _ => h, fun v nR x hnR hR hk => ?_⟩
                simp only [List.take_succ_cons, List.take_zero, frameF, Act.put, List.setIfInBounds_toArray, List.set_cons_zero, List.set_cons_succ]
                exact stepF_val (by first | rfl | simp [Region.wanted, yielded, *]) (by go_simp <;> omega) ⟨rfl, Below.refl _ _, hR⟩
              · refine ⟨fun _ _ _ _ _ h => h, fun _ _ _ _ h _ => h, fun v nR x hnR hR hk => ?_⟩
                have h32 : v 32 = .slice (some ⟨gs, 0, none⟩) 4 4 := hk 32 (by kernel_rfl)
                simp only [List.take_succ_cons, List.take_zero, frameF, Act.put, List.setIfInBounds_toArray, List.set_cons_zero, List.set_cons_succ]
                exact stepF_val (by first | rfl | simp [Region.wanted, yielded, *]) (by go_simp <;> omega) ⟨rfl, Below.refl _ _, hR⟩
              · refine ⟨fun _ _ _ _ _ h => h, fun _ _ _ _ h _ => h, fun v nR x hnR hR hk => ?_⟩
                have h33 : v 33 = .pointer (some ⟨gs, 0, none⟩) := hk 33 (by kernel_rfl)
                simp only [List.take_succ_cons, List.take_zero, frameF, Act.put, List.setIfInBounds_toArray, List.set_cons_zero, List.set_cons_succ]
                exact stepF_val (by first | rfl | simp [Region.wanted, yielded, *]) (by go_simp <;> omega) ⟨rfl, Below.refl _ _, hR⟩
              · refine ⟨fun _ _ _ _ _ h => h, fun _ _ _ _ h _ => h, fun v nR x hnR hR hk => ?_⟩
                simp only [List.take_succ_cons, List.take_zero, frameF, Act.put, List.setIfInBounds_toArray, List.set_cons_zero, List.set_cons_succ]
                exact stepF_val (by first | rfl | simp [Region.wanted, yielded, *]) (by go_simp <;> omega) ⟨rfl, Below.refl _ _, hR⟩
              · refine ⟨fun _ _ _ _ _ h => h, fun _ _ _ _ h _ => h, fun v nR x hnR hR hk => ?_⟩
                have h35 : v 35 = .slice (some ⟨g9, 0, none⟩) 4 4 := hk 35 (by kernel_rfl)
                simp only [List.take_succ_cons, List.take_zero, frameF, Act.put, List.setIfInBounds_toArray, List.set_cons_zero, List.set_cons_succ]
                exact stepF_val (by first | rfl | simp [Region.wanted, yielded, *]) (by go_simp <;> omega) ⟨rfl, Below.refl _ _, hR⟩
            · intro v nR x9 hnR hR hall
              have h2 : v 2 = .pointer (some ⟨g4, 4, none⟩) := hall 2 (by decide)
              have h5 : v 5 = .pointer (some ⟨g4, 13, none⟩) := hall 5 (by decide)
              have h8 : v 8 = .pointer (some ⟨g4, 18, none⟩) := hall 8 (by decide)
              have h11 : v 11 = .pointer (some ⟨g4, 11, none⟩) := hall 11 (by decide)
              have h14 : v 14 = .pointer (some ⟨g5, 4, none⟩) := hall 14 (by decide)
              have h17 : v 17 = .pointer (some ⟨g5, 11, none⟩) := hall 17 (by decide)
              have h18 : v 18 = .pointer (some ⟨g7, 0, none⟩) := hall 18 (by decide)
              have h19 : v 19 = .pointer (some ⟨g7, 1, none⟩) := hall 19 (by decide)
              have h20 : v 20 = .pointer (some ⟨g7, 2, none⟩) := hall 20 (by decide)
              have h21 : v 21 = .pointer (some ⟨g8, 0, none⟩) := hall 21 (by decide)
              have h22 : v 22 = .pointer (some ⟨g8, 1, none⟩) := hall 22 (by decide)
              have h23 : v 23 = .pointer (some ⟨g8, 2, none⟩) := hall 23 (by decide)
              have h24 : v 24 = .pointer (some ⟨g8, 3, none⟩) := hall 24 (by decide)
              have h25 : v 25 = .pointer (some ⟨g10, 0, none⟩) := hall 25 (by decide)
              have h28 : v 28 = .pointer (some ⟨gb, 1, none⟩) := hall 28 (by decide)
              have h31 : v 31 = .pointer (some ⟨gs, 6, none⟩) := hall 31 (by decide)
              have h34 : v 34 = .pointer (some ⟨gs, 2, none⟩) := hall 34 (by decide)
              have h36 : v 36 = .pointer (some ⟨g9, 1, none⟩) := hall 36 (by decide)
              clear hall hnR
              simp only [List.drop_succ_cons, List.drop_zero, List.take_succ_cons, List.take_zero, frameF, Act.put, List.setIfInBounds_toArray, List.set_cons_zero, List.set_cons_succ, Nat.zero_add, Nat.reduceAdd, h2, h5, h8, h11, h14, h17, h18, h19, h20, h21, h22, h23, h24, h25, h28, h31, h34, h36]
              refine buildVals rfl 35 34 19 _ rfl [.pointer (some ⟨g4, 4, none⟩), .pointer (some ⟨g4, 13, none⟩), .pointer (some ⟨g4, 18, none⟩), .pointer (some ⟨g4, 11, none⟩), .pointer (some ⟨g5, 4, none⟩), .pointer (some ⟨g5, 11, none⟩), .pointer (some ⟨g6, 0, none⟩), .pointer (some ⟨g7, 0, none⟩), .pointer (some ⟨g7, 1, none⟩), .pointer (some ⟨g7, 2, none⟩), .pointer (some ⟨g8, 0, none⟩), .pointer (some ⟨g8, 1, none⟩), .pointer (some ⟨g8, 2, none⟩), .pointer (some ⟨g8, 3, none⟩), .pointer (some ⟨g10, 0, none⟩), .pointer (some ⟨gb, 1, none⟩), .pointer (some ⟨gs, 6, none⟩), .pointer (some ⟨gs, 2, none⟩), .pointer (some ⟨g9, 1, none⟩)] Tryz.underlying35 (by kernel_rfl) (by kernel_rfl) rfl (by decide) (by decide) (fun u hu => by simp only [List.mem_cons, List.not_mem_nil, or_false] at hu; rcases hu with rfl | rfl | rfl | rfl | rfl | rfl | rfl | rfl | rfl | rfl | rfl | rfl | rfl | rfl | rfl | rfl | rfl | rfl | rfl <;> rfl) (by kernel_rfl) ?_
              have hSA := HSA.out
              have PT : ∃ g o, (x9.alloc (.cells #[.pointer (some ⟨g4, 4, none⟩), .pointer (some ⟨g4, 13, none⟩), .pointer (some ⟨g4, 18, none⟩), .pointer (some ⟨g4, 11, none⟩), .pointer (some ⟨g5, 4, none⟩), .pointer (some ⟨g5, 11, none⟩), .pointer (some ⟨g6, 0, none⟩), .pointer (some ⟨g7, 0, none⟩), .pointer (some ⟨g7, 1, none⟩), .pointer (some ⟨g7, 2, none⟩), .pointer (some ⟨g8, 0, none⟩), .pointer (some ⟨g8, 1, none⟩), .pointer (some ⟨g8, 2, none⟩), .pointer (some ⟨g8, 3, none⟩), .pointer (some ⟨g10, 0, none⟩), .pointer (some ⟨gb, 1, none⟩), .pointer (some ⟨gs, 6, none⟩), .pointer (some ⟨gs, 2, none⟩), .pointer (some ⟨g9, 1, none⟩)] 34)).cell? ⟨x9.heap.size, j, none⟩ = some (.pointer (some ⟨g, o, none⟩)) ∧ NumCell wr.heap.size g10 x3 g o := by
                have hBS := HBS.out
                have hB := Blk.new x9 34 #[.pointer (some ⟨g4, 4, none⟩), .pointer (some ⟨g4, 13, none⟩), .pointer (some ⟨g4, 18, none⟩), .pointer (some ⟨g4, 11, none⟩), .pointer (some ⟨g5, 4, none⟩), .pointer (some ⟨g5, 11, none⟩), .pointer (some ⟨g6, 0, none⟩), .pointer (some ⟨g7, 0, none⟩), .pointer (some ⟨g7, 1, none⟩), .pointer (some ⟨g7, 2, none⟩), .pointer (some ⟨g8, 0, none⟩), .pointer (some ⟨g8, 1, none⟩), .pointer (some ⟨g8, 2, none⟩), .pointer (some ⟨g8, 3, none⟩), .pointer (some ⟨g10, 0, none⟩), .pointer (some ⟨gb, 1, none⟩), .pointer (some ⟨gs, 6, none⟩), .pointer (some ⟨gs, 2, none⟩), .pointer (some ⟨g9, 1, none⟩)]
                have hb10 : ∀ {g n o t}, Ints x3 g t n → wr.heap.size ≤ g → o < n → t ≠ 30 → NumCell wr.heap.size g10 x3 g o := fun h hB ho ht => h.num hB ho hBS ht
                have hc := hB.cell j
                rcases (by omega : j = 0 ∨ j = 1 ∨ j = 2 ∨ j = 3 ∨ j = 4 ∨ j = 5 ∨ j = 6 ∨ j = 7 ∨ j = 8 ∨ j = 9 ∨ j = 10 ∨ j = 11 ∨ j = 12 ∨ j = 13 ∨ j = 14 ∨ j = 15 ∨ j = 16 ∨ j = 17 ∨ j = 18) with rfl | rfl | rfl | rfl | rfl | rfl | rfl | rfl | rfl | rfl | rfl | rfl | rfl | rfl | rfl | rfl | rfl | rfl | rfl
                · exact ⟨_, _, hc, hb10 j4 hg4 (by omega) (by decide)⟩
                · exact ⟨_, _, hc, hb10 j4 hg4 (by omega) (by decide)⟩
                · exact ⟨_, _, hc, hb10 j4 hg4 (by omega) (by decide)⟩
                · exact ⟨_, _, hc, hb10 j4 hg4 (by omega) (by decide)⟩
                · exact ⟨_, _, hc, hb10 j5 hg5 (by omega) (by decide)⟩
                · exact ⟨_, _, hc, hb10 j5 hg5 (by omega) (by decide)⟩
                · exact ⟨_, _, hc, hb10 j6 hg6 (by omega) (by decide)⟩
                · exact ⟨_, _, hc, hb10 j7 hg7 (by omega) (by decide)⟩
                · exact ⟨_, _, hc, hb10 j7 hg7 (by omega) (by decide)⟩
                · exact ⟨_, _, hc, hb10 j7 hg7 (by omega) (by decide)⟩
                · exact ⟨_, _, hc, hb10 j8 hg8 (by omega) (by decide)⟩
                · exact ⟨_, _, hc, hb10 j8 hg8 (by omega) (by decide)⟩
                · exact ⟨_, _, hc, hb10 j8 hg8 (by omega) (by decide)⟩
                · exact ⟨_, _, hc, hb10 j8 hg8 (by omega) (by decide)⟩
                · exact ⟨_, _, hc, ⟨⟨10, hBS.cell 0⟩, hBS.frozen 0, hg10, hBS.lt, fun _ => rfl⟩⟩
                · exact ⟨_, _, hc, hb10 jb (Nat.le_trans hrx2 hgb) (by omega) (by decide)⟩
                · exact ⟨_, _, hc, hb10 js (Nat.le_trans hrx2 hgs) (by omega) (by decide)⟩
                · exact ⟨_, _, hc, hb10 js (Nat.le_trans hrx2 hgs) (by omega) (by decide)⟩
                · exact ⟨_, _, hc, hb10 j9 hg9 (by omega) (by decide)⟩
              obtain ⟨gp, op, hp1, hp2⟩ := PT
              have h34 : Below x3.heap.size x3 (x9.alloc (.cells #[.pointer (some ⟨g4, 4, none⟩), .pointer (some ⟨g4, 13, none⟩), .pointer (some ⟨g4, 18, none⟩), .pointer (some ⟨g4, 11, none⟩), .pointer (some ⟨g5, 4, none⟩), .pointer (some ⟨g5, 11, none⟩), .pointer (some ⟨g6, 0, none⟩), .pointer (some ⟨g7, 0, none⟩), .pointer (some ⟨g7, 1, none⟩), .pointer (some ⟨g7, 2, none⟩), .pointer (some ⟨g8, 0, none⟩), .pointer (some ⟨g8, 1, none⟩), .pointer (some ⟨g8, 2, none⟩), .pointer (some ⟨g8, 3, none⟩), .pointer (some ⟨g10, 0, none⟩), .pointer (some ⟨gb, 1, none⟩), .pointer (some ⟨gs, 6, none⟩), .pointer (some ⟨gs, 2, none⟩), .pointer (some ⟨g9, 1, none⟩)] 34)) := hR.alloc hR.size _
              have hp8 : x9.heap.size < (x9.alloc (.cells #[.pointer (some ⟨g4, 4, none⟩), .pointer (some ⟨g4, 13, none⟩), .pointer (some ⟨g4, 18, none⟩), .pointer (some ⟨g4, 11, none⟩), .pointer (some ⟨g5, 4, none⟩), .pointer (some ⟨g5, 11, none⟩), .pointer (some ⟨g6, 0, none⟩), .pointer (some ⟨g7, 0, none⟩), .pointer (some ⟨g7, 1, none⟩), .pointer (some ⟨g7, 2, none⟩), .pointer (some ⟨g8, 0, none⟩), .pointer (some ⟨g8, 1, none⟩), .pointer (some ⟨g8, 2, none⟩), .pointer (some ⟨g8, 3, none⟩), .pointer (some ⟨g10, 0, none⟩), .pointer (some ⟨gb, 1, none⟩), .pointer (some ⟨gs, 6, none⟩), .pointer (some ⟨gs, 2, none⟩), .pointer (some ⟨g9, 1, none⟩)] 34)).heap.size := by simp
              generalize x9.alloc (.cells #[.pointer (some ⟨g4, 4, none⟩), .pointer (some ⟨g4, 13, none⟩), .pointer (some ⟨g4, 18, none⟩), .pointer (some ⟨g4, 11, none⟩), .pointer (some ⟨g5, 4, none⟩), .pointer (some ⟨g5, 11, none⟩), .pointer (some ⟨g6, 0, none⟩), .pointer (some ⟨g7, 0, none⟩), .pointer (some ⟨g7, 1, none⟩), .pointer (some ⟨g7, 2, none⟩), .pointer (some ⟨g8, 0, none⟩), .pointer (some ⟨g8, 1, none⟩), .pointer (some ⟨g8, 2, none⟩), .pointer (some ⟨g8, 3, none⟩), .pointer (some ⟨g10, 0, none⟩), .pointer (some ⟨gb, 1, none⟩), .pointer (some ⟨gs, 6, none⟩), .pointer (some ⟨gs, 2, none⟩), .pointer (some ⟨g9, 1, none⟩)] 34) = x4 at *
              generalize x9.heap.size = g9n at *
              clear hR HBS HSA
              have hn4 : NumCell wr.heap.size g10 x4 gp op := by
                obtain ⟨⟨y, hy⟩, h2, h3, h4, h5⟩ := hp2
                exact ⟨⟨y, (h34.cell (p := ⟨gp, op, none⟩) h4).trans hy⟩, (h34.frozen (p := ⟨gp, op, none⟩) h4).trans h2, h3, Nat.lt_of_lt_of_le h4 h34.size, h5⟩
              have hS4 : SaleAt x4 g10 gb := by obtain ⟨f, h⟩ := hSA; exact ⟨f, h.under h34⟩
              have hx4 := hx3'.next h34 (Nat.le_refl _)
              have K4 := Lib.hid ((j4.under h34).set gp op vz hv)
              have K5 := Lib.hid ((j5.under h34).set gp op vz hv)
              have K6 := Lib.hid ((j6.under h34).set gp op vz hv)
              have K7 := Lib.hid ((j7.under h34).set gp op vz hv)
              have K8 := Lib.hid ((j8.under h34).set gp op vz hv)
              have K9 := Lib.hid ((j9.under h34).set gp op vz hv)
              have KB := Lib.hid ((jb.under h34).set gp op vz hv)
              have KS := Lib.hid ((js.under h34).set gp op vz hv)
              have KSA := Lib.hid (hS4.set hn4 vz)
              have KX := Lib.hid (hx4.setCell (p := ⟨gp, op, none⟩) hn4.base (iv vz))
              obtain ⟨⟨yp, cp1⟩, cp2, _, cp3, _⟩ := hn4
              clear j4 j5 j6 j7 j8 j9 jb js hSA hS4 hx4 hp2 h34 hx3' hd3
              go_upto_region 11 with fail
              clear cp1 cp2 cp3
              generalize x4.setCell ⟨gp, op, none⟩ (iv vz) = x5 at *
              obtain ⟨l4, hl4, hs4⟩ := Ints.rules (k := 5) (by omega) K4.out
              obtain ⟨l5, hl5, hs5⟩ := Ints.rules (k := 5) (by omega) K5.out
              obtain ⟨lb, hlb, hsb⟩ := Ints.ints (k := 2) (by omega) KB.out
              obtain ⟨lp, hlp, hsp⟩ := Ints.ints (k := 4) (by omega) K9.out
              obtain ⟨lst, hlst, hsst⟩ := Ints.pieces (k := 4) (by omega) KS.out
              obtain ⟨m, hmi, m0⟩ := K6.out.cell (o := 0) (by omega)
              obtain ⟨qa, _, q0⟩ := K7.out.cell (o := 0) (by omega)
              obtain ⟨qb, _, q1⟩ := K7.out.cell (o := 1) (by omega)
              obtain ⟨qc, _, q2⟩ := K7.out.cell (o := 2) (by omega)
              obtain ⟨ra, _, r0⟩ := K8.out.cell (o := 0) (by omega)
              obtain ⟨rb, _, r1⟩ := K8.out.cell (o := 1) (by omega)
              obtain ⟨rc, _, r2⟩ := K8.out.cell (o := 2) (by omega)
              obtain ⟨rd, _, r3⟩ := K8.out.cell (o := 3) (by omega)
              obtain ⟨f, hbf⟩ := KSA.out
              have s0 := hbf.cell
              have HAS : Hid (Calls Tryz.prog 6 #[.slice (some ⟨g4, 0, none⟩) 5 5, .slice (some ⟨g5, 4, none⟩) 4 4, iv m, .agg #[iv qa, iv qb, iv qc], .agg #[iv ra, iv rb, iv rc, iv rd], .agg #[iv f, .slice (some ⟨gb, 0, none⟩) 2 2], .slice (some ⟨gs, 0, none⟩) 4 4, .slice (some ⟨g9, 0, none⟩) 4 4] x5 fun e w' => e = .returned (.bool true) ∧ Below x5.heap.size x5 w') := by
                have hd5 : (l5.drop 1).length = 4 := by rw [List.length_drop]; omega
                have := asked_spec (some ⟨g4, 0, none⟩) l4 5 (some ⟨g5, 4, none⟩) (l5.drop 1) 4 m ⟨qa, qb, qc⟩ ⟨ra, rb, rc, rd⟩ f (some ⟨gb, 0, none⟩) lb 2 (some ⟨gs, 0, none⟩) lst 4 (some ⟨g9, 0, none⟩) lp 4 x5 (by unfold maxLen; omega) (by omega) hs4 (by unfold maxLen; omega) (by omega) (by have := hs5.dropO 1; simpa [ruleE] using this) hmi hsb hsst hsp (by unfold maxLen; omega) (by unfold maxLen; omega) (by unfold maxLen; omega)
                rw [hl4, hd5, hlb, hlst, hlp] at this
                exact this
              have hzx := KX.out.size
              clear hl4 hs4 hl5 hs5 hlb hsb hlp hsp hlst hsst hbf K4 K5 K6 K7 K8 K9 KB KS KSA hmi
              go_wp2_with fail
              refine HAS.out.mono ?_
              rintro e x6 ⟨rfl, hb6⟩
              have HBR := Lib.hid (hbr.next (KX.out.next hb6 (Nat.le_refl _)) (Nat.le_refl _))
              clear HAS s0 m0 q0 q1 q2 r0 r1 r2 r3
              go_wp2_with fail
              go_roundw
              case rel => exact ⟨j + 1, by omega, by go_num, HBR.out⟩
              case measure => simp [intOf]; omega
        · have hji : ¬ (j : Int) < 19 := by omega
          have HBW := Lib.hid (hbw.trans (hbr.mono (by have := hbw.size; simp at this; omega)))
          go_wp2_with fail
          go_roundw
          case rel => exact ⟨k + 1, by omega, by go_num, HBW.out⟩
          case measure => simp [intOf]; omega
    · have hki : ¬ (k : Int) < 16 := by omega
      have hb0 : Below w.heap.size w wr := ((Below.refl w.heap.size w).alloc (Nat.le_refl _) _).trans (hbw.mono (Nat.le_succ _))
      clear hbw
      obtain ⟨w2, rfl⟩ : ∃ w2 : World, w2 = wr := ⟨_, rfl⟩
      go_wp2_with fail
      go_loopw [13, 14, 15, 16, 17, 18, 20, 105] (fun _ _ _ _ _ _ _ i wr => ∃ n : Nat, n ≤ 50 ∧ i = iv n ∧ Below w2.heap.size w2 wr) (fun _ _ _ _ _ _ _ i _ => 50 - (intOf i).toNat)
      case atStart => exact ⟨0, by omega, rfl, Below.refl _ _⟩
      case round =>
        obtain ⟨n, hn, rfl, hbw⟩ := hrel
        by_cases hlt : n < 50
        · have hni : (n : Int) < 50 := by omega
          have h7 : (n : Int).tmod 7 = ((n % 7 : Nat) : Int) := by rw [Int.tmod_eq_emod_of_nonneg (by omega)]; rfl
          have h7w : IntKind.i64.wrap ((n % 7 : Nat) : Int) = ((n % 7 : Nat) : Int) := IntWalk.i64_in _ (by omega)
          obtain ⟨n7, hn7⟩ : ∃ n7, n7 = n % 7 := ⟨_, rfl⟩
          have hl7 : n7 < 7 := by rw [hn7]; exact Nat.mod_lt _ (by omega)
          rw [← hn7] at h7 h7w
          have h7e : (n : Int) % 7 = (n7 : Int) := by rw [hn7]; rfl
          obtain ⟨wo, rfl⟩ : ∃ wo : World, wo = wr := ⟨_, rfl⟩
          clear hn7
          go_wp2_with fail
          go_loopw [14, 15, 110] (fun v _ i wx => ∃ (k : Nat) (l : List Rule), k ≤ n7 ∧ i = iv k ∧ l.length = k ∧ Own ruleE 28 wo.heap.size wx v l ∧ Below wo.heap.size wo wx) (fun _ _ i _ => n7 - (intOf i).toNat)
          case atStart => exact ⟨0, [], by omega, rfl, rfl, Own.nil, Below.refl _ _⟩
          case round =>
            obtain ⟨k, l, hk, rfl, hlk, hown, hbx⟩ := hrel
            have hzx := hbx.size
            by_cases hlt2 : k < n7
            · as_aux_lemma =>
              have hki : (k : Int) < (n7 : Int) := by omega
              have hk1 : IntKind.i64.wrap ((k : Int) + 1) = (k : Int) + 1 := IntWalk.i64_in _ (by omega)
              have hk2 : IntKind.i64.wrap ((k : Int) + 2) = (k : Int) + 2 := IntWalk.i64_in _ (by omega)
              have hk3 : ¬ (k : Int) + 1 = 0 := by omega
              have hk4 : ¬ (k : Int) + 2 = 0 := by omega
              have hk5 : ((k : Int) + 1 == 0) = false := beq_eq_false_iff_ne.2 hk3
              have hk6 : ((k : Int) + 2 == 0) = false := beq_eq_false_iff_ne.2 hk4
              have HLK := Lib.hid hlk
              have hd : Own ruleE 28 wo.heap.size wr.drew u14 l := hown
              have HOD := Lib.hid hd
              have HBD := Lib.hid hbx.drew
              have HBA : Hid (∀ t arr, Below wo.heap.size wo (wr.drew.alloc (.cells arr t))) := fun t arr => hbx.drew.alloc hzx _
              clear hlk hd hown
              go_wp2_with fail
              go_region_held3 (fun a => Below wo.heap.size wo a) (first | assumption | exact HBD.out | exact HBA.out _ _ | exact HX1.out)
                (first
                  | (refine stepApp1 ruleE tyRules (by rfl) _ _ (by rfl) HOD.out ⟨_, _, _, _⟩ rfl (by rfl) (G := wr.heap.size) (by rfl) (by rfl) rfl hzx (by rw [HLK.out]; unfold big; omega) ?_; intro v1 x1 hown1 hbx1 _; have HX1 := Lib.hid (HBD.out.trans hbx1))
                  | (trace_state; fail))
              all_goals
                have HO1 := Lib.hid hown1
                clear hown1 hbx1
                go_wp2_with fail
                go_roundw
                case rel => exact ⟨k + 1, _, by omega, by go_num, by rw [List.length_append, List.length_singleton, HLK.out], HO1.out, HX1.out⟩
                case measure => simp [intOf]; omega
            · have hki : ¬ (k : Int) < (n7 : Int) := by omega
              obtain ⟨A1, c1, rfl, hc1, _⟩ := hown.form
              have hs1 := hown.sl
              have hl6 : l.length ≤ 6 := by omega
              obtain ⟨w3, rfl⟩ : ∃ w3 : World, w3 = wr := ⟨_, rfl⟩
              have hb23 := hbw.next hbx (Nat.le_refl _)
              have HS1 : Hid (∀ W, Below w3.heap.size w3 W → Sl ruleE W A1 l) := fun W h => hs1.below h
              have HSH := Lib.hid (Shortest_spec A1 l c1 w3 (by unfold big; omega) hc1 hs1)
              have hsl := Price.shortOf_length l
              obtain ⟨⟨xs, xe⟩, hxs⟩ : ∃ x, x = Price.shortOf l := ⟨_, rfl⟩
              unfold ShortestOk at HSH
              rw [← hxs] at HSH hsl
              dsimp only at HSH hsl
              clear hown hs1 hxs hlk hbw hbx
              go_wp2_with fail
              refine HSH.out.mono ?_
              rintro e w4 ⟨Ax, cx, rfl, hcx, _, hsx, hb34⟩
              have HSX : Hid (∀ W, Below w4.heap.size w4 W → Sl intE W Ax xs) := fun W h => hsx.below h
              clear HSH hsx
              go_wp2_with fail
              go_loopw [18, 20, 147] (fun v _ i wx => ∃ (k : Nat) (sh : List Rule), k ≤ xs.length ∧ i = iv k ∧ sh.length ≤ k ∧ Own ruleE 28 w4.heap.size wx v sh ∧ Below w4.heap.size w4 wx) (fun _ _ i _ => xs.length - (intOf i).toNat)
              case atStart => exact ⟨0, [], by omega, rfl, Nat.le_refl _, Own.nil, Below.refl _ _⟩
              case round =>
                obtain ⟨k2, sh, hk2, rfl, hsk, hosh, hbx⟩ := hrel
                have hzx := hbx.size
                by_cases hlt3 : k2 < xs.length
                · have hki2 : (k2 : Int) < (xs.length : Int) := by omega
                  obtain ⟨ba, oa, i, rfl, hba, hx, hcx2⟩ := (HSX.out wr hbx).atI hlt3
                  clear hx
                  by_cases hi0 : 0 ≤ i
                  · obtain ⟨ii, rfl⟩ := Int.eq_ofNat_of_zero_le hi0
                    by_cases hil : ii < l.length
                    · have hili : (ii : Int) < (l.length : Int) := by omega
                      obtain ⟨bl, ol, r, rfl, hbl, hr, hr0, hr1, hr2, hr3⟩ := (HS1.out wr (hb34.next hbx (Nat.le_refl _))).atR hil
                      obtain ⟨ra, rb, rc, rd⟩ := r
                      dsimp only at hr0 hr1 hr2 hr3
                      clear hr
                      go_wp2_with (at_builtin; refine wpApp1 ruleE tyRules rfl _ _ rfl hosh ⟨ra, rb, rc, rd⟩ rfl rfl rfl hzx (by unfold big; omega) ?_; intro v' w5 hown5 hb5 hk5)
                      clear hk5
                      go_roundw
                      case rel => exact ⟨k2 + 1, sh ++ [⟨ra, rb, rc, rd⟩], by omega, by go_num, by simp; omega, hown5, hbx.trans hb5⟩
                      case measure => simp [intOf]; omega
                    · have hili : ¬ (ii : Int) < (l.length : Int) := by omega
                      go_wp2_with fail
                      go_roundw
                      case rel => exact ⟨k2 + 1, sh, by omega, by go_num, by omega, hosh, hbx⟩
                      case measure => simp [intOf]; omega
                  · go_wp2_with fail
                    go_roundw
                    case rel => exact ⟨k2 + 1, sh, by omega, by go_num, by omega, hosh, hbx⟩
                    case measure => simp [intOf]; omega
                · have hki2 : ¬ (k2 : Int) < (xs.length : Int) := by omega
                  obtain ⟨w5, rfl⟩ : ∃ w5 : World, w5 = wr := ⟨_, rfl⟩
                  have hb35 := hb34.next hbx (Nat.le_refl _)
                  have hs6 : sh.length ≤ 12 := by omega
                  obtain ⟨n3, hn3⟩ : ∃ n3, n3 = n % 3 := ⟨_, rfl⟩
                  have m3 : (n : Int).tmod 3 = (n3 : Int) := by rw [Int.tmod_eq_emod_of_nonneg (by omega), hn3]; rfl
                  have m3e : (n : Int) % 3 = (n3 : Int) := by rw [hn3]; rfl
                  have h3l : n3 < 3 := by rw [hn3]; exact Nat.mod_lt _ (by omega)
                  obtain ⟨A8, c8, rfl, hc8, _⟩ := hosh.form
                  have hzx0 : w4.heap.size ≤ w5.heap.size := hzx
                  have hb34z := hb34.size
                  clear hbx HSX hb34 hsk hn3
                  go_upto_region 32 with fail
                  go_cut [174] from 167 to 174 (fun v wx => ∃ b : Bool, v = .bool b ∧ Hid (b = true → sh ≠ []) ∧ wx = w5)
                  case first => as_aux_lemma =>
                    by_cases h30 : n3 = 0
                    · have h30i : ((n3 : Int) == 0) = true := by rw [h30]; rfl
                      cases sh with
                      | nil =>
                        go_wp2_with fail
                        go_meet
                        exact ⟨false, rfl, (fun h => by cases h), rfl⟩
                      | cons r0 sh =>
                        have hpos : (0 : Int) < ((r0 :: sh).length : Int) := by simp
                        go_wp2_with fail
                        go_meet
                        exact ⟨true, rfl, (fun _ h => by cases h), rfl⟩
                    · have h30i : ((n3 : Int) == 0) = false := beq_eq_false_iff_ne.2 (by omega)
                      go_wp2_with fail
                      go_meet
                      exact ⟨false, rfl, (fun h => by cases h), rfl⟩
                  case rest =>
                  obtain ⟨bb, rfl, hbb, hwc⟩ := hcut
                  subst hwc
                  generalize wc = w5 at *
                  go_upto_if 174 with fail
                  go_cut [18] from 175 to 182 (fun v wx => ∃ (A : Option Addr) (sh : List Rule) (c : Nat), v = .slice A sh.length c ∧ sh.length ≤ c ∧ sh.length ≤ 12 ∧ Sl ruleE wx A sh ∧ Below w3.heap.size w3 wx)
                  case first => as_aux_lemma =>
                    cases bb with
                    | false =>
                      go_wp2_with fail
                      go_meet
                      exact ⟨A8, sh, c8, rfl, hc8, hs6, hosh.sl, hb35⟩
                    | true =>
                      have hne := hbb.out rfl
                      cases sh with
                      | nil => exact absurd rfl hne
                      | cons r0 sh =>
                        obtain ⟨g8, c8', hv8⟩ := hosh.some_ (by simp)
                        injection hv8 with hv81 hv82 hv83
                        subst hv81
                        obtain ⟨hfz, hBg, hgl, hcl8, hown8⟩ := hosh.setPrice (wrap64 (r0.p + 1))
                        have H35 := Lib.hid (hb35.setCell (p := ⟨g8, 3, none⟩) (Nat.le_trans hb34z hBg) (iv (wrap64 (r0.p + 1))))
                        have HO8 := Lib.hid hown8
                        clear hosh hown8 hv82 hv83 hbb hne
                        go_wp2_with fail
                        go_meet
                        exact ⟨some ⟨g8, 0, none⟩, ⟨r0.b, r0.s, r0.e, wrap64 (r0.p + 1)⟩ :: sh, c8, rfl, hc8, hs6, HO8.out.sl, H35.out⟩
                  case rest => as_aux_lemma =>
                    obtain ⟨A9, sh9, c9, rfl, hc9, hs9, hsl9, hb39⟩ := hcut
                    generalize wc = y5 at *
                    have H35 := Lib.hid hb39
                    clear hosh hbb hb35 hc8 hs6 hb39
                    obtain ⟨n8, hn8⟩ : ∃ x, x = n % 8 := ⟨_, rfl⟩
                    have m8 : (n : Int).tmod 8 = (n8 : Int) := by rw [Int.tmod_eq_emod_of_nonneg (by omega), hn8]; rfl
                    have m8e : (n : Int) % 8 = (n8 : Int) := by rw [hn8]; rfl
                    have h8l : n8 < 8 := by rw [hn8]; exact Nat.mod_lt _ (by omega)
                    obtain ⟨n4, hn4⟩ : ∃ x, x = n % 4 := ⟨_, rfl⟩
                    have m4 : (n : Int).tmod 4 = (n4 : Int) := by rw [Int.tmod_eq_emod_of_nonneg (by omega), hn4]; rfl
                    have m4e : (n : Int) % 4 = (n4 : Int) := by rw [hn4]; rfl
                    have h4l : n4 < 4 := by rw [hn4]; exact Nat.mod_lt _ (by omega)
                    obtain ⟨n5, hn5⟩ : ∃ x, x = n % 5 := ⟨_, rfl⟩
                    have m5 : (n : Int).tmod 5 = (n5 : Int) := by rw [Int.tmod_eq_emod_of_nonneg (by omega), hn5]; rfl
                    have m5e : (n : Int) % 5 = (n5 : Int) := by rw [hn5]; rfl
                    have h5l : n5 < 5 := by rw [hn5]; exact Nat.mod_lt _ (by omega)
                    obtain ⟨n2, hn2⟩ : ∃ x, x = n % 2 := ⟨_, rfl⟩
                    have m2 : (n : Int).tmod 2 = (n2 : Int) := by rw [Int.tmod_eq_emod_of_nonneg (by omega), hn2]; rfl
                    have m2e : (n : Int) % 2 = (n2 : Int) := by rw [hn2]; rfl
                    have h2l : n2 < 2 := by rw [hn2]; exact Nat.mod_lt _ (by omega)
                    have w8w : IntKind.i64.wrap (n8 : Int) = (n8 : Int) := IntWalk.i64_in _ (by omega)
                    have w4w : IntKind.i64.wrap (n4 : Int) = (n4 : Int) := IntWalk.i64_in _ (by omega)
                    have w5w : IntKind.i64.wrap (n5 : Int) = (n5 : Int) := IntWalk.i64_in _ (by omega)
                    have w2w : IntKind.i64.wrap (n2 : Int) = (n2 : Int) := IntWalk.i64_in _ (by omega)
                    have w3w : IntKind.i64.wrap (n3 : Int) = (n3 : Int) := IntWalk.i64_in _ (by omega)
                    have R1 := Lib.hid (rules_walk A1 l c1 n8 ⟨n4, n5, n3⟩ ⟨n4, -1, n2, n⟩ (y5) (by unfold maxLen; omega) hc1 (HS1.out _ H35.out))
                    have HS8 := Lib.hid hsl9
                    clear hn8 hn4 hn5 hn2 hsl9
                    go_wp2_with fail
                    refine R1.out.mono ?_
                    rintro e y6 ⟨rfl, hy6⟩
                    have hy36 := H35.out.next hy6 (Nat.le_refl _)
                    have R2 := Lib.hid (pieces_walk A1 l c1 ⟨n3, n4, n3⟩ y6 (by unfold maxLen; omega) hc1 (HS1.out _ hy36))
                    clear R1
                    go_wp2_with fail
                    refine R2.out.mono ?_
                    rintro e y7 ⟨rfl, hy7⟩
                    have hy37 := hy36.next hy7 (Nat.le_refl _)
                    have R3 := Lib.hid (lists_walk A1 l c1 (A9) (sh9) (c9) n8 y7 (by unfold maxLen; omega) hc1 (HS1.out _ hy37) (by unfold maxLen; omega) hc9 ((HS8.out.below hy6).below hy7) (by omega))
                    clear R2
                    go_wp2_with fail
                    refine R3.out.mono ?_
                    rintro e y8 ⟨rfl, hy8⟩
                    have HB28 := Lib.hid (hb23.next (hy37.next hy8 (Nat.le_refl _)) (Nat.le_refl _))
                    clear R3
                    go_wp2_with fail
                    go_roundw
                    case rel => exact ⟨n + 1, by omega, by go_num, HB28.out⟩
                    case measure => simp [intOf]; omega
        · have hni : ¬ (n : Int) < 50 := by omega
          have hb03 : Below w.heap.size w wr := hb0.trans (hbw.mono hb0.size)
          have hst0 := Sl.fresh pieceE wr 26 #[iv 0, iv 0, iv 0, iv 1, iv 0, iv 0, iv 0, iv 2, iv 0] [⟨0, 0, 0⟩, ⟨1, 0, 0⟩, ⟨0, 2, 0⟩] rfl (by simp [maxLen])
          have hb04 : Below w.heap.size w (wr.alloc (.cells #[iv 0, iv 0, iv 0, iv 1, iv 0, iv 0, iv 0, iv 2, iv 0] 26)) := hb03.alloc hb03.size _
          obtain ⟨gst, hgst⟩ : ∃ g, g = wr.heap.size := ⟨_, rfl⟩
          clear hbw hb03 hb0
          go_wp2_with fail
          generalize wr.alloc (.cells #[iv 0, iv 0, iv 0, iv 1, iv 0, iv 0, iv 0, iv 2, iv 0] 26) = w5 at *
          rw [← hgst] at hst0 ⊢
          have HST : Hid (∀ W, Below w5.heap.size w5 W → Sl pieceE W (some ⟨gst, 0, none⟩) [⟨0, 0, 0⟩, ⟨1, 0, 0⟩, ⟨0, 2, 0⟩]) := fun W h => hst0.below h
          clear hst0 hgst
          go_loopw [22, 23, 24, 225] (fun _ _ _ i wx => ∃ n : Nat, n ≤ 64 ∧ i = iv n ∧ Below w5.heap.size w5 wx) (fun _ _ _ i _ => 64 - (intOf i).toNat)
          case atStart => exact ⟨0, by omega, rfl, Below.refl _ _⟩
          case round =>
            obtain ⟨n, hn, rfl, hbw⟩ := hrel
            by_cases hlt : n < 64
            · as_aux_lemma =>
              have hni : (n : Int) < 64 := by omega
              obtain ⟨na, hna⟩ : ∃ x, x = n % 4 := ⟨_, rfl⟩
              have ma : (n : Int).tmod 4 = (na : Int) := by rw [Int.tmod_eq_emod_of_nonneg (by omega), hna]; rfl
              have mae : (n : Int) % 4 = (na : Int) := by rw [hna]; rfl
              have haw : IntKind.i64.wrap (na : Int) = (na : Int) := IntWalk.i64_in _ (by omega)
              have haw2 : IntKind.i64.wrap ((na : Int) - 1) = (na : Int) - 1 := IntWalk.i64_in _ (by omega)
              obtain ⟨nq, hnq⟩ : ∃ x, x = n / 4 := ⟨_, rfl⟩
              have mq : (n : Int).tdiv 4 = (nq : Int) := by rw [Int.tdiv_eq_ediv_of_nonneg (by omega), hnq]; rfl
              have mqe : (n : Int) / 4 = (nq : Int) := by rw [hnq]; rfl
              have hqw : IntKind.i64.wrap (nq : Int) = (nq : Int) := IntWalk.i64_in _ (by omega)
              obtain ⟨nb, hnb⟩ : ∃ x, x = nq % 4 := ⟨_, rfl⟩
              have mb : (nq : Int).tmod 4 = (nb : Int) := by rw [Int.tmod_eq_emod_of_nonneg (by omega), hnb]; rfl
              have mbe : (nq : Int) % 4 = (nb : Int) := by rw [hnb]; rfl
              have hbw1 : IntKind.i64.wrap (nb : Int) = (nb : Int) := IntWalk.i64_in _ (by omega)
              have hbw2 : IntKind.i64.wrap ((nb : Int) - 1) = (nb : Int) - 1 := IntWalk.i64_in _ (by omega)
              obtain ⟨nc, hnc⟩ : ∃ x, x = n / 16 := ⟨_, rfl⟩
              have mc : (n : Int).tdiv 16 = (nc : Int) := by rw [Int.tdiv_eq_ediv_of_nonneg (by omega), hnc]; rfl
              have mce : (n : Int) / 16 = (nc : Int) := by rw [hnc]; rfl
              have hcw1 : IntKind.i64.wrap (nc : Int) = (nc : Int) := IntWalk.i64_in _ (by omega)
              have hcw2 : IntKind.i64.wrap ((nc : Int) - 1) = (nc : Int) - 1 := IntWalk.i64_in _ (by omega)
              have hpl := Sl.fresh intE wr 3 #[iv ((na : Int) - 1), iv ((nb : Int) - 1), iv ((nc : Int) - 1)] [(na : Int) - 1, (nb : Int) - 1, (nc : Int) - 1] rfl (by simp [maxLen])
              have hb6 : Below w5.heap.size w5 (wr.alloc (.cells #[iv ((na : Int) - 1), iv ((nb : Int) - 1), iv ((nc : Int) - 1)] 3)) := hbw.alloc hbw.size _
              obtain ⟨gpl, hgpl⟩ : ∃ g, g = wr.heap.size := ⟨_, rfl⟩
              clear hna hnq hnb hnc hbw
              go_wp2_with fail
              generalize wr.alloc (.cells #[iv ((na : Int) - 1), iv ((nb : Int) - 1), iv ((nc : Int) - 1)] 3) = w6 at *
              rw [← hgpl] at hpl ⊢
              have HPL : Hid (∀ W, Below w6.heap.size w6 W → Sl intE W (some ⟨gpl, 0, none⟩) [(na : Int) - 1, (nb : Int) - 1, (nc : Int) - 1]) := fun W h => hpl.below h
              clear hpl hgpl ma mae haw haw2 mq mqe hqw mb mbe hbw1 hbw2 mc mce hcw1 hcw2
              go_loopw [24, 239] (fun _ i wx => ∃ m : Nat, m ≤ 4 ∧ i = iv m ∧ Below w6.heap.size w6 wx) (fun _ i _ => 4 - (intOf i).toNat)
              case atStart => exact ⟨0, by omega, rfl, Below.refl _ _⟩
              case round =>
                obtain ⟨m, hm, rfl, hbx⟩ := hrel
                by_cases hlt4 : m < 4
                · have hmi : (m : Int) < 4 := by omega
                  have hm10 : IntKind.i64.wrap (10 * (m : Int)) = 10 * (m : Int) := IntWalk.i64_in _ (by omega)
                  go_wp2_with fail
                  refine (Five_own wr).mono ?_
                  rintro e x1 ⟨g, rfl, hg, hi, hb1⟩
                  have hbb := Sl.fresh intE x1 3 #[iv 1, iv m, iv 1] [1, (m : Int), 1] rfl (by simp [maxLen])
                  have hb2 : Below x1.heap.size x1 (x1.alloc (.cells #[iv 1, iv m, iv 1] 3)) := (Below.refl _ _).alloc (Nat.le_refl _) _
                  have hb62 := (hbx.next hb1 (Nat.le_refl _)).next hb2 (Nat.le_refl _)
                  obtain ⟨l5, hl5, hs5⟩ := Ints.rules (k := 5) (by omega) (hi.under hb2)
                  have HSA : Hid (Calls Tryz.prog 11 #[.slice (some ⟨g, 0, none⟩) 5 5, .agg #[iv (10 * (m : Int)), .slice (some ⟨x1.heap.size, 0, none⟩) 3 3], .slice (some ⟨gst, 0, none⟩) 3 3, .slice (some ⟨gpl, 0, none⟩) 3 3] (x1.alloc (.cells #[iv 1, iv m, iv 1] 3)) fun e w' => e = .returned (.bool true) ∧ Below (x1.alloc (.cells #[iv 1, iv m, iv 1] 3)).heap.size (x1.alloc (.cells #[iv 1, iv m, iv 1] 3)) w') := by
                    have := sales_all (some ⟨g, 0, none⟩) l5 5 (10 * (m : Int)) (some ⟨x1.heap.size, 0, none⟩) [1, (m : Int), 1] 3 (some ⟨gst, 0, none⟩) [⟨0, 0, 0⟩, ⟨1, 0, 0⟩, ⟨0, 2, 0⟩] 3 (some ⟨gpl, 0, none⟩) [(na : Int) - 1, (nb : Int) - 1, (nc : Int) - 1] 3 (x1.alloc (.cells #[iv 1, iv m, iv 1] 3)) hs5 hbb (HST.out _ (hb6.next hb62 (Nat.le_refl _))) (HPL.out _ hb62) (by unfold maxLen; omega) (by simp [maxLen]) (by simp [maxLen]) (by simp [maxLen])
                    rw [hl5] at this
                    exact this
                  clear hi hl5 hs5 hbb
                  go_wp2_with fail
                  refine HSA.out.mono ?_
                  generalize x1.alloc (.cells #[iv 1, iv m, iv 1] 3) = x2 at *
                  rintro e x3 ⟨rfl, hb3⟩
                  have HB := Lib.hid (hb62.next hb3 (Nat.le_refl _))
                  clear HSA
                  go_wp2_with fail
                  go_roundw
                  case rel => exact ⟨m + 1, by omega, by go_num, HB.out⟩
                  case measure => simp [intOf]; omega
                · have hmi : ¬ (m : Int) < 4 := by omega
                  have HB := Lib.hid (hb6.next hbx (Nat.le_refl _))
                  go_wp2_with fail
                  go_roundw
                  case rel => exact ⟨n + 1, by omega, by go_num, HB.out⟩
                  case measure => simp [intOf]; omega
            · have hni : ¬ (n : Int) < 64 := by omega
              have hb07 : Below w.heap.size w wr := hb04.trans (hbw.mono hb04.size)
              obtain ⟨w7, rfl⟩ : ∃ w7 : World, w7 = wr := ⟨_, rfl⟩
              clear hbw hb04 HST
              go_wp2_with fail
              go_loopw [25, 26, 27, 28, 29, 254] (fun _ _ _ _ _ i wx => ∃ n : Nat, n ≤ 13 ∧ i = iv n ∧ Below w7.heap.size w7 wx) (fun _ _ _ _ _ i _ => 13 - (intOf i).toNat)
              case atStart => exact ⟨0, by omega, rfl, Below.refl _ _⟩
              case round =>
                obtain ⟨n, hn, rfl, hbw⟩ := hrel
                by_cases hlt : n < 13
                · as_aux_lemma =>
                  have hni : (n : Int) < 13 := by omega
                  obtain ⟨wo, rfl⟩ : ∃ wo : World, wo = wr := ⟨_, rfl⟩
                  go_wp2_with fail
                  go_loopw [26, 27, 28, 258] (fun v26 v27 _ i wx => ∃ (k : Nat) (ps : List Piece), k ≤ n ∧ i = iv k ∧ ps.length = k ∧ Own ruleE 28 wo.heap.size wx v26 (Price.manyR k) ∧ Own pieceE 26 wo.heap.size wx v27 ps ∧ Below wo.heap.size wo wx) (fun _ _ _ i _ => n - (intOf i).toNat)
                  case atStart => exact ⟨0, [], by omega, rfl, rfl, Own.nil, Own.nil, Below.refl _ _⟩
                  case round =>
                    obtain ⟨k, ps, hk, rfl, hps, hor, hop, hbx⟩ := hrel
                    have hzx := hbx.size
                    by_cases hlt2 : k < n
                    · have hki : (k : Int) < (n : Int) := by omega
                      obtain ⟨k4, hk4⟩ : ∃ x, x = k % 4 := ⟨_, rfl⟩
                      have m4 : (k : Int).tmod 4 = (k4 : Int) := by rw [Int.tmod_eq_emod_of_nonneg (by omega), hk4]; rfl
                      have m4e : (k : Int) % 4 = (k4 : Int) := by rw [hk4]; rfl
                      have w4 : IntKind.i64.wrap (k4 : Int) = (k4 : Int) := IntWalk.i64_in _ (by omega)
                      have HPS := Lib.hid hps
                      have HRL := Lib.hid (Price.manyR_length k)
                      have HOP := Lib.hid hop
                      have HOR := Lib.hid hor
                      clear hk4 hps hop hor
                      go_wp2_with (first
                        | (at_builtin; refine wpApp1 ruleE tyRules rfl _ _ rfl HOR.out ⟨-1, -1, -1, (k : Int)⟩ rfl rfl rfl hzx (by rw [HRL.out]; unfold big; omega) ?_; intro v1 x1 hown1 hbx1 hk1; have HX1 := Lib.hid (hbx.trans hbx1); have HP1 := Lib.hid (HOP.out.keep hbx1.size fun b hb => hk1 b (HOP.out.lt b hb).2 (HOP.out.apart HOR.out (by decide) hb)); have HR1 := Lib.hid hown1; clear hk1 hown1 hbx1)
                        | (at_builtin; refine wpApp1 pieceE tyPieces rfl _ _ rfl HP1.out ⟨(k4 : Int), 0, 0⟩ rfl rfl rfl HX1.out.size (by rw [HPS.out]; unfold big; omega) ?_; intro v2 x2 hown2 hbx2 hk2; have HX2 := Lib.hid (HX1.out.trans hbx2); have HR2 := Lib.hid (HR1.out.keep hbx2.size fun b hb => hk2 b (HR1.out.lt b hb).2 (HR1.out.apart HP1.out (by decide) hb)); have HP2 := Lib.hid hown2; clear hk2 hown2 hbx2))
                      go_roundw
                      case rel => exact ⟨k + 1, ps ++ [⟨(k4 : Int), 0, 0⟩], by omega, by go_num, by rw [List.length_append, List.length_singleton, HPS.out], by rw [Price.manyR_snoc]; exact HR2.out, HP2.out, HX2.out⟩
                      case measure => simp [intOf]; omega
                    · have hki : ¬ (k : Int) < (n : Int) := by omega
                      have hke : k = n := by omega
                      have hrl := Price.manyR_length k
                      obtain ⟨A26, c26, h26, hc26, _⟩ := hor.form
                      obtain ⟨A27, c27, h27, hc27, _⟩ := hop.form
                      rw [hrl, hke] at h26
                      rw [hps, hke] at h27
                      subst h26 h27
                      have hs26 := hor.sl
                      have hs27 := hop.sl
                      rw [hke] at hs26
                      obtain ⟨w8, rfl⟩ : ∃ w8 : World, w8 = wr := ⟨_, rfl⟩
                      have hb78 := hbw.next hbx (Nat.le_refl _)
                      have hpsn : ps.length = n := by omega
                      have HPN := Lib.hid hpsn
                      have hc26' : n ≤ c26 := by rw [hrl] at hc26; omega
                      clear hor hop hrl hke hps hpsn hc26 hc27 hbw hbx
                      go_wp2_with (at_make; refine wpMakeN intE tyInts 0 ⟨_, _, rfl, rfl, rfl⟩ rfl _ _ rfl n rfl rfl (by unfold big; omega) ?_; intro w9 hot hb9)
                      have hsz := hot.sl
                      have hb89 := hb9
                      have hBS : Blk (w9.alloc (.cells #[iv 0, .slice (some ⟨w8.heap.size, 0, none⟩) n n] 30)) w9.heap.size 30 #[iv 0, .slice (some ⟨w8.heap.size, 0, none⟩) n n] := Blk.new _ _ _
                      have hb9a : Below w9.heap.size w9 (w9.alloc (.cells #[iv 0, .slice (some ⟨w8.heap.size, 0, none⟩) n n] 30)) := (Below.refl _ _).alloc (Nat.le_refl _) _
                      clear hot hb9
                      go_upto_region 60 with fail
                      generalize w9.alloc (.cells #[iv 0, .slice (some ⟨w8.heap.size, 0, none⟩) n n] 30) = wA at *
                      obtain ⟨gz, hgz⟩ : ∃ g, g = w8.heap.size := ⟨_, rfl⟩
                      obtain ⟨gS, hgS⟩ : ∃ g, g = w9.heap.size := ⟨_, rfl⟩
                      rw [← hgz] at hsz hBS ⊢
                      rw [← hgS] at hBS ⊢
                      have hb8A := hb89.next hb9a (Nat.le_refl _)
                      have hsA26 := hs26.below hb8A
                      have hsA27 := hs27.below hb8A
                      have hszA := hsz.below hb9a
                      have hb7A := hb78.next hb8A (Nat.le_refl _)
                      clear hgz hgS hs26 hs27 hsz hb89 hb9a hb8A hb78
                      have HFF : Hid (∀ x : World, Below wA.heap.size wA x → x.cell? ⟨gS, 0, none⟩ = some (iv 0) ∧ x.cell? ⟨gS, 1, none⟩ = some (.slice (some ⟨gz, 0, none⟩) n n)) := fun x h => ⟨(hBS.under h).cell 0, (hBS.under h).cell 1⟩
                      have hn1 : IntKind.i64.wrap ((n : Int) - 1) = (n : Int) - 1 := IntWalk.i64_in _ (by omega)
                      have hrl := Price.manyR_length n
                      have HRU : Hid (∀ x : World, Below wA.heap.size wA x → Calls Tryz.prog 8 #[.slice A26 n c26, iv ((n : Int) - 1), .agg #[iv 0, iv 0, iv 0], .agg #[iv 2, iv 0, iv 0, iv 0]] x fun e w' => e = .returned (.bool true) ∧ Below x.heap.size x w') := fun x h => by
                        have := rules_walk A26 (Price.manyR n) c26 ((n : Int) - 1) ⟨0, 0, 0⟩ ⟨2, 0, 0, 0⟩ x (by rw [hrl]; unfold maxLen; omega) (by rw [hrl]; exact hc26') (hsA26.below h)
                        rw [hrl] at this
                        exact this
                      have HPU : Hid (∀ x : World, Below wA.heap.size wA x → Calls Tryz.prog 9 #[.slice A26 n c26, .agg #[iv 0, iv 0, iv 0]] x fun e w' => e = .returned (.bool true) ∧ Below x.heap.size x w') := fun x h => by
                        have := pieces_walk A26 (Price.manyR n) c26 ⟨0, 0, 0⟩ x (by rw [hrl]; unfold maxLen; omega) (by rw [hrl]; exact hc26') (hsA26.below h)
                        rw [hrl] at this
                        exact this
                      have HSU1 : Hid (∀ (x : World) (g : Nat), Below wA.heap.size wA x → Ints x g 28 20 → Calls Tryz.prog 11 #[.slice (some ⟨g, 0, none⟩) 5 5, .agg #[iv 0, .slice (some ⟨gz, 0, none⟩) n n], .slice none 0 0, .slice none 0 0] x fun e w' => e = .returned (.bool true) ∧ Below x.heap.size x w') := fun x g h hi => by
                        obtain ⟨l5, hl5, hs5⟩ := Ints.rules (k := 5) (by omega) hi
                        have := sales_all (some ⟨g, 0, none⟩) l5 5 0 (some ⟨gz, 0, none⟩) (List.replicate n 0) n none [] 0 none [] 0 x hs5 (hszA.below h) Sl.nil Sl.nil (by unfold maxLen; omega) (by rw [List.length_replicate]; unfold maxLen; omega) (by simp [maxLen]) (by simp [maxLen])
                        rw [hl5, List.length_replicate] at this
                        exact this
                      have HSU2 : Hid (∀ (x : World) (g gb : Nat) (Az : Option Addr) (cz : Nat) (lz : List Int), Below wA.heap.size wA x → Ints x g 28 20 → Ints x gb 3 2 → lz.length = n → Sl intE x Az lz → Calls Tryz.prog 11 #[.slice (some ⟨g, 0, none⟩) 5 5, .agg #[iv 30, .slice (some ⟨gb, 0, none⟩) 2 2], .slice A27 n c27, .slice Az n cz] x fun e w' => e = .returned (.bool true) ∧ Below x.heap.size x w') := fun x g gb Az cz lz h hi hib hlz hsz2 => by
                        obtain ⟨l5, hl5, hs5⟩ := Ints.rules (k := 5) (by omega) hi
                        obtain ⟨lb, hlb, hsb⟩ := Ints.ints (k := 2) (by omega) hib
                        have := sales_all (some ⟨g, 0, none⟩) l5 5 30 (some ⟨gb, 0, none⟩) lb 2 A27 ps c27 Az lz cz x hs5 hsb (hsA27.below h) hsz2 (by unfold maxLen; omega) (by unfold maxLen; omega) (by rw [HPN.out]; unfold maxLen; omega) (by rw [hlz]; unfold maxLen; omega)
                        rw [hl5, hlb, HPN.out, hlz] at this
                        exact this
                      clear hrl
                      refine wp_free_lit (by kernel_rfl) 29 (by kernel_rfl) (by kernel_rfl) (by decide) (fun _ x => Below wA.heap.size wA x) (fun x x' => Below x.heap.size x x')
                        [fun _ u _ => u = .slice A26 n c26,
                         fun _ u _ => u = iv n,
                         fun _ u _ => u = iv ((n : Int) - 1),
                         fun _ u _ => u = .agg #[iv 0, iv 0, iv 0],
                         fun _ u _ => u = .agg #[iv 2, iv 0, iv 0, iv 0],
                         fun _ u _ => u = .bool true,
                         fun _ u _ => u = .bool false,
                         fun _ u _ => u = .bool false,
                         fun _ u _ => u = .slice A26 n c26,
                         fun _ u _ => u = .agg #[iv 0, iv 0, iv 0],
                         fun _ u _ => u = .bool true,
                         fun _ u _ => u = .bool false,
                         fun _ u _ => u = .bool false,
                         fun _ u _ => u = .bool false,
                         fun _ u x => SlInts 0 0 5 28 20 u x,
                         fun _ u _ => u = .agg #[iv 0, .slice (some ⟨gz, 0, none⟩) n n],
                         fun _ u _ => u = .bool true,
                         fun _ u _ => u = .bool false,
                         fun _ u _ => u = .bool false,
                         fun _ u _ => u = .bool false,
                         fun _ u x => SlInts 0 0 5 28 20 u x,
                         fun _ u x => SlInts 0 0 2 3 2 u x,
                         fun _ u x => ∃ g, u = .agg #[iv 30, .slice (some ⟨g, 0, none⟩) 2 2] ∧ Ints x g 3 2,
                         fun _ u _ => u = .slice A27 n c27,
                         fun _ u _ => u = iv n,
                         fun _ u x => ∃ A c, u = .slice A n c ∧ ∃ l : List Int, l.length = n ∧ Sl intE x A l,
                         fun _ u _ => u = .bool true,
                         fun _ u _ => u = .bool false,
                         fun _ u _ => u = .bool false]
                        (Below.refl _ wA).drew ?_ ?_
                      · simp only [List.take_succ_cons, List.take_zero, HopL]
                        refine ⟨?_, ?_, ?_, ?_, ?_, ?_, ?_, ?_, ?_, ?_, ?_, ?_, ?_, ?_, ?_, ?_, ?_, ?_, ?_, ?_, ?_, ?_, ?_, ?_, ?_, ?_, ?_, ?_, ?_, trivial⟩
                        · refine ⟨fun _ _ _ _ _ h => h, fun _ _ _ _ h _ => h, fun v nn x hn hR hk => ?_⟩
                          obtain ⟨F1, F2⟩ := HFF.out x hR
                          skip
                          simp only [List.take_succ_cons, List.take_zero, frameF, Act.put, List.setIfInBounds_toArray, List.set_cons_zero, List.set_cons_succ]
                          exact stepF_val (by rfl) (by go_simp) ⟨rfl, Below.refl _ _, hR⟩
                        · refine ⟨fun _ _ _ _ _ h => h, fun _ _ _ _ h _ => h, fun v nn x hn hR hk => ?_⟩
                          obtain ⟨F1, F2⟩ := HFF.out x hR
                          skip
                          simp only [List.take_succ_cons, List.take_zero, frameF, Act.put, List.setIfInBounds_toArray, List.set_cons_zero, List.set_cons_succ]
                          exact stepF_val (by rfl) (by go_simp) ⟨rfl, Below.refl _ _, hR⟩
                        · refine ⟨fun _ _ _ _ _ h => h, fun _ _ _ _ h _ => h, fun v nn x hn hR hk => ?_⟩
                          obtain ⟨F1, F2⟩ := HFF.out x hR
                          have h1 : v 1 = iv n := hk 1 (by kernel_rfl)
                          simp only [List.take_succ_cons, List.take_zero, frameF, Act.put, List.setIfInBounds_toArray, List.set_cons_zero, List.set_cons_succ]
                          exact stepF_val (by rfl) (by go_simp) ⟨rfl, Below.refl _ _, hR⟩
                        · refine ⟨fun _ _ _ _ _ h => h, fun _ _ _ _ h _ => h, fun v nn x hn hR hk => ?_⟩
                          obtain ⟨F1, F2⟩ := HFF.out x hR
                          skip
                          simp only [List.take_succ_cons, List.take_zero, frameF, Act.put, List.setIfInBounds_toArray, List.set_cons_zero, List.set_cons_succ]
                          exact stepF_val (by rfl) (by go_simp) ⟨rfl, Below.refl _ _, hR⟩
                        · refine ⟨fun _ _ _ _ _ h => h, fun _ _ _ _ h _ => h, fun v nn x hn hR hk => ?_⟩
                          obtain ⟨F1, F2⟩ := HFF.out x hR
                          skip
                          simp only [List.take_succ_cons, List.take_zero, frameF, Act.put, List.setIfInBounds_toArray, List.set_cons_zero, List.set_cons_succ]
                          exact stepF_val (by rfl) (by go_simp) ⟨rfl, Below.refl _ _, hR⟩
                        · refine ⟨fun _ _ _ _ _ h => h, fun _ _ _ _ h _ => h, fun v nn x hn hR hk => ?_⟩
                          have h0 : v 0 = .slice A26 n c26 := hk 0 (by kernel_rfl)
                          have h2 : v 2 = iv ((n : Int) - 1) := hk 2 (by kernel_rfl)
                          have h3 : v 3 = .agg #[iv 0, iv 0, iv 0] := hk 3 (by kernel_rfl)
                          have h4 : v 4 = .agg #[iv 2, iv 0, iv 0, iv 0] := hk 4 (by kernel_rfl)
                          simp only [List.take_succ_cons, List.take_zero, frameF, Act.put, List.setIfInBounds_toArray, List.set_cons_zero, List.set_cons_succ]
                          refine stepF_call (by rfl) (by go_simp) (HRU.out x hR) ?_
                          rintro e x' ⟨rfl, hb'⟩
                          exact ⟨_, rfl, rfl, hb', hR.next hb' (Nat.le_refl _)⟩
                        · refine ⟨fun _ _ _ _ _ h => h, fun _ _ _ _ h _ => h, fun v nn x hn hR hk => ?_⟩
                          obtain ⟨F1, F2⟩ := HFF.out x hR
                          have h1 : v 5 = .bool true := hk 5 (by kernel_rfl)
                          simp only [List.take_succ_cons, List.take_zero, frameF, Act.put, List.setIfInBounds_toArray, List.set_cons_zero, List.set_cons_succ]
                          exact stepF_val (by rfl) (by go_simp) ⟨rfl, Below.refl _ _, hR⟩
                        · refine ⟨fun _ _ _ _ _ h => h, fun _ _ _ _ h _ => h, fun v nn x hn hR hk => ?_⟩
                          obtain ⟨F1, F2⟩ := HFF.out x hR
                          have h1 : v 6 = .bool false := hk 6 (by kernel_rfl)
                          simp only [List.take_succ_cons, List.take_zero, frameF, Act.put, List.setIfInBounds_toArray, List.set_cons_zero, List.set_cons_succ]
                          exact stepF_val (by rfl) (by go_simp) ⟨rfl, Below.refl _ _, hR⟩
                        · refine ⟨fun _ _ _ _ _ h => h, fun _ _ _ _ h _ => h, fun v nn x hn hR hk => ?_⟩
                          obtain ⟨F1, F2⟩ := HFF.out x hR
                          have h0 : v 7 = .bool false := hk 7 (by kernel_rfl)
                          skip
                          simp only [List.take_succ_cons, List.take_zero, frameF, Act.put, List.setIfInBounds_toArray, List.set_cons_zero, List.set_cons_succ]
                          exact stepF_val (by simp [Region.wanted, yielded, h0]) (by go_simp) ⟨rfl, Below.refl _ _, hR⟩
                        · refine ⟨fun _ _ _ _ _ h => h, fun _ _ _ _ h _ => h, fun v nn x hn hR hk => ?_⟩
                          obtain ⟨F1, F2⟩ := HFF.out x hR
                          have h0 : v 7 = .bool false := hk 7 (by kernel_rfl)
                          skip
                          simp only [List.take_succ_cons, List.take_zero, frameF, Act.put, List.setIfInBounds_toArray, List.set_cons_zero, List.set_cons_succ]
                          exact stepF_val (by simp [Region.wanted, yielded, h0]) (by go_simp) ⟨rfl, Below.refl _ _, hR⟩
                        · refine ⟨fun _ _ _ _ _ h => h, fun _ _ _ _ h _ => h, fun v nn x hn hR hk => ?_⟩
                          have h0 : v 7 = .bool false := hk 7 (by kernel_rfl)
                          have h8 : v 8 = .slice A26 n c26 := hk 8 (by kernel_rfl)
                          have h9 : v 9 = .agg #[iv 0, iv 0, iv 0] := hk 9 (by kernel_rfl)
                          simp only [List.take_succ_cons, List.take_zero, frameF, Act.put, List.setIfInBounds_toArray, List.set_cons_zero, List.set_cons_succ]
                          refine stepF_call (by simp [Region.wanted, yielded, h0]) (by go_simp) (HPU.out x hR) ?_
                          rintro e x' ⟨rfl, hb'⟩
                          exact ⟨_, rfl, rfl, hb', hR.next hb' (Nat.le_refl _)⟩
                        · refine ⟨fun _ _ _ _ _ h => h, fun _ _ _ _ h _ => h, fun v nn x hn hR hk => ?_⟩
                          obtain ⟨F1, F2⟩ := HFF.out x hR
                          have h0 : v 7 = .bool false := hk 7 (by kernel_rfl)
                          have h1 : v 10 = .bool true := hk 10 (by kernel_rfl)
                          simp only [List.take_succ_cons, List.take_zero, frameF, Act.put, List.setIfInBounds_toArray, List.set_cons_zero, List.set_cons_succ]
                          exact stepF_val (by simp [Region.wanted, yielded, h0]) (by go_simp) ⟨rfl, Below.refl _ _, hR⟩
                        · refine ⟨fun _ _ _ _ _ h => h, fun _ _ _ _ h _ => h, fun v nn x hn hR hk => ?_⟩
                          obtain ⟨F1, F2⟩ := HFF.out x hR
                          (have h0 : v 7 = .bool false := hk 7 (by kernel_rfl); have h1 : v 11 = .bool false := hk 11 (by kernel_rfl))
                          simp only [List.take_succ_cons, List.take_zero, frameF, Act.put, List.setIfInBounds_toArray, List.set_cons_zero, List.set_cons_succ]
                          exact stepF_val (by rfl) (by go_simp) ⟨rfl, Below.refl _ _, hR⟩
                        · refine ⟨fun _ _ _ _ _ h => h, fun _ _ _ _ h _ => h, fun v nn x hn hR hk => ?_⟩
                          obtain ⟨F1, F2⟩ := HFF.out x hR
                          have h1 : v 12 = .bool false := hk 12 (by kernel_rfl)
                          simp only [List.take_succ_cons, List.take_zero, frameF, Act.put, List.setIfInBounds_toArray, List.set_cons_zero, List.set_cons_succ]
                          exact stepF_val (by rfl) (by go_simp) ⟨rfl, Below.refl _ _, hR⟩
                        · refine ⟨fun _ _ _ _ _ h => h, fun _ _ _ _ h hS => ?_, fun v nn x hn hR hk => ?_⟩
                          · obtain ⟨g, h1, h2, h3⟩ := h; exact ⟨g, h1, h2, h3.under hS⟩
                          · have h0 : v 13 = .bool false := hk 13 (by kernel_rfl)
                            simp only [List.take_succ_cons, List.take_zero, frameF, Act.put, List.setIfInBounds_toArray, List.set_cons_zero, List.set_cons_succ]
                            refine stepF_call (by simp [Region.wanted, yielded, h0]) (by go_simp) (Five_own x) ?_
                            rintro e x' ⟨g, rfl, hg, hi, hb⟩
                            exact ⟨_, rfl, ⟨g, rfl, Nat.zero_le _, hi⟩, hb, hR.next hb (Nat.le_refl _)⟩
                        · refine ⟨fun _ _ _ _ _ h => h, fun _ _ _ _ h _ => h, fun v nn x hn hR hk => ?_⟩
                          obtain ⟨F1, F2⟩ := HFF.out x hR
                          have h0 : v 13 = .bool false := hk 13 (by kernel_rfl)
                          skip
                          simp only [List.take_succ_cons, List.take_zero, frameF, Act.put, List.setIfInBounds_toArray, List.set_cons_zero, List.set_cons_succ]
                          exact stepF_val (by simp [Region.wanted, yielded, h0]) (by go_simp) ⟨rfl, Below.refl _ _, hR⟩
                        · refine ⟨fun _ _ _ _ _ h => h, fun _ _ _ _ h _ => h, fun v nn x hn hR hk => ?_⟩
                          have h0 : v 13 = .bool false := hk 13 (by kernel_rfl)
                          obtain ⟨g, e1, _, hi⟩ : SlInts 0 0 5 28 20 (v 14) x := hk 14 (by kernel_rfl)
                          have h15 : v 15 = .agg #[iv 0, .slice (some ⟨gz, 0, none⟩) n n] := hk 15 (by kernel_rfl)
                          simp only [List.take_succ_cons, List.take_zero, frameF, Act.put, List.setIfInBounds_toArray, List.set_cons_zero, List.set_cons_succ]
                          refine stepF_call (by simp [Region.wanted, yielded, h0]) (by go_simp) (HSU1.out x g hR hi) ?_
                          rintro e x' ⟨rfl, hb'⟩
                          exact ⟨_, rfl, rfl, hb', hR.next hb' (Nat.le_refl _)⟩
                        · refine ⟨fun _ _ _ _ _ h => h, fun _ _ _ _ h _ => h, fun v nn x hn hR hk => ?_⟩
                          obtain ⟨F1, F2⟩ := HFF.out x hR
                          have h0 : v 13 = .bool false := hk 13 (by kernel_rfl)
                          have h1 : v 16 = .bool true := hk 16 (by kernel_rfl)
                          simp only [List.take_succ_cons, List.take_zero, frameF, Act.put, List.setIfInBounds_toArray, List.set_cons_zero, List.set_cons_succ]
                          exact stepF_val (by simp [Region.wanted, yielded, h0]) (by go_simp) ⟨rfl, Below.refl _ _, hR⟩
                        · refine ⟨fun _ _ _ _ _ h => h, fun _ _ _ _ h _ => h, fun v nn x hn hR hk => ?_⟩
                          obtain ⟨F1, F2⟩ := HFF.out x hR
                          (have h0 : v 13 = .bool false := hk 13 (by kernel_rfl); have h1 : v 17 = .bool false := hk 17 (by kernel_rfl))
                          simp only [List.take_succ_cons, List.take_zero, frameF, Act.put, List.setIfInBounds_toArray, List.set_cons_zero, List.set_cons_succ]
                          exact stepF_val (by rfl) (by go_simp) ⟨rfl, Below.refl _ _, hR⟩
                        · refine ⟨fun _ _ _ _ _ h => h, fun _ _ _ _ h _ => h, fun v nn x hn hR hk => ?_⟩
                          obtain ⟨F1, F2⟩ := HFF.out x hR
                          have h1 : v 18 = .bool false := hk 18 (by kernel_rfl)
                          simp only [List.take_succ_cons, List.take_zero, frameF, Act.put, List.setIfInBounds_toArray, List.set_cons_zero, List.set_cons_succ]
                          exact stepF_val (by rfl) (by go_simp) ⟨rfl, Below.refl _ _, hR⟩
                        · refine ⟨fun _ _ _ _ _ h => h, fun _ _ _ _ h hS => ?_, fun v nn x hn hR hk => ?_⟩
                          · obtain ⟨g, h1, h2, h3⟩ := h; exact ⟨g, h1, h2, h3.under hS⟩
                          · have h0 : v 19 = .bool false := hk 19 (by kernel_rfl)
                            simp only [List.take_succ_cons, List.take_zero, frameF, Act.put, List.setIfInBounds_toArray, List.set_cons_zero, List.set_cons_succ]
                            refine stepF_call (by simp [Region.wanted, yielded, h0]) (by go_simp) (Five_own x) ?_
                            rintro e x' ⟨g, rfl, hg, hi, hb⟩
                            exact ⟨_, rfl, ⟨g, rfl, Nat.zero_le _, hi⟩, hb, hR.next hb (Nat.le_refl _)⟩
                        · refine ⟨fun _ _ _ _ _ h => h, fun _ _ _ _ h hS => ?_, fun v nn x hn hR hk => ?_⟩
                          · obtain ⟨g, h1, h2, h3⟩ := h; exact ⟨g, h1, h2, h3.under hS⟩
                          · have h0 : v 19 = .bool false := hk 19 (by kernel_rfl)
                            simp only [List.take_succ_cons, List.take_zero, frameF, Act.put, List.setIfInBounds_toArray, List.set_cons_zero, List.set_cons_succ]
                            exact stepF_new (u := .slice (some ⟨x.heap.size, 0, none⟩) 2 2) (w' := x.alloc (.cells #[iv 9, iv 9] 3)) (by simp [Region.wanted, yielded, h0]) (by go_simp) ⟨⟨x.heap.size, rfl, Nat.zero_le _, ⟨[9, 9], rfl, by intro y hy; simp at hy; unfold I64; omega, Blk.new _ _ _⟩⟩, (Below.refl _ _).alloc (Nat.le_refl _) _, hR.alloc hR.size _⟩
                        · refine ⟨fun _ _ _ _ _ h => h, fun _ _ _ _ h hS => ?_, fun v nn x hn hR hk => ?_⟩
                          · obtain ⟨g, h1, h3⟩ := h; exact ⟨g, h1, h3.under hS⟩
                          · have h0 : v 19 = .bool false := hk 19 (by kernel_rfl)
                            obtain ⟨g, e1, _, hi⟩ : SlInts 0 0 2 3 2 (v 21) x := hk 21 (by kernel_rfl)
                            simp only [List.take_succ_cons, List.take_zero, frameF, Act.put, List.setIfInBounds_toArray, List.set_cons_zero, List.set_cons_succ]
                            exact stepF_val (u := .agg #[iv 30, .slice (some ⟨g, 0, none⟩) 2 2]) (by simp [Region.wanted, yielded, h0]) (by go_simp) ⟨⟨g, rfl, hi⟩, Below.refl _ _, hR⟩
                        · refine ⟨fun _ _ _ _ _ h => h, fun _ _ _ _ h _ => h, fun v nn x hn hR hk => ?_⟩
                          obtain ⟨F1, F2⟩ := HFF.out x hR
                          have h0 : v 19 = .bool false := hk 19 (by kernel_rfl)
                          skip
                          simp only [List.take_succ_cons, List.take_zero, frameF, Act.put, List.setIfInBounds_toArray, List.set_cons_zero, List.set_cons_succ]
                          exact stepF_val (by simp [Region.wanted, yielded, h0]) (by go_simp) ⟨rfl, Below.refl _ _, hR⟩
                        · refine ⟨fun _ _ _ _ _ h => h, fun _ _ _ _ h _ => h, fun v nn x hn hR hk => ?_⟩
                          obtain ⟨F1, F2⟩ := HFF.out x hR
                          have h0 : v 19 = .bool false := hk 19 (by kernel_rfl)
                          skip
                          simp only [List.take_succ_cons, List.take_zero, frameF, Act.put, List.setIfInBounds_toArray, List.set_cons_zero, List.set_cons_succ]
                          exact stepF_val (by simp [Region.wanted, yielded, h0]) (by go_simp) ⟨rfl, Below.refl _ _, hR⟩
                        · refine ⟨fun _ _ _ _ _ h => h, fun _ _ _ _ h hS => ?_, fun v nn x hn hR hk => ?_⟩
                          · obtain ⟨A, c, h1, l, h2, h3⟩ := h; exact ⟨A, c, h1, l, h2, h3.below hS⟩
                          · have h0 : v 19 = .bool false := hk 19 (by kernel_rfl)
                            have h24 : v 24 = iv n := hk 24 (by kernel_rfl)
                            simp only [List.take_succ_cons, List.take_zero, frameF, Act.put, List.setIfInBounds_toArray, List.set_cons_zero, List.set_cons_succ]
                            exact stepF_make (by simp [Region.wanted, yielded, h0]) _ _ rfl n (by first | rfl | go_simp) (by first | rfl | go_simp) (by unfold big; omega) fun x' ho hb' => ⟨⟨_, _, rfl, List.replicate n 0, List.length_replicate, ho.sl⟩, hb', hR.next hb' (Nat.le_refl _)⟩
                        · refine ⟨fun _ _ _ _ _ h => h, fun _ _ _ _ h _ => h, fun v nn x hn hR hk => ?_⟩
                          have h0 : v 19 = .bool false := hk 19 (by kernel_rfl)
                          obtain ⟨g, e1, _, hi⟩ : SlInts 0 0 5 28 20 (v 20) x := hk 20 (by kernel_rfl)
                          obtain ⟨gb, e2, hib⟩ : ∃ g, v 22 = .agg #[iv 30, .slice (some ⟨g, 0, none⟩) 2 2] ∧ Ints x g 3 2 := hk 22 (by kernel_rfl)
                          have h23 : v 23 = .slice A27 n c27 := hk 23 (by kernel_rfl)
                          obtain ⟨Az, cz, e3, lz, hlz, hsz2⟩ : ∃ A c, v 25 = .slice A n c ∧ ∃ l : List Int, l.length = n ∧ Sl intE x A l := hk 25 (by kernel_rfl)
                          have HC := Lib.hid (HSU2.out x g gb Az cz lz hR hi hib hlz hsz2)
                          clear hlz
                          simp only [List.take_succ_cons, List.take_zero, frameF, Act.put, List.setIfInBounds_toArray, List.set_cons_zero, List.set_cons_succ]
                          refine stepF_call (by simp [Region.wanted, yielded, h0]) (by go_simp) HC.out ?_
                          rintro e x' ⟨rfl, hb'⟩
                          exact ⟨_, rfl, rfl, hb', hR.next hb' (Nat.le_refl _)⟩
                        · refine ⟨fun _ _ _ _ _ h => h, fun _ _ _ _ h _ => h, fun v nn x hn hR hk => ?_⟩
                          obtain ⟨F1, F2⟩ := HFF.out x hR
                          have h0 : v 19 = .bool false := hk 19 (by kernel_rfl)
                          have h1 : v 26 = .bool true := hk 26 (by kernel_rfl)
                          simp only [List.take_succ_cons, List.take_zero, frameF, Act.put, List.setIfInBounds_toArray, List.set_cons_zero, List.set_cons_succ]
                          exact stepF_val (by simp [Region.wanted, yielded, h0]) (by go_simp) ⟨rfl, Below.refl _ _, hR⟩
                        · refine ⟨fun _ _ _ _ _ h => h, fun _ _ _ _ h _ => h, fun v nn x hn hR hk => ?_⟩
                          obtain ⟨F1, F2⟩ := HFF.out x hR
                          (have h0 : v 19 = .bool false := hk 19 (by kernel_rfl); have h1 : v 27 = .bool false := hk 27 (by kernel_rfl))
                          simp only [List.take_succ_cons, List.take_zero, frameF, Act.put, List.setIfInBounds_toArray, List.set_cons_zero, List.set_cons_succ]
                          exact stepF_val (by rfl) (by go_simp) ⟨rfl, Below.refl _ _, hR⟩
                      · intro v nn x hnn hR hall
                        have e28 : v 28 = .bool false := hall 28 (by decide)
                        have hck := Price.manyR_check n hlt
                        have hcs := Price.manyR_sale n hlt
                        have hrl := Price.manyR_length n
                        have HCK : Hid (Calls Tryz.prog 12 #[.slice A26 n c26] x fun e w' => e = .returned (iv (Price.check (Price.manyR n))) ∧ Below x.heap.size x w') := by
                          have := check_spec A26 (Price.manyR n) c26 x (by rw [hrl]; unfold big; omega) (by rw [hrl]; exact hc26') (hsA26.below hR)
                          rw [hrl] at this
                          exact this
                        have HCS : Hid (∀ y : World, Below x.heap.size x y → Calls Tryz.prog 13 #[.agg #[iv 0, .slice (some ⟨gz, 0, none⟩) n n]] y fun e w' => e = .returned (iv (Price.checkSale 0 (List.replicate n 0))) ∧ Below y.heap.size y w') := fun y h => by
                          have := checkSale_spec 0 (some ⟨gz, 0, none⟩) (List.replicate n 0) n y (by rw [List.length_replicate]; unfold big; omega) ((hszA.below hR).below h)
                          rw [List.length_replicate] at this
                          exact this
                        obtain ⟨ck, hcke⟩ : ∃ c, c = Price.check (Price.manyR n) := ⟨_, rfl⟩
                        obtain ⟨cs, hcse⟩ : ∃ c, c = Price.checkSale 0 (List.replicate n 0) := ⟨_, rfl⟩
                        rw [← hcke] at HCK hck
                        rw [← hcse] at HCS hcs
                        have hFx := (hBS.under hR)
                        have HBX := Lib.hid hR
                        clear hall hR hrl hcke hcse HRU HPU HSU1 HSU2 HFF hsA26 hsA27 hszA hn1
                        simp only [List.drop_succ_cons, List.drop_zero, List.take_succ_cons, List.take_zero, frameF, Act.put, List.setIfInBounds_toArray, List.set_cons_zero, List.set_cons_succ, e28]
                        clear e28
                        go_wp2_with fail
                        refine HCK.out.mono ?_
                        rintro e y1 ⟨rfl, hy1⟩
                        have f0 := (hFx.under hy1).cell
                        have f1 := (hFx.under hy1).lt
                        have HC2 := Lib.hid (HCS.out y1 hy1)
                        clear HCK HCS
                        by_cases h9 : n < 9
                        · have h9i : (n : Int) < 9 := by omega
                          rw [decide_eq_true h9] at hck hcs
                          rw [Bool.and_true] at hcs
                          by_cases h0 : 0 < n
                          · have h0i : (0 : Int) < (n : Int) := by omega
                            rw [decide_eq_true h0] at hcs
                            clear h9 h0
                            go_wp2_with fail
                            refine HC2.out.mono ?_
                            rintro e y2 ⟨rfl, hy2⟩
                            have HBY := Lib.hid (hb7A.next ((HBX.out.next hy1 (Nat.le_refl _)).next hy2 (Nat.le_refl _)) (Nat.le_refl _))
                            go_wp2_with fail
                            go_roundw
                            case rel => exact ⟨n + 1, by omega, by go_num, HBY.out⟩
                            case measure => simp [intOf]; omega
                          · have h0i : ¬ (0 : Int) < (n : Int) := by omega
                            rw [decide_eq_false h0] at hcs
                            clear h9 h0
                            go_wp2_with fail
                            refine HC2.out.mono ?_
                            rintro e y2 ⟨rfl, hy2⟩
                            have HBY := Lib.hid (hb7A.next ((HBX.out.next hy1 (Nat.le_refl _)).next hy2 (Nat.le_refl _)) (Nat.le_refl _))
                            go_wp2_with fail
                            go_roundw
                            case rel => exact ⟨n + 1, by omega, by go_num, HBY.out⟩
                            case measure => simp [intOf]; omega
                        · have h9i : ¬ (n : Int) < 9 := by omega
                          have h0i : (0 : Int) < (n : Int) := by omega
                          rw [decide_eq_false h9] at hck hcs
                          rw [Bool.and_false] at hcs
                          clear h9
                          go_wp2_with fail
                          refine HC2.out.mono ?_
                          rintro e y2 ⟨rfl, hy2⟩
                          have HBY := Lib.hid (hb7A.next ((HBX.out.next hy1 (Nat.le_refl _)).next hy2 (Nat.le_refl _)) (Nat.le_refl _))
                          go_wp2_with fail
                          go_roundw
                          case rel => exact ⟨n + 1, by omega, by go_num, HBY.out⟩
                          case measure => simp [intOf]; omega
                · have hni : ¬ (n : Int) < 13 := by omega
                  have HA := Lib.hid (awake_spec wr)
                  have HB := Lib.hid (hb07.trans (hbw.mono hb07.size))
                  go_wp2_with (go_at_call 14; refine HA.out.mono ?_; rintro e wz ⟨rfl, hwz⟩)
                  go_ret
                  exact ⟨rfl, HB.out.next hwz (Nat.le_refl _)⟩
end Go.Proofs.YtkailkfiakagfaaGreat
