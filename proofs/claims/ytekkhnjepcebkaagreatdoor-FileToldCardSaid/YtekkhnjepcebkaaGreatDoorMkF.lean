/- Package petershamlaw11: Made. Conditions: fewer than 2^20 numbers of the spool, at most 1000 lines. -/
import Derived.Test.YtekkhnjepcebkaaGreatDoorSpool
import Derived.Laws.BytesArg
import Derived.Laws.IdiomStrings
set_option linter.unusedVariables false
set_option linter.unusedSimpArgs false
namespace Go.Proofs.YtekkhnjepcebkaaGreatDoor
namespace Fl
open Go.RowKit Go.Shelf
set_option maxRecDepth 100000
theorem tyBytes : SlTy Tryz.prog 68 5 1 := slTy_of (z := .int .u8 0) (bytes := 1) Tryz.underlying68 (by kernel_rfl) rfl (by decide)
theorem conv_run {w : World} {A : Option Addr} {xs : List Int} {c : Nat} (h : Sl byteE w A xs) : (convert 68 9 (.slice A xs.length c)).run Tryz.prog w = .ok (.string (strOfNums xs)) w := by
  cases A with
  | none =>
    have hx : xs = [] := by
      by_cases h0 : xs = []
      · exact h0
      · obtain ⟨b, off, hA, _⟩ := h h0
        cases hA
    subst hx
    exact run_convert_bytes_nil w _ 5 Tryz.underlying68 Tryz.underlying5 _ _ _ Tryz.underlying9
  | some a =>
    by_cases h0 : xs = []
    · subst h0
      exact run_convert_bytes_back w _ _ 5 a c [] Tryz.underlying68 Tryz.underlying5 Tryz.underlying9 (fun j hj => absurd hj (by simp))
    · obtain ⟨b, off, hA, hb, hc⟩ := h h0
      injection hA with hA
      subst hA
      refine run_convert_bytes_arg w _ 5 Tryz.underlying68 Tryz.underlying5 b off _ c xs rfl (fun i hi => ?_) _ Tryz.underlying9
      have := hc i xs[i] (List.getElem?_eq_getElem hi) 0 (.int .u8 xs[i]) rfl
      simpa [byteE, List.getD, List.getElem?_eq_getElem hi] using this
theorem flat_u8 (xs : List Int) : xs.flatMap byteE.cells = xs.map (Value.int .u8) := by
  induction xs with
  | nil => rfl
  | cons x r ih => rw [List.flatMap_cons, ih]; rfl
theorem line_ok {bs : List Int} (h : ∀ x ∈ bs, x = 97 ∨ x = 98 ∨ x = 32 ∨ x = 49) (hl : bs.length ≤ 40) : File.okLine (strOfNums bs) = true ∧ (strOfNums bs).size ≤ 40 := by
  refine ⟨?_, by rw [strOfNums_size]; exact hl⟩
  unfold File.okLine
  rw [List.all_eq_true]
  intro b hb
  rw [show File.bts (strOfNums bs) = bs.map fun n => UInt8.ofNat n.toNat from rfl] at hb
  obtain ⟨x, hx, rfl⟩ := List.mem_map.1 hb
  rcases h x hx with rfl | rfl | rfl | rfl <;> decide
set_option maxHeartbeats 4000000 in
theorem mk_spec (B : Nat) (w : World) (g k n : Nat) (h : IsSpool B w g k) (hk : k < 1000000) (hn : n ≤ 1000) :
    Calls Tryz.prog 44 #[.pointer (some ⟨g, 0, none⟩), iv n] w fun e w' => ∃ (v : Value) (xs : List ByteArray) (k' : Nat), e = .returned v ∧ Own strE 9 w.heap.size w' v xs ∧ xs.length ≤ n ∧ (∀ s ∈ xs, File.okLine s = true ∧ s.size ≤ 40) ∧ k' ≤ k + 1 + 4 * n ∧ IsSpool B w' g k' ∧ Only g w w' := by
  have HU := Lib.hid (upto_spec B w g k n h (by omega) (by omega))
  have hgB : g < B := h.1
  have hBw : B ≤ w.heap.size := h.2.1
  go_enter Tryz.func44, Tryz.ntmps44
  go_wp2_with fail
  refine HU.out.mono ?_
  rintro e w1 ⟨m, rfl, hm, hsp1, ho1⟩
  have hz1 := ho1.below.size
  clear HU
  go_wp2_with fail
  go_loopw [5, 6, 7, 11] (fun v _ _ i wr => ∃ (j : Nat) (xs : List ByteArray) (k' : Nat), j ≤ m ∧ i = iv j ∧ Hid (Own strE 9 w.heap.size wr v xs) ∧ xs.length ≤ j ∧ Hid (∀ s ∈ xs, File.okLine s = true ∧ s.size ≤ 40) ∧ k' ≤ k + 1 + 4 * j ∧ Hid (IsSpool B wr g k') ∧ Hid (Only g w wr)) (fun _ _ _ i _ => m - (intOf i).toNat)
  case atStart => exact ⟨0, [], k + 1, by omega, rfl, Own.nil, by simp, fun s hs => (by cases hs), by omega, hsp1, ho1⟩
  case round =>
    obtain ⟨j, xs, k', hj, rfl, HO, hxl, HXS, hk', HSP, HON⟩ := hrel
    have hzr := HON.out.below.size
    by_cases hlt : j < m
    · have hji : (j : Int) < (m : Int) := by omega
      have HU2 := Lib.hid (upto_spec B wr g k' 2 HSP.out (by omega) (by omega))
      go_wp2_with fail
      refine HU2.out.mono ?_
      rintro e w2 ⟨r, rfl, hr, hsp2, ho2⟩
      have hz2 := ho2.below.size
      have HO2 : Hid (Own strE 9 w.heap.size w2 u5 xs) := Lib.hid (HO.out.keep hz2 fun b hb => ho2.other b (HO.out.lt b hb).2 (by have := (HO.out.lt b hb).1; omega))
      have HON2 := Lib.hid (HON.out.trans ho2)
      have HSP2 := Lib.hid hsp2
      clear HU2 HO HSP HON hsp2 ho2
      go_wp2_with (at_make; refine wpMakeN byteE tyBytes 0 ⟨_, _, rfl, rfl, rfl⟩ rfl _ _ rfl r rfl rfl (by unfold big; omega) ?_; intro w3 hob hb3)
      obtain ⟨hB3, _⟩ := hob.full
      have e3 : (List.replicate r (0 : Int)).flatMap byteE.cells = (List.replicate r (0 : Int)).map (Value.int .u8) := flat_u8 _
      rw [e3] at hB3
      have hON3 : Only g w2 w3 := Only.of_below hb3 (by omega)
      have hSP3 : IsSpool B w3 g (k' + 1) := HSP2.out.below hb3 (by omega)
      have hz3 := hb3.size
      clear hob e3 hb3
      go_loopw [7, 18] (fun _ i wy => ∃ (q : Nat) (ys : List Int) (k2 : Nat), q ≤ r ∧ i = iv q ∧ Hid (ys.length = r) ∧ Hid (Blk wy w2.heap.size 5 (ys.map (Value.int .u8)).toArray) ∧ Hid (∀ x ∈ ys.take q, x = 97 ∨ x = 98 ∨ x = 32 ∨ x = 49) ∧ k2 ≤ k' + 1 + q ∧ Hid (IsSpool B wy g k2) ∧ Hid (Only g w2 wy)) (fun _ i _ => r - (intOf i).toNat)
      case atStart => exact ⟨0, List.replicate r 0, k' + 1, by omega, rfl, List.length_replicate, hB3, fun x hx => by simp at hx, by omega, hSP3, hON3⟩
      case round =>
        obtain ⟨q, ys, k2, hq, rfl, HYL, HBY, HYS, hk2, HSPy, HONy⟩ := hrel
        by_cases hql : q < r
        · have hqi : (q : Int) < (r : Int) := by omega
          have HU3 := Lib.hid (upto_spec B wr g k2 3 HSPy.out (by omega) (by omega))
          go_upto_region 8 with fail
          go_wp2_with fail
          refine HU3.out.mono ?_
          rintro e w4 ⟨x, rfl, hx, hsp4, ho4⟩
          have hB4 : Blk w4 w2.heap.size 5 (ys.map (Value.int .u8)).toArray := (ho4.other _ HBY.out.lt (by omega)).trans HBY.out
          have c0 : w4.cell? ⟨w2.heap.size, q, none⟩ = some (.int .u8 (ys.getD q 0)) := by
            rw [hB4.cell q]
            have hqy : q < ys.length := by rw [HYL.out]; exact hql
            simp [List.getD, List.getElem?_eq_getElem hqy]
          have f0 := hB4.frozen q
          have l0 := hB4.lt
          have HB4 := Lib.hid hB4
          have HON4 := Lib.hid (HONy.out.trans ho4)
          have HSP4 := Lib.hid hsp4
          clear HU3 HBY HONy HSPy hB4 ho4 hsp4
          have HGO : ∀ y : Int, (y = 97 ∨ y = 98 ∨ y = 32 ∨ y = 49) → Hid (∃ ys' : List Int, ys'.length = r ∧ Blk (w4.setCell ⟨w2.heap.size, q, none⟩ (.int .u8 y)) w2.heap.size 5 (ys'.map (Value.int .u8)).toArray ∧ (∀ x ∈ ys'.take (q + 1), x = 97 ∨ x = 98 ∨ x = 32 ∨ x = 49) ∧ IsSpool B (w4.setCell ⟨w2.heap.size, q, none⟩ (.int .u8 y)) g (k2 + 1) ∧ Only g w2 (w4.setCell ⟨w2.heap.size, q, none⟩ (.int .u8 y))) := fun y hy => Lib.hid (by
            have hqy : q < ys.length := by rw [HYL.out]; exact hql
            refine ⟨ys.set q y, by rw [List.length_set]; exact HYL.out, ?_, ?_, ?_, ?_⟩
            · have h1 := HB4.out.set_ q (.int .u8 y)
              have h2 : (ys.map (Value.int .u8)).toArray.setIfInBounds q (.int .u8 y) = ((ys.set q y).map (Value.int .u8)).toArray := by simp [List.map_set]
              rw [h2] at h1
              exact h1
            · intro x hx
              rw [List.take_set, List.take_add_one, List.getElem?_eq_getElem hqy] at hx
              simp only [Option.toList_some] at hx
              rw [List.set_append_right _ _ (by rw [List.length_take]; omega)] at hx
              rcases List.mem_append.1 hx with hx | hx
              · exact HYS.out x hx
              · rw [List.length_take, Nat.min_eq_left (Nat.le_of_lt hqy), Nat.sub_self] at hx
                simp at hx
                rw [hx]; exact hy
            · exact HSP4.out.keep (by simp [World.setCell]) fun b hb => Below.heap_setCell _ _ _ _ (by show b ≠ w2.heap.size; omega)
            · exact HON4.out.setCell (p := ⟨w2.heap.size, q, none⟩) (by show g ≤ w2.heap.size; omega) (Nat.le_refl _) _)
          have hx4 : x = 0 ∨ x = 1 ∨ x = 2 ∨ x = 3 := by omega
          rcases hx4 with rfl | rfl | rfl | rfl
          · obtain ⟨ys', h1, h2, h3, h4, h5⟩ := (HGO 97 (.inl rfl)).out
            go_wp2_with fail
            go_roundw
            case rel => exact ⟨q + 1, ys', k2 + 1, by omega, by go_num, h1, h2, h3, by omega, h4, h5⟩
            case measure => simp [intOf]; omega
          · obtain ⟨ys', h1, h2, h3, h4, h5⟩ := (HGO 98 (.inr (.inl rfl))).out
            go_wp2_with fail
            go_roundw
            case rel => exact ⟨q + 1, ys', k2 + 1, by omega, by go_num, h1, h2, h3, by omega, h4, h5⟩
            case measure => simp [intOf]; omega
          · obtain ⟨ys', h1, h2, h3, h4, h5⟩ := (HGO 32 (.inr (.inr (.inl rfl)))).out
            go_wp2_with fail
            go_roundw
            case rel => exact ⟨q + 1, ys', k2 + 1, by omega, by go_num, h1, h2, h3, by omega, h4, h5⟩
            case measure => simp [intOf]; omega
          · obtain ⟨ys', h1, h2, h3, h4, h5⟩ := (HGO 49 (.inr (.inr (.inr rfl)))).out
            go_wp2_with fail
            go_roundw
            case rel => exact ⟨q + 1, ys', k2 + 1, by omega, by go_num, h1, h2, h3, by omega, h4, h5⟩
            case measure => simp [intOf]; omega
        · obtain rfl : q = r := by omega
          have hsl : Sl byteE wr (some ⟨w2.heap.size, 0, none⟩) ys := (Own.ofBlk (E := byteE) (B := 0) (by rw [flat_u8]; exact HBY.out) (Nat.zero_le _) (by rw [HYL.out]; simp [maxLen]; omega)).sl
          have hall : ∀ x ∈ ys, x = 97 ∨ x = 98 ∨ x = 32 ∨ x = 49 := by
            have := HYS.out
            rwa [List.take_of_length_le (by rw [HYL.out]; exact Nat.le_refl _)] at this
          have hok := line_ok hall (by rw [HYL.out]; omega)
          have hcv : ∀ W : World, Below wr.heap.size wr W → (convert 68 9 (.slice (some ⟨w2.heap.size, 0, none⟩) q q)).run Tryz.prog W = .ok (.string (strOfNums ys)) W := fun W hW => by
            have := conv_run (c := q) (hsl.below hW)
            rwa [HYL.out] at this
          have hcw := hcv wr (Below.refl _ _)
          have HO9 : Hid (Own strE 9 w.heap.size wr u5 xs) := Lib.hid (HO2.out.keep HONy.out.below.size fun b hb => HONy.out.other b (HO2.out.lt b hb).2 (by have := (HO2.out.lt b hb).1; omega))
          have HON9 := Lib.hid (HON2.out.trans HONy.out)
          have hz9 := HON9.out.below.size
          have HOK := Lib.hid hok
          have hxl2 : xs.length + 1 ≤ big := by unfold big; omega
          generalize strOfNums ys = sx at *
          clear hsl hall hok hcv HO2 HON2 HSP2 HONy
          go_wp2_with (at_builtin; refine wpApp1 strE tyStrs rfl _ _ rfl HO9.out sx rfl rfl rfl hz9 hxl2 ?_; intro v5 w5 hown5 hb5 hk5)
          go_roundw
          case rel => exact ⟨j + 1, xs ++ [sx], k2, by omega, by go_num, hown5, by rw [List.length_append]; simp; omega, fun s hs => by
            rcases List.mem_append.1 hs with h1 | h1
            · exact HXS.out s h1
            · rw [List.mem_singleton.1 h1]; exact HOK.out, by omega, HSPy.out.below hb5 hBw, HON9.out.nextB hb5 (by omega) (Nat.le_refl _)⟩
          case measure => simp [intOf]; omega
    · obtain rfl : j = m := by omega
      go_wp2
      go_ret
      exact ⟨_, xs, k', rfl, HO.out, by omega, HXS.out, by omega, HSP.out, HON.out⟩
end Fl
end Go.Proofs.YtekkhnjepcebkaaGreatDoor
