/- Package petershamlaw11: Made. Conditions: fewer than 2^20 numbers of the spool, at most 1000 lines. -/
import Derived.Test.YtekkhnjepcebkaaGreatDoorSpool
import Derived.Laws.BytesArg
import Derived.Laws.IdiomStrings
import Derived.Test.YtekkhnjepcebkaaGreatDoorFlN
import Derived.Shelf.Spec.SlicesInsert
import Derived.Shelf.Spec.SlicesInsertGrow
import Derived.Deep.RegionLaw
set_option linter.unusedVariables false
set_option linter.unusedSimpArgs false
namespace Go.Proofs.YtekkhnjepcebkaaGreatDoor
namespace Fl
open Go.RowKit Go.Shelf
set_option maxRecDepth 100000
theorem tyBytes : SlTy Tryz.prog 68 5 1 := slTy_of (z := .int .u8 0) (bytes := 1) Tryz.underlying68 (by kernel_rfl) rfl (by decide)
theorem conv_run {w : World} {A : Option Addr} {xs : List Int} {c : Nat} (h : Sl byteE w A xs) : (convert 68 9 (.slice A xs.length c)).run Tryz.prog w = .ok (.string (strOfNums xs)) w := by
  cases A with
  | none =>
    have hx : xs = [] := by
      by_cases h0 : xs = []
      · exact h0
      · obtain ⟨b, off, hA, _⟩ := h h0
        cases hA
    subst hx
    exact run_convert_bytes_nil w _ 5 Tryz.underlying68 Tryz.underlying5 _ _ _ Tryz.underlying9
  | some a =>
    by_cases h0 : xs = []
    · subst h0
      exact run_convert_bytes_back w _ _ 5 a c [] Tryz.underlying68 Tryz.underlying5 Tryz.underlying9 (fun j hj => absurd hj (by simp))
    · obtain ⟨b, off, hA, hb, hc⟩ := h h0
      injection hA with hA
      subst hA
      refine run_convert_bytes_arg w _ 5 Tryz.underlying68 Tryz.underlying5 b off _ c xs rfl (fun i hi => ?_) _ Tryz.underlying9
      have := hc i xs[i] (List.getElem?_eq_getElem hi) 0 (.int .u8 xs[i]) rfl
      simpa [byteE, List.getD, List.getElem?_eq_getElem hi] using this
theorem flat_u8 (xs : List Int) : xs.flatMap byteE.cells = xs.map (Value.int .u8) := by
  induction xs with
  | nil => rfl
  | cons x r ih => rw [List.flatMap_cons, ih]; rfl
theorem line_ok {bs : List Int} (h : ∀ x ∈ bs, x = 97 ∨ x = 98 ∨ x = 32 ∨ x = 49) (hl : bs.length ≤ 40) : File.okLine (strOfNums bs) = true ∧ (strOfNums bs).size ≤ 40 := by
  refine ⟨?_, by rw [strOfNums_size]; exact hl⟩
  unfold File.okLine
  rw [List.all_eq_true]
  intro b hb
  rw [show File.bts (strOfNums bs) = bs.map fun n => UInt8.ofNat n.toNat from rfl] at hb
  obtain ⟨x, hx, rfl⟩ := List.mem_map.1 hb
  rcases h x hx with rfl | rfl | rfl | rfl <;> decide
set_option maxHeartbeats 4000000 in
theorem mk_spec (B : Nat) (w : World) (g k n : Nat) (h : IsSpool B w g k) (hk : k < 1000000) (hn : n ≤ 1000) :
    Calls Tryz.prog 44 #[.pointer (some ⟨g, 0, none⟩), iv n] w fun e w' => ∃ (v : Value) (xs : List ByteArray) (k' : Nat), e = .returned v ∧ Own strE 9 w.heap.size w' v xs ∧ xs.length ≤ n ∧ (∀ s ∈ xs, File.okLine s = true ∧ s.size ≤ 40) ∧ k' ≤ k + 1 + 4 * n ∧ IsSpool B w' g k' ∧ Only g w w' := by
  have HU := Lib.hid (upto_spec B w g k n h (by omega) (by omega))
  have hgB : g < B := h.1
  have hBw : B ≤ w.heap.size := h.2.1
  go_enter Tryz.func44, Tryz.ntmps44
  go_wp2_with fail
  refine HU.out.mono ?_
  rintro e w1 ⟨m, rfl, hm, hsp1, ho1⟩
  have hz1 := ho1.below.size
  clear HU
  go_wp2_with fail
  go_loopw [5, 6, 7, 11] (fun v _ _ i wr => ∃ (j : Nat) (xs : List ByteArray) (k' : Nat), j ≤ m ∧ i = iv j ∧ Hid (Own strE 9 w.heap.size wr v xs) ∧ xs.length ≤ j ∧ Hid (∀ s ∈ xs, File.okLine s = true ∧ s.size ≤ 40) ∧ k' ≤ k + 1 + 4 * j ∧ Hid (IsSpool B wr g k') ∧ Hid (Only g w wr)) (fun _ _ _ i _ => m - (intOf i).toNat)
  case atStart => exact ⟨0, [], k + 1, by omega, rfl, Own.nil, by simp, fun s hs => (by cases hs), by omega, hsp1, ho1⟩
  case round =>
    obtain ⟨j, xs, k', hj, rfl, HO, hxl, HXS, hk', HSP, HON⟩ := hrel
    have hzr := HON.out.below.size
    by_cases hlt : j < m
    · have hji : (j : Int) < (m : Int) := by omega
      have HU2 := Lib.hid (upto_spec B wr g k' 2 HSP.out (by omega) (by omega))
      go_wp2_with fail
      refine HU2.out.mono ?_
      rintro e w2 ⟨r, rfl, hr, hsp2, ho2⟩
      have hz2 := ho2.below.size
      have HO2 : Hid (Own strE 9 w.heap.size w2 u5 xs) := Lib.hid (HO.out.keep hz2 fun b hb => ho2.other b (HO.out.lt b hb).2 (by have := (HO.out.lt b hb).1; omega))
      have HON2 := Lib.hid (HON.out.trans ho2)
      have HSP2 := Lib.hid hsp2
      clear HU2 HO HSP HON hsp2 ho2
      go_wp2_with (at_make; refine wpMakeN byteE tyBytes 0 ⟨_, _, rfl, rfl, rfl⟩ rfl _ _ rfl r rfl rfl (by unfold big; omega) ?_; intro w3 hob hb3)
      obtain ⟨hB3, _⟩ := hob.full
      have e3 : (List.replicate r (0 : Int)).flatMap byteE.cells = (List.replicate r (0 : Int)).map (Value.int .u8) := flat_u8 _
      rw [e3] at hB3
      have hON3 : Only g w2 w3 := Only.of_below hb3 (by omega)
      have hSP3 : IsSpool B w3 g (k' + 1) := HSP2.out.below hb3 (by omega)
      have hz3 := hb3.size
      clear hob e3 hb3
      go_loopw [7, 18] (fun _ i wy => ∃ (q : Nat) (ys : List Int) (k2 : Nat), q ≤ r ∧ i = iv q ∧ Hid (ys.length = r) ∧ Hid (Blk wy w2.heap.size 5 (ys.map (Value.int .u8)).toArray) ∧ Hid (∀ x ∈ ys.take q, x = 97 ∨ x = 98 ∨ x = 32 ∨ x = 49) ∧ k2 ≤ k' + 1 + q ∧ Hid (IsSpool B wy g k2) ∧ Hid (Only g w2 wy)) (fun _ i _ => r - (intOf i).toNat)
      case atStart => exact ⟨0, List.replicate r 0, k' + 1, by omega, rfl, List.length_replicate, hB3, fun x hx => by simp at hx, by omega, hSP3, hON3⟩
      case round =>
        obtain ⟨q, ys, k2, hq, rfl, HYL, HBY, HYS, hk2, HSPy, HONy⟩ := hrel
        by_cases hql : q < r
        · have hqi : (q : Int) < (r : Int) := by omega
          have HU3 := Lib.hid (upto_spec B wr g k2 3 HSPy.out (by omega) (by omega))
          go_upto_region 8 with fail
          go_wp2_with fail
          refine HU3.out.mono ?_
          rintro e w4 ⟨x, rfl, hx, hsp4, ho4⟩
          have hB4 : Blk w4 w2.heap.size 5 (ys.map (Value.int .u8)).toArray := (ho4.other _ HBY.out.lt (by omega)).trans HBY.out
          have c0 : w4.cell? ⟨w2.heap.size, q, none⟩ = some (.int .u8 (ys.getD q 0)) := by
            rw [hB4.cell q]
            have hqy : q < ys.length := by rw [HYL.out]; exact hql
            simp [List.getD, List.getElem?_eq_getElem hqy]
          have f0 := hB4.frozen q
          have l0 := hB4.lt
          have HB4 := Lib.hid hB4
          have HON4 := Lib.hid (HONy.out.trans ho4)
          have HSP4 := Lib.hid hsp4
          clear HU3 HBY HONy HSPy hB4 ho4 hsp4
          have HGO : ∀ y : Int, (y = 97 ∨ y = 98 ∨ y = 32 ∨ y = 49) → Hid (∃ ys' : List Int, ys'.length = r ∧ Blk (w4.setCell ⟨w2.heap.size, q, none⟩ (.int .u8 y)) w2.heap.size 5 (ys'.map (Value.int .u8)).toArray ∧ (∀ x ∈ ys'.take (q + 1), x = 97 ∨ x = 98 ∨ x = 32 ∨ x = 49) ∧ IsSpool B (w4.setCell ⟨w2.heap.size, q, none⟩ (.int .u8 y)) g (k2 + 1) ∧ Only g w2 (w4.setCell ⟨w2.heap.size, q, none⟩ (.int .u8 y))) := fun y hy => Lib.hid (by
            have hqy : q < ys.length := by rw [HYL.out]; exact hql
            refine ⟨ys.set q y, by rw [List.length_set]; exact HYL.out, ?_, ?_, ?_, ?_⟩
            · have h1 := HB4.out.set_ q (.int .u8 y)
              have h2 : (ys.map (Value.int .u8)).toArray.setIfInBounds q (.int .u8 y) = ((ys.set q y).map (Value.int .u8)).toArray := by simp [List.map_set]
              rw [h2] at h1
              exact h1
            · intro x hx
              rw [List.take_set, List.take_add_one, List.getElem?_eq_getElem hqy] at hx
              simp only [Option.toList_some] at hx
              rw [List.set_append_right _ _ (by rw [List.length_take]; omega)] at hx
              rcases List.mem_append.1 hx with hx | hx
              · exact HYS.out x hx
              · rw [List.length_take, Nat.min_eq_left (Nat.le_of_lt hqy), Nat.sub_self] at hx
                simp at hx
                rw [hx]; exact hy
            · exact HSP4.out.keep (by simp [World.setCell]) fun b hb => Below.heap_setCell _ _ _ _ (by show b ≠ w2.heap.size; omega)
            · exact HON4.out.setCell (p := ⟨w2.heap.size, q, none⟩) (by show g ≤ w2.heap.size; omega) (Nat.le_refl _) _)
          have hx4 : x = 0 ∨ x = 1 ∨ x = 2 ∨ x = 3 := by omega
          rcases hx4 with rfl | rfl | rfl | rfl
          · obtain ⟨ys', h1, h2, h3, h4, h5⟩ := (HGO 97 (.inl rfl)).out
            go_wp2_with fail
            go_roundw
            case rel => exact ⟨q + 1, ys', k2 + 1, by omega, by go_num, h1, h2, h3, by omega, h4, h5⟩
            case measure => simp [intOf]; omega
          · obtain ⟨ys', h1, h2, h3, h4, h5⟩ := (HGO 98 (.inr (.inl rfl))).out
            go_wp2_with fail
            go_roundw
            case rel => exact ⟨q + 1, ys', k2 + 1, by omega, by go_num, h1, h2, h3, by omega, h4, h5⟩
            case measure => simp [intOf]; omega
          · obtain ⟨ys', h1, h2, h3, h4, h5⟩ := (HGO 32 (.inr (.inr (.inl rfl)))).out
            go_wp2_with fail
            go_roundw
            case rel => exact ⟨q + 1, ys', k2 + 1, by omega, by go_num, h1, h2, h3, by omega, h4, h5⟩
            case measure => simp [intOf]; omega
          · obtain ⟨ys', h1, h2, h3, h4, h5⟩ := (HGO 49 (.inr (.inr (.inr rfl)))).out
            go_wp2_with fail
            go_roundw
            case rel => exact ⟨q + 1, ys', k2 + 1, by omega, by go_num, h1, h2, h3, by omega, h4, h5⟩
            case measure => simp [intOf]; omega
        · obtain rfl : q = r := by omega
          have hsl : Sl byteE wr (some ⟨w2.heap.size, 0, none⟩) ys := (Own.ofBlk (E := byteE) (B := 0) (by rw [flat_u8]; exact HBY.out) (Nat.zero_le _) (by rw [HYL.out]; simp [maxLen]; omega)).sl
          have hall : ∀ x ∈ ys, x = 97 ∨ x = 98 ∨ x = 32 ∨ x = 49 := by
            have := HYS.out
            rwa [List.take_of_length_le (by rw [HYL.out]; exact Nat.le_refl _)] at this
          have hok := line_ok hall (by rw [HYL.out]; omega)
          have hcv : ∀ W : World, Below wr.heap.size wr W → (convert 68 9 (.slice (some ⟨w2.heap.size, 0, none⟩) q q)).run Tryz.prog W = .ok (.string (strOfNums ys)) W := fun W hW => by
            have := conv_run (c := q) (hsl.below hW)
            rwa [HYL.out] at this
          have hcw := hcv wr (Below.refl _ _)
          have HO9 : Hid (Own strE 9 w.heap.size wr u5 xs) := Lib.hid (HO2.out.keep HONy.out.below.size fun b hb => HONy.out.other b (HO2.out.lt b hb).2 (by have := (HO2.out.lt b hb).1; omega))
          have HON9 := Lib.hid (HON2.out.trans HONy.out)
          have hz9 := HON9.out.below.size
          have HOK := Lib.hid hok
          have hxl2 : xs.length + 1 ≤ big := by unfold big; omega
          generalize strOfNums ys = sx at *
          clear hsl hall hok hcv HO2 HON2 HSP2 HONy
          go_wp2_with (at_builtin; refine wpApp1 strE tyStrs rfl _ _ rfl HO9.out sx rfl rfl rfl hz9 hxl2 ?_; intro v5 w5 hown5 hb5 hk5)
          go_roundw
          case rel => exact ⟨j + 1, xs ++ [sx], k2, by omega, by go_num, hown5, by rw [List.length_append]; simp; omega, fun s hs => by
            rcases List.mem_append.1 hs with h1 | h1
            · exact HXS.out s h1
            · rw [List.mem_singleton.1 h1]; exact HOK.out, by omega, HSPy.out.below hb5 hBw, HON9.out.nextB hb5 (by omega) (Nat.le_refl _)⟩
          case measure => simp [intOf]; omega
    · obtain rfl : j = m := by omega
      go_wp2
      go_ret
      exact ⟨_, xs, k', rfl, HO.out, by omega, HXS.out, by omega, HSP.out, HON.out⟩
end Fl
end Go.Proofs.YtekkhnjepcebkaaGreatDoor
-- slices.Insert of lines. Conditions: lengths are below a bound; the lines put in lie in a block of their own.
namespace Go.Proofs.YtekkhnjepcebkaaGreatDoor
namespace Fl
open Go.RowKit Go.Shelf Go.Lib
set_option maxRecDepth 100000
/-- slices.Insert's own text, and those that it calls, under this program's numbers. -/
def insRen : Ren := ⟨fun x => match x with | 22 => 108 | 29 => 162 | 30 => 163 | 36 => 189 | 17 => 198 | n => n,
  fun x => match x with | 24 => 22 | 9 => 9 | 3 => 3 | 4 => 4 | 0 => 0 | n => n, fun n => n⟩
theorem insLays : Lays2.n22 Tryz.prog insRen where
  mixed := by kernel_rfl
  f17 := by kernel_rfl
  f22 := by kernel_rfl
  f29 := by kernel_rfl
  f30 := by kernel_rfl
  f36 := by kernel_rfl
  t0 := by kernel_rfl
  a0 := fun _ => by kernel_rfl
  z0 := fun _ => by kernel_rfl
  v0 := fun _ => by kernel_rfl
  t3 := by kernel_rfl
  a3 := fun _ => by kernel_rfl
  z3 := fun _ => by kernel_rfl
  v3 := fun _ => by kernel_rfl
  t4 := by kernel_rfl
  a4 := fun _ => by kernel_rfl
  z4 := fun _ => by kernel_rfl
  v4 := fun _ => by kernel_rfl
  t9 := by kernel_rfl
  a9 := fun _ => by kernel_rfl
  z9 := fun _ => by kernel_rfl
  v9 := fun _ => by kernel_rfl
  t24 := by kernel_rfl
  a24 := fun _ => by kernel_rfl
  z24 := fun _ => by kernel_rfl
  v24 := fun _ => by kernel_rfl
  i9 := by kernel_rfl
theorem Blk.shape {w : World} {g : Nat} {t : TypeId} {cs : Array Value} (h : Blk w g t cs) : w.shape? g = some (t, cs.size) := by
  unfold Blk at h
  simp [World.shape?, h]
theorem blk_setCells {g : Nat} {t : TypeId} : ∀ (vs : List Value) (o : Nat) (w : World) (cs : Array Value), Blk w g t cs → o + vs.length ≤ cs.size → Blk (w.setCells g o vs) g t (splice cs.toList o vs).toArray := by
  intro vs
  induction vs with
  | nil =>
    intro o w cs h _
    simpa [splice, World.setCells] using h
  | cons v r ih =>
    intro o w cs h hl
    simp only [List.length_cons] at hl
    have h1 := ih (o + 1) (w.setCell ⟨g, o, none⟩ v) _ (h.set_ o v) (by simp; omega)
    have he : splice (cs.setIfInBounds o v).toList (o + 1) r = splice cs.toList o (v :: r) := by
      have ho : o < cs.toList.length := by simp; omega
      simp only [splice, Array.toList_setIfInBounds, List.length_cons]
      rw [List.take_succ_eq_append_getElem (by simpa using ho), List.getElem_set_self, List.take_set_of_le (Nat.le_refl _), List.drop_set_of_lt (by omega)]
      simp [Nat.add_assoc, Nat.add_comm 1]
    rw [he] at h1
    exact h1
theorem below_setCells {B g : Nat} (hB : B ≤ g) : ∀ (vs : List Value) (o : Nat) (w0 w : World), Below B w0 w → Below B w0 (w.setCells g o vs) := by
  intro vs
  induction vs with
  | nil => intro o w0 w h; exact h
  | cons v r ih => intro o w0 w h; exact ih _ _ _ (h.setCell (p := ⟨g, o, none⟩) hB v)
theorem other_setCells {g b : Nat} (hb : b ≠ g) : ∀ (vs : List Value) (o : Nat) (w : World), (w.setCells g o vs).heap[b]? = w.heap[b]? := by
  intro vs
  induction vs with
  | nil => intro o w; rfl
  | cons v r ih => intro o w; exact (ih _ _).trans (Below.heap_setCell w ⟨g, o, none⟩ v b hb)
theorem flat_str : ∀ xs : List ByteArray, xs.flatMap strE.cells = xs.map sv
  | [] => rfl
  | x :: xs => by rw [List.flatMap_cons, flat_str xs]; rfl
theorem strs_oneCell (xs : List ByteArray) : ∀ u ∈ xs.map sv, u.oneCell' = true := fun u hu => by
  obtain ⟨x, _, rfl⟩ := List.mem_map.1 hu
  rfl
theorem own_of_block {e : TypeId} {B : Nat} {w : World} {g n cap : Nat} {xs : List ByteArray} {cur : Array Value} (h : Blk w g e cur) (hB : B ≤ g) (hn : n = xs.length) (hc : n ≤ cap) (hm : cap ≤ maxLen) (hs : cur.size = cap) (ht : cur.toList.take n = xs.map sv) : Own strE e B w (.slice (some ⟨g, 0, none⟩) n cap) xs := by
  subst hn
  refine ⟨flat_length strE xs, .inr ⟨g, cap, cur, rfl, hB, h, hc, hm, by rw [hs]; simp [strE], ?_⟩⟩
  rw [flat_str]
  simpa [strE] using ht
theorem own_block {e : TypeId} {B : Nat} {w : World} {v : Value} {xs : List ByteArray} (h : Own strE e B w v xs) : (v = .slice none 0 0 ∧ xs = []) ∨ ∃ g cap cur, v = .slice (some ⟨g, 0, none⟩) xs.length cap ∧ B ≤ g ∧ Blk w g e cur ∧ xs.length ≤ cap ∧ cap ≤ maxLen ∧ cur.size = cap ∧ cur.toList.take xs.length = xs.map sv := by
  rcases h.2 with ⟨rfl, hn⟩ | ⟨g, cap, cur, rfl, hb, hg, hc, hm, hs, ht⟩
  · exact .inl ⟨rfl, List.eq_nil_of_length_eq_zero hn⟩
  · rw [flat_str] at ht
    exact .inr ⟨g, cap, cur, rfl, hb, hg, hc, hm, by simpa [strE] using hs, by simpa [strE] using ht⟩
theorem shift_list {α : Type} (L cs vs : List α) (i n : Nat) (h : L.take n = cs) (hn : cs.length = n) (hi : i ≤ n) (hL : n + vs.length ≤ L.length) : (splice (splice L (i + vs.length) (cs.drop i)) i vs).take (n + vs.length) = cs.take i ++ vs ++ cs.drop i := by
  have e1 : (splice L (i + vs.length) (cs.drop i)).take i = cs.take i := by
    unfold splice
    rw [List.take_append_of_le_length (by simp; omega), List.take_take, ← h, List.take_take]
    congr 1
    omega
  have e2 : (splice L (i + vs.length) (cs.drop i)).drop (i + vs.length) = cs.drop i ++ L.drop (n + vs.length) := by
    unfold splice
    rw [List.drop_append_of_le_length (by simp; omega), List.drop_of_length_le (by simp; omega)]
    simp
    congr 1
    omega
  have e3 : splice (splice L (i + vs.length) (cs.drop i)) i vs = (cs.take i ++ vs ++ cs.drop i) ++ L.drop (n + vs.length) := by
    show (splice L (i + vs.length) (cs.drop i)).take i ++ (vs ++ (splice L (i + vs.length) (cs.drop i)).drop (i + vs.length)) = _
    rw [e1, e2]
    simp
  rw [e3, List.take_append_of_le_length (by simp; omega), List.take_of_length_le (by simp; omega)]
theorem grow_list {α : Type} (L cs vs : List α) (i n : Nat) (h : L.take i = cs.take i) (hn : cs.length = n) (hi : i ≤ n) (hL : n + vs.length ≤ L.length) : (splice (splice L i vs) (i + vs.length) (cs.drop i)).take (n + vs.length) = cs.take i ++ vs ++ cs.drop i := by
  have e1 : (splice L i vs).take (i + vs.length) = cs.take i ++ vs := by
    unfold splice
    rw [h, ← List.append_assoc, List.take_append_of_le_length (by simp; omega), List.take_of_length_le (by simp; omega)]
  have e3 : splice (splice L i vs) (i + vs.length) (cs.drop i) = (cs.take i ++ vs ++ cs.drop i) ++ (splice L i vs).drop (i + vs.length + (cs.drop i).length) := by
    show (splice L i vs).take (i + vs.length) ++ (cs.drop i ++ _) = _
    rw [e1]
    simp
  rw [e3, List.take_append_of_le_length (by simp; omega), List.take_of_length_le (by simp; omega)]
theorem splice_length {α : Type} (L : List α) (o : Nat) (cs : List α) (h : o + cs.length ≤ L.length) : (splice L o cs).length = L.length := length_splice L o cs h
theorem ins0 {B : Nat} {v : Value} {xs : List ByteArray} (A' : Option Addr) (c' i : Nat) (w : World) (hown : Own strE 9 B w v xs) (hi : i ≤ xs.length) (hm : xs.length ≤ 1000) :
    Calls Tryz.prog 108 #[v, iv i, .slice A' 0 c'] w fun e w' => e = .returned v ∧ w = w' := by
  obtain ⟨A, c, rfl, hc, hcm⟩ := hown.form
  have hr := run_cutFrom strE tyStrs A xs.length c i hi
  clear hown
  go_enter Tryz.func108, Tryz.ntmps108
  go_wp2_with fail
  go_ret
  exact ⟨rfl, rfl⟩
def insL (xs ys : List ByteArray) (i : Nat) : List ByteArray := xs.take i ++ ys ++ xs.drop i
set_option maxHeartbeats 4000000 in
theorem ins_spec {B B' : Nat} {v v' : Value} {xs ys : List ByteArray} (i : Nat) (w : World) (hown : Own strE 9 B w v xs) (hown' : Own strE 9 B' w v' ys) (hne : ∀ g, v.ownBlock = some g → v'.ownBlock ≠ some g) (hB : B ≤ w.heap.size) (hi : i ≤ xs.length) (hm : xs.length + ys.length ≤ 1000) :
    Calls Tryz.prog 108 #[v, iv i, v'] w fun e w' => ∃ v'', e = .returned v'' ∧ Own strE 9 B w' v'' (insL xs ys i) ∧ Below B w w' ∧
      (∀ b, b < w.heap.size → v.ownBlock ≠ some b → w'.heap[b]? = w.heap[b]?) := by
  by_cases hy0 : ys = []
  · subst hy0
    obtain ⟨A', c', rfl, _, _⟩ := hown'.form
    refine (ins0 A' c' i w hown hi (by simp at hm; omega)).mono ?_
    rintro e w' ⟨rfl, rfl⟩
    refine ⟨_, rfl, ?_, Below.refl _ _, fun _ _ _ => rfl⟩
    unfold insL
    rw [List.append_nil, List.take_append_drop]
    exact hown
  rcases own_block hown' with ⟨_, h⟩ | ⟨g', cap', cur', rfl, _, hg2, hnc2, hcm2, hcs2, htk2⟩
  · exact absurd h hy0
  obtain ⟨m, hmy⟩ : ∃ m, m = ys.length := ⟨_, rfl⟩
  have hm0 : 0 < m := by have := List.length_pos_iff.2 hy0; omega
  have hvl : (ys.map sv).length = m := by simp [hmy]
  have hv : ∀ j u, (ys.map sv)[j]? = some u → w.cell? ⟨g', 0 + j, none⟩ = some u := fun j u h => by
    have hj : j < ys.length := by have := (List.getElem?_eq_some_iff.1 h).1; simpa using this
    rw [Nat.zero_add, hg2.cell j, ← h, ← htk2, List.getElem?_take, if_pos hj, Array.getElem?_toList]
  have h1 := strs_oneCell ys
  have hW : Below B w w := Below.refl _ _
  rw [← hmy] at hm ⊢
  rcases own_block hown with ⟨rfl, rfl⟩ | ⟨g, cap, cur, rfl, hBg, hg, hnc, hcm, hcs, htk⟩
  · obtain rfl : i = 0 := by simpa using hi
    refine (Any2.slices_Insert_string_end_grow insLays none 0 0 g' 0 m cap' [] (ys.map sv) w hm0 (by omega) (by omega) (by simp at hm; omega) rfl hvl (fun _ => rfl) (fun a h => by cases h) hv h1).mono ?_
    rintro e w' ⟨rfl, rfl⟩
    refine ⟨_, rfl, own_of_block (cur := _) (heap_alloc_new _ _) hB (by simp [insL, hmy]) (grownCap_ge _ _ _ _) (grownCap_le_maxLen _ _ _ _ (by unfold maxLen; simp at hm; omega)) ?_ ?_, hW.drew.alloc hB _, fun b hb _ => (Below.heap_alloc _ _ b hb)⟩
    · have := grownCap_ge w (0 + m) 0 (insRen.t 9)
      simp [size_zeroCells, Value.cells, ← hmy] at this ⊢
      omega
    · simp [insL, hmy]
  · have hgl : g < w.heap.size := hg.lt
    have hgg : g' ≠ g := fun e => hne g rfl (by rw [e]; rfl)
    have hg' := hg
    have hcl : (xs.map sv).length = xs.length := by simp
    have hct : cur.toList.length = cap := by rw [← hcs]; exact Array.length_toList
    have hcell : ∀ j v, (xs.map sv)[j]? = some v → w.cell? ⟨g, 0 + j, none⟩ = some v := fun j v h => by
      have hj : j < xs.length := by have := (List.getElem?_eq_some_iff.1 h).1; simpa using this
      rw [Nat.zero_add, hg'.cell j, ← h, ← htk, List.getElem?_take, if_pos hj, Array.getElem?_toList]
    have hlen : (insL xs ys i).length = xs.length + m := by simp [insL, hmy]; omega
    have hmap : (insL xs ys i).map sv = (xs.map sv).take i ++ ys.map sv ++ (xs.map sv).drop i := by simp [insL]
    have hkeep : ∀ b, b < w.heap.size → (Value.slice (some ⟨g, 0, none⟩) xs.length cap).ownBlock ≠ some b → b ≠ g := fun b _ h e => h (by rw [e]; rfl)
    by_cases hroom : xs.length + m ≤ cap
    · by_cases hin : i = xs.length
      · subst hin
        refine (Any2.slices_Insert_string_end_room insLays g 0 xs.length cap g' 0 m cap' (ys.map sv) w hm0 hroom (by unfold maxLen at hcm; omega) hvl
          (fun j hj => by rw [hg'.cell]; simp; omega) (fun j _ => hg'.frozen _) hv h1).mono ?_
        rintro e w' ⟨rfl, rfl⟩
        refine ⟨_, rfl, own_of_block (blk_setCells (ys.map sv) (0 + xs.length) _ _ hg' (by simp; omega)) hBg (by rw [hlen]) hroom hcm (by simp [splice]; omega) ?_, below_setCells hBg _ _ _ _ hW, fun b hb hv => (other_setCells (hkeep b hb hv) _ _ _)⟩
        rw [hmap, ← htk]
        simp only [splice, Nat.zero_add]
        rw [← List.append_assoc, List.take_append_of_le_length (by simp; omega), List.take_of_length_le (by simp; omega)]
        simp [List.take_take]
      · have hlt : i < xs.length := by omega
        refine (Any2.slices_Insert_string_shift insLays g 0 xs.length cap i g' 0 m cap' (xs.map sv) (ys.map sv) w hlt hm0 hroom (by unfold maxLen at hcm; omega) hgg hcl hvl
          hcell (fun j hj => by rw [hg'.cell]; simp; omega) (fun j _ => hg'.frozen _) hv (strs_oneCell xs) h1 _ _ cur'.size cur.size (Blk.shape hg2) (Blk.shape hg') (by omega) (hg2.frozen _) (hg2.frozen _)).mono ?_
        rintro e w' ⟨rfl, rfl⟩
        have hd : ((xs.map sv).drop i).length = xs.length - i := by simp
        have hb1 := blk_setCells ((xs.map sv).drop i) (0 + (i + m)) _ _ (show Blk w.drew g 9 cur from hg') (by rw [hd]; omega)
        have hs1 := splice_length cur.toList (0 + (i + m)) ((xs.map sv).drop i) (by rw [hd, hct]; omega)
        have hb2 := blk_setCells (ys.map sv) (0 + i) _ _ hb1 (by rw [List.size_toArray, hs1, hct, hvl]; omega)
        refine ⟨_, rfl, own_of_block hb2 hBg (by rw [hlen]) hroom hcm ?_ ?_, below_setCells hBg _ _ _ _ (below_setCells hBg _ _ _ _ hW.drew), fun b hb hv => (other_setCells (hkeep b hb hv) _ _ _).trans ((other_setCells (hkeep b hb hv) _ _ _))⟩
        · rw [List.size_toArray, splice_length _ _ _ (by rw [hs1, hct, hvl]; omega), hs1, hct]
        · rw [hmap]
          simp only [Nat.zero_add]
          have := shift_list cur.toList (xs.map sv) (ys.map sv) i xs.length htk hcl hi (by rw [hct, hvl]; omega)
          rw [hvl] at this
          exact this
    · by_cases hin : i = xs.length
      · subst hin
        refine (Any2.slices_Insert_string_end_grow insLays (some ⟨g, 0, none⟩) xs.length cap g' 0 m cap' (xs.map sv) (ys.map sv) w hm0 hnc (by omega) (by omega) hcl hvl (fun h => by cases h)
          (fun a ha j v h => by injection ha with ha; subst ha; have hadd : (⟨g, 0, none⟩ : Addr).add j = ⟨g, 0 + j, none⟩ := by { unfold Addr.add; split <;> simp_all }; rw [hadd]; exact hcell j v h) hv h1).mono ?_
        rintro e w' ⟨rfl, rfl⟩
        refine ⟨_, rfl, own_of_block (cur := _) (heap_alloc_new _ _) hB (by rw [hlen]) (grownCap_ge _ _ _ _) (grownCap_le_maxLen _ _ _ _ (by unfold maxLen; omega)) ?_ ?_, hW.drew.alloc hB _, fun b hb _ => (Below.heap_alloc _ _ b hb)⟩
        · have := grownCap_ge w (xs.length + m) cap (insRen.t 9)
          simp [size_zeroCells, Value.cells, ← hmy] at this ⊢
          omega
        · rw [hmap]
          have e1 : (xs.map sv).drop xs.length = [] := List.drop_eq_nil_of_le (by simp)
          have e2 : (xs.map sv).take xs.length = xs.map sv := List.take_of_length_le (by simp)
          rw [e1, e2, List.append_nil]
          simp only [Array.toList_append]
          rw [List.take_append_of_le_length (by simp [hmy]), List.take_of_length_le (by simp [hmy])]
      · have hlt : i < xs.length := by omega
        refine (Any2.slices_Insert_string_grow insLays g 0 xs.length cap i g' 0 m cap' (xs.map sv) (ys.map sv) w hlt hm0 hnc (by omega) (by omega) hcl hvl hcell hv (strs_oneCell xs) h1).mono ?_
        rintro e w' ⟨rfl, rfl⟩
        have hge := grownCap_ge w (xs.length + m) cap (insRen.t 9)
        have hle := grownCap_le_maxLen w (xs.length + m) cap (insRen.t 9) (by unfold maxLen; omega)
        generalize grownCap w (xs.length + m) cap (insRen.t 9) = capN at *
        have hd : ((xs.map sv).drop i).length = xs.length - i := by simp
        obtain ⟨L, hL⟩ : ∃ L : Array Value, L = (((xs.map sv).take i).toArray ++ Builtin.zeroCells (Value.string ⟨#[]⟩).cells (xs.length + m - i) ++ Builtin.zeroCells (Value.string ⟨#[]⟩).cells (capN - (xs.length + m))) := ⟨_, rfl⟩
        have hLs : L.size = capN := by rw [hL]; simp [size_zeroCells, Value.cells]; omega
        have hLt : L.toList.take i = (xs.map sv).take i := by
          rw [hL]
          simp only [Array.toList_append, List.append_assoc]
          rw [List.take_append_of_le_length (by simp; omega), List.take_take, Nat.min_self]
        rw [← hL]
        have hb0 : Blk (w.alloc (.cells L (insRen.t 9))).drew w.heap.size 9 L := Blk.new _ _ _
        have hLl : L.toList.length = capN := by rw [← hLs]; exact Array.length_toList
        have hs0 := splice_length L.toList i (ys.map sv) (by rw [hLl, hvl]; omega)
        have hb1 := blk_setCells (ys.map sv) i _ _ hb0 (by rw [hLs, hvl]; omega)
        have hs1 := splice_length (splice L.toList i (ys.map sv)) (i + m) ((xs.map sv).drop i) (by rw [hs0, hd, hLl]; omega)
        have hb1' : Blk ((w.alloc (.cells L (insRen.t 9))).drew.setCells w.heap.size i (ys.map sv)).drew w.heap.size 9 (splice L.toList i (ys.map sv)).toArray := hb1
        have hb2 := blk_setCells ((xs.map sv).drop i) (i + m) _ _ hb1' (by rw [List.size_toArray, hs0, hd, hLl]; omega)
        have hneb : ∀ b, b < w.heap.size → b ≠ w.heap.size := fun b hb => by omega
        refine ⟨_, rfl, own_of_block hb2 hB (by rw [hlen]) hge hle ?_ ?_, below_setCells hB _ _ _ _ (Below.drew (below_setCells hB _ _ _ _ (Below.drew (hW.alloc hB _)))), fun b hb _ => (other_setCells (hneb b hb) _ _ _).trans ((other_setCells (hneb b hb) _ _ _).trans ((Below.heap_alloc _ _ b (by omega))))⟩
        · rw [List.size_toArray, hs1, hs0, hLl]
        · rw [hmap]
          have := grow_list L.toList (xs.map sv) (ys.map sv) i xs.length hLt hcl hi (by rw [hLl, hvl]; omega)
          rw [hvl] at this
          exact this
end Fl
end Go.Proofs.YtekkhnjepcebkaaGreatDoor
-- slices.Delete of one line. Condition: lengths are below a bound.
namespace Go.Proofs.YtekkhnjepcebkaaGreatDoor
namespace Fl
open Go.RowKit Go.Shelf
set_option maxRecDepth 100000
theorem zeroStr : ∀ w, (zeroValue 9).run Tryz.prog w = .ok (.string ⟨#[]⟩) w := fun w => by kernel_rfl
theorem run_clear1 {w : World} {g : Nat} {cur : Array Value} (hg : Blk w g 9 cur) (o c : Nat) (hfit : o + 1 ≤ cur.size) (ty : TypeId) :
    (Builtin.clear_ #[22] ty #[.slice (some ⟨g, o, none⟩) 1 c]).run Tryz.prog w = .ok (.tuple #[]) (w.setRow g (cur.toList.take o ++ [Value.string ⟨#[]⟩] ++ cur.toList.drop (o + 1)).toArray) := by
  have hst := run_storeCells_at Tryz.prog g o 9 [Value.string ⟨#[]⟩] 0 cur w hg (by simpa using hfit) (by simp [Value.oneCell'])
  simp only [Nat.add_zero] at hst
  have hz : (Builtin.zeroCells (Value.string ⟨#[]⟩).cells 1).toList = [Value.string ⟨#[]⟩] := by simp [Builtin.zeroCells, Value.cells]
  simp [Builtin.clear_, run_underlying Tryz.underlying22, zeroStr, hz, hst]
theorem infoStr : ∃ i, (Tryz.prog).info? 9 = some i ∧ i.size = 1 := by
  obtain ⟨i, h1, _, h2, _⟩ := info_parts (P := Tryz.prog) (e := 9) (z := .string ⟨#[]⟩) (size := 1) (bytes := 16) (by kernel_rfl)
  exact ⟨i, h1, h2⟩
theorem flatS_take (xs : List ByteArray) (i : Nat) : (xs.flatMap strE.cells).take i = (xs.take i).flatMap strE.cells := by rw [flat_str, flat_str, List.map_take]
theorem flatS_drop (xs : List ByteArray) (i : Nat) : (xs.flatMap strE.cells).drop i = (xs.drop i).flatMap strE.cells := by rw [flat_str, flat_str, List.map_drop]
theorem step_append_run {P : Program} {ops : Array Oper} {o : Oper} {a : Act} {w w' : World} {K : Act → World → Prop} {Q : Exit → Act → World → Prop} {E : Prop} {sv xv v : Value}
    (hg : o.guard = none) (s x : Operand) (t : TypeId) (hop : o.op = Op.call { callee := Callee.builtin Builtin.append, args := #[s, x], argTypes := #[t, t] })
    (hs : a.eval s = sv) (hx : a.eval x = xv) (hrun : (Builtin.append_ #[t, t] o.type #[sv, xv]).run P w = .ok v w') (hK : K (a.put o.dst v) w') :
    if Region.wanted o (yielded ops a.tmps) = true then Oper.wp P o a w K Q else E := by
  have hw : Region.wanted o (yielded ops a.tmps) = true := by simp [Region.wanted, hg]
  rw [if_pos hw]
  unfold Oper.wp
  simp [execOp, hop, resolve, invoke, builtin, hs, hx, hrun, Result.andThen]
  exact hK
set_option maxHeartbeats 4000000 in
theorem del_spec {B : Nat} {v : Value} {xs : List ByteArray} (i j : Nat) (w : World) (hown : Own strE 9 B w v xs) (hj : j = i + 1) (hi : i < xs.length) (hm : xs.length ≤ 1000) :
    Calls Tryz.prog 109 #[v, iv i, iv j] w fun e w' => ∃ v', e = .returned v' ∧ Own strE 9 B w' v' (xs.eraseIdx i) ∧ Below B w w' := by
  obtain ⟨i0, hi0, hsz0⟩ := infoStr
  rcases hown.2 with ⟨rfl, hn⟩ | ⟨g, cap, cur, rfl, hBg, hg, hnc, hcm, hcs, htk⟩
  · omega
  · have hcs' : cur.size = cap := by simpa [strE] using hcs
    have htk' : cur.toList.take xs.length = xs.flatMap strE.cells := by simpa [strE] using htk
    obtain ⟨n, hn⟩ : ∃ n, n = xs.length := ⟨_, rfl⟩
    rw [← hn] at hi hm hnc htk' ⊢
    obtain ⟨news, hnews⟩ : ∃ news, news = (xs.drop j).flatMap strE.cells := ⟨_, rfl⟩
    have hnl : news.length = (n - j) := by rw [hnews, flat_str, List.length_map, List.length_drop, ← hn]
    have hgd : w.drew.heap[g]? = some (.cells cur 9 (0, 0)) := hg
    have hget : ∀ k u, news[k]? = some u → cur.toList[j + k]? = some u := fun k u hu => by
      have hk : k < (n - j) := by have := (List.getElem?_eq_some_iff.1 hu).1; omega
      rw [hnews, ← flatS_drop, List.getElem?_drop, ← htk', List.getElem?_take, if_pos (by omega)] at hu
      exact hu
    obtain ⟨A, hA, hsrc⟩ : ∃ A : Addr, (if cap = j then (some ⟨g, 0, none⟩ : Option Addr) else some ⟨g, j, none⟩) = some A ∧ Hid (∀ j u, news[j]? = some u → w.drew.cell? (A.add j) = some u) := by
      by_cases h : cap = j
      · refine ⟨⟨g, 0, none⟩, by simp [h], fun t u hu => ?_⟩
        rw [List.length_eq_zero_iff.1 (by omega : news.length = 0)] at hu
        simp at hu
      · refine ⟨⟨g, j, none⟩, by simp [h], fun t u hu => ?_⟩
        rw [Addr.add_lit, cell_of_row w.drew g _ cur _ (0, 0) hgd, ← Array.getElem?_toList]
        exact hget t u hu
    have hap : ∀ ty, (Builtin.append_ #[22, 22] ty #[.slice (some ⟨g, 0, none⟩) i cap, .slice (some A) (n - j) (cap - j)]).run Tryz.prog w.drew =
        .ok (.slice (some ⟨g, 0, none⟩) (i + (n - j)) cap) (w.drew.setRow g (cur.toList.take (i) ++ news ++ cur.toList.drop (i + news.length)).toArray) := fun ty => by
      have := run_append_room (P := Tryz.prog) w.drew 22 ty 9 i0 Tryz.underlying22 hi0 g i cap cur hgd A (n - j) (cap - j) news (by rw [hsz0]; omega) hsrc.out (fun u hu => by rw [hnews] at hu; obtain ⟨x, _, hx⟩ := List.mem_flatMap.1 hu; exact strE.one x u hx) (by omega) (by rw [hsz0]; omega)
      simp only [hsz0, Nat.mul_one] at this
      exact this
    obtain ⟨c1, hc1⟩ : ∃ c1, c1 = (cur.toList.take (i) ++ news ++ cur.toList.drop (i + news.length)).toArray := ⟨_, rfl⟩
    rw [← hc1] at hap
    have hc1s : c1.size = cap := by rw [hc1]; simp only [List.size_toArray, List.length_append, List.length_take, List.length_drop, Array.length_toList]; omega
    have hB1 : Blk (w.drew.setRow g c1) g 9 c1 := setRow_heap _ _ _ _ _ _ hgd
    have hb1 : Below B w (w.drew.setRow g c1) := below_setRow (Below.drew (Below.refl B w)) hBg c1
    generalize w.drew.setRow g c1 = w1 at *
    have hcl : ∀ ty, (Builtin.clear_ #[22] ty #[.slice (some ⟨g, (i + (n - j)), none⟩) (n - (i + (n - j))) (cap - (i + (n - j)))]).run Tryz.prog w1 = .ok (.tuple #[]) (w1.setRow g (c1.toList.take ((i + (n - j))) ++ [Value.string ⟨#[]⟩] ++ c1.toList.drop ((i + (n - j)) + 1)).toArray) := fun ty => by
      rw [show n - (i + (n - j)) = 1 by omega]
      exact run_clear1 hB1 _ _ (by omega) ty
    have hC := Lib.hid hc1
    obtain ⟨c2, hc2⟩ : ∃ c2, c2 = (c1.toList.take ((i + (n - j))) ++ [Value.string ⟨#[]⟩] ++ c1.toList.drop ((i + (n - j)) + 1)).toArray := ⟨_, rfl⟩
    rw [← hc2] at hcl
    have hB2 : Blk (w1.setRow g c2) g 9 c2 := setRow_heap _ _ _ _ _ _ hB1
    have hb2 : Below B w (w1.setRow g c2) := below_setRow hb1 hBg c2
    generalize w1.setRow g c2 = w2 at *
    have HB2 := Lib.hid hB2
    have HC2 := Lib.hid hc2
    have hij : i ≤ j := by omega
    have hjn : j ≤ n := by omega
    have hjc : j ≤ cap := by omega
    have hic : i ≤ cap := by omega
    have hne : ((i : Int) == (j : Int)) = false := by simp; omega
    have hcn : ¬ cap = i + (n - j) := by omega
    have HT := Lib.hid htk'
    have HN := Lib.hid hnews
    have HO := Lib.hid hown
    have hle1 : i + (n - j) ≤ n := by omega
    have HJ := Lib.hid hj
    clear hc1 hget hgd htk' htk hnews hown hB1 hB2 hc2 hsrc hg hi0 hn hj
    go_enter Tryz.func109, Tryz.ntmps109
    go_wp2
    go_region_law (refine step_append_run (sv := .slice (some ⟨g, 0, none⟩) i cap) (xv := .slice (some A) (n - j) (cap - j)) rfl (.tmp 22) (.tmp 25) 22 rfl (by simp [Act.eval, Act.put]) (by simp [Act.eval, Act.put]) (hap _) ?_)
    go_wp2
    go_ret
    have hjj := HJ.out
    have hnx := HO.out.1
    obtain ⟨_, _, hv0, _, _⟩ := HO.out.form
    have hxn : xs.length = n := by
      have h1 : n ≤ cap := by omega
      have h2 := congrArg List.length HT.out
      rw [List.length_take, flat_length, Array.length_toList] at h2
      have h3 : strE.sz = 1 := rfl
      rw [h3] at h2
      omega
    have hel : (xs.eraseIdx i).length = i + (n - j) := by rw [List.length_eraseIdx_of_lt (by omega)]; omega
    have hce : ((i + (n - j))) = i + news.length := by omega
    have htl : cur.toList.length = cap := by rw [Array.length_toList]; exact hcs'
    have hfin : c1.toList.take ((i + (n - j))) = (xs.eraseIdx i).flatMap strE.cells := by
      rw [hC.out, hce, List.toList_toArray, List.take_append_of_le_length (by simp; omega), List.take_of_length_le (by simp; omega)]
      have e1 : cur.toList.take (i) = (xs.take i).flatMap strE.cells := by
        rw [← flatS_take, ← HT.out, List.take_take, Nat.min_eq_left (by omega)]
      rw [e1, HN.out, ← List.flatMap_append, List.eraseIdx_eq_take_drop_succ, hjj]
    have hc1l : c1.toList.length = cap := by rw [Array.length_toList]; exact hc1s
    refine ⟨_, rfl, ⟨flat_length _ _, .inr ⟨g, cap, _, by rw [hel]; rfl, hBg, HB2.out, by rw [hel]; omega, hcm, ?_, ?_⟩⟩, hb2⟩
    · rw [HC2.out]
      simp only [List.size_toArray, List.length_append, List.length_take, List.length_drop, hc1l]
      show _ = cap * 1
      simp only [List.length_cons, List.length_nil]
      omega
    · rw [hel]
      show List.take ((i + (n - j)) * 1) _ = _
      rw [Nat.mul_one]
      rw [HC2.out, List.toList_toArray, List.append_assoc, List.take_append_of_le_length (by rw [List.length_take, hc1l]; omega), List.take_of_length_le (by rw [List.length_take]; omega), hfin]
end Fl
end Go.Proofs.YtekkhnjepcebkaaGreatDoor
-- Changed of petershamlaw11: another file of a file, by a spool. Conditions: few lines, that are right.
namespace Go.Proofs.YtekkhnjepcebkaaGreatDoor
namespace Fl
open Go.RowKit Go.Shelf
set_option maxRecDepth 100000
abbrev LnOk (s : ByteArray) : Prop := File.okLine s = true ∧ s.size ≤ 40
theorem mk2 (B : Nat) (w : World) (g k : Nat) (h : IsSpool B w g k) (hk : k < 1000000) :
    Calls Tryz.prog 44 #[.pointer (some ⟨g, 0, none⟩), .int .i64 2] w fun e w' => ∃ (v : Value) (xs : List ByteArray) (k' : Nat), e = .returned v ∧ Own strE 9 w.heap.size w' v xs ∧ xs.length ≤ 2 ∧ (∀ s ∈ xs, LnOk s) ∧ k' ≤ k + 9 ∧ IsSpool B w' g k' ∧ Only g w w' := by
  have := mk_spec B w g k 2 h hk (by decide)
  refine this.mono ?_
  rintro e w' ⟨v, xs, k', rfl, h1, h2, h3, h4, h5, h6⟩
  exact ⟨v, xs, k', rfl, h1, h2, h3, by omega, h5, h6⟩
theorem upto2 (B : Nat) (w : World) (g k : Nat) (h : IsSpool B w g k) (hk : k < 1000000) :
    Calls Tryz.prog 59 #[.pointer (some ⟨g, 0, none⟩), .int .i64 2] w fun e w' => ∃ r : Nat, e = .returned (iv r) ∧ (r = 0 ∨ r = 1 ∨ r = 2) ∧ IsSpool B w' g (k + 1) ∧ Only g w w' := by
  have := upto_spec B w g k 2 h (by omega) (by decide)
  refine this.mono ?_
  rintro e w' ⟨r, rfl, h1, h2, h3⟩
  exact ⟨r, rfl, by omega, h2, h3⟩
theorem mem_insL {xs ys : List ByteArray} {i : Nat} {s : ByteArray} (h : s ∈ insL xs ys i) : s ∈ xs ∨ s ∈ ys := by
  unfold insL at h
  rcases List.mem_append.1 h with h | h
  · rcases List.mem_append.1 h with h | h
    · exact .inl (List.mem_of_mem_take h)
    · exact .inr h
  · exact .inl (List.mem_of_mem_drop h)
theorem len_insL (xs ys : List ByteArray) (i : Nat) : (insL xs ys i).length = xs.length + ys.length := by
  unfold insL
  simp only [List.length_append, List.length_take, List.length_drop]
  omega
theorem spool_below {B C g k : Nat} {w w' : World} (h : IsSpool B w g k) (hb : Below C w w') (hB : B ≤ C) : IsSpool B w' g k := h.below hb hB
theorem own0' {B : Nat} {w : World} {v : Value} {xs : List ByteArray} (h : Own strE 9 B w v xs) (hne : xs ≠ []) : ∃ g c, v = .slice (some ⟨g, 0, none⟩) xs.length c ∧ xs.length ≤ c ∧ B ≤ g ∧ ∃ cs, Blk w g 9 cs := by
  rcases h.2 with ⟨_, hn⟩ | ⟨g, cap, cur, rfl, hb, hg, hc, _⟩
  · exact absurd (List.eq_nil_of_length_eq_zero hn) hne
  · exact ⟨g, cap, rfl, hc, hb, cur, hg⟩
theorem setS' {e : TypeId} {B : Nat} {w : World} {g n c : Nat} {xs : List ByteArray} (h : Own strE e B w (.slice (some ⟨g, 0, none⟩) n c) xs) {k : Nat} (hk : k < xs.length) (y : ByteArray) : Own strE e B (w.setCell ⟨g, k, none⟩ (.string y)) (.slice (some ⟨g, 0, none⟩) n c) (xs.set k y) := by
  have hx : xs[k]? = some xs[k] := List.getElem?_eq_getElem hk
  rcases h.2 with ⟨hv, _⟩ | ⟨g', cap, cur, hv, hb, hg, hc, hm, hs, ht⟩
  · cases hv
  · cases hv
    have hs' : cur.size = c := by simpa [strE] using hs
    have ht' : cur.toList.take xs.length = xs.map sv := by rw [flat_str] at ht; simpa [strE] using ht
    have hB : Blk w g e cur := hg
    exact own_of_block (xs := xs.set k y) (B := B) (hB.set_ k (.string y)) hb (by rw [List.length_set]) hc hm (by simpa using hs') (by
      rw [Array.toList_setIfInBounds, List.take_set, ht', List.map_set])
theorem cellS' {e : TypeId} {B : Nat} {w : World} {g n c : Nat} {xs : List ByteArray} (h : Own strE e B w (.slice (some ⟨g, 0, none⟩) n c) xs) {k : Nat} (hk : k < xs.length) : ∃ x, w.cell? ⟨g, k, none⟩ = some (.string x) ∧ (∀ o, w.frozen? ⟨g, o, none⟩ = false) ∧ g < w.heap.size := by
  have hg := (h.lt g rfl).2
  obtain ⟨b, off, x, hA, _, _, hc⟩ := Sl.atS h.sl hk
  cases hA
  rw [Nat.zero_add] at hc
  rcases h.2 with ⟨hv, _⟩ | ⟨g', cap, cur, hv, _, hB, _⟩
  · cases hv
  · cases hv
    exact ⟨x, hc, Blk.frozen (t := e) (cs := cur) hB, hg⟩
set_option maxHeartbeats 4000000 in
theorem changed_spec (B : Nat) (w : World) (g k most : Nat) (A : Option Addr) (f : List ByteArray) (c : Nat) (h : IsSpool B w g k) (hk : k < 100000) (hn : most ≤ 100) (hs : Sl strE w A f) (hf : f.length ≤ 21) (hok : ∀ s ∈ f, LnOk s) :
    Calls Tryz.prog 45 #[.pointer (some ⟨g, 0, none⟩), .slice A f.length c, iv (most : Int)] w fun e w' => ∃ (v : Value) (xs : List ByteArray) (k' : Nat), e = .returned v ∧ Own strE 9 w.heap.size w' v xs ∧ xs.length ≤ 21 ∧ (∀ s ∈ xs, LnOk s) ∧ k' ≤ k + 1 + 20 * most ∧ IsSpool B w' g k' ∧ Only g w w' := by
  have hgB : g < B := h.1
  have hBw : B ≤ w.heap.size := h.2.1
  have HSP := Lib.hid h
  have HOK := Lib.hid hok
  clear h hok
  go_enter Tryz.func45, Tryz.ntmps45
  go_wp2_with fail
  refine (cloneS A f c w (by unfold big; omega) hs).mono ?_
  rintro e w1 ⟨v1, rfl, ho1, hb1⟩
  have hsp1 := HSP.out.below hb1 hBw
  have hon1 : Only g w w1 := Only.of_below hb1 (by omega)
  go_wp2_with fail
  refine (upto_spec B w1 g k most hsp1 (by omega) (by omega)).mono ?_
  rintro e w2 ⟨m, rfl, hm, hsp2, ho2⟩
  have hO2 : Own strE 9 w.heap.size w2 v1 f := ho1.keep ho2.below.size fun b hb => ho2.other b (ho1.lt b hb).2 (by have := (ho1.lt b hb).1; omega)
  have hon2 := hon1.trans ho2
  clear hs ho1 hb1 hsp1 hon1 ho2 HSP
  go_wp2_with fail
  go_loopw [7, 8, 9, 15] (fun v _ _ i wr => ∃ (j : Nat) (xs : List ByteArray) (k' : Nat), j ≤ m ∧ i = iv j ∧ Hid (Own strE 9 w.heap.size wr v xs) ∧ xs.length ≤ 21 ∧ Hid (∀ s ∈ xs, LnOk s) ∧ k' ≤ k + 1 + 20 * j ∧ Hid (IsSpool B wr g k') ∧ Hid (Only g w wr)) (fun _ _ _ i _ => m - (intOf i).toNat)
  case atStart => exact ⟨0, f, k + 1, by omega, rfl, hO2, hf, HOK.out, by omega, hsp2, hon2⟩
  case round =>
    obtain ⟨j, xs, k', hj, rfl, HO, hxl, HXS, hk', HSP, HON⟩ := hrel
    obtain ⟨Ax, cx, rfl, hcx, _⟩ := HO.out.form
    by_cases hlt : j < m
    · have hji : (j : Int) < (m : Int) := by omega
      go_wp2_with fail
      refine (upto_spec B wr g k' xs.length HSP.out (by omega) (by omega)).mono ?_
      rintro e w4 ⟨r, rfl, hr, hsp4, ho4⟩
      go_wp2_with fail
      refine (upto2 B w4 g (k' + 1) hsp4 (by omega)).mono ?_
      rintro e w5 ⟨q, rfl, hq, hsp5, ho5⟩
      have hO4 := ho4.trans ho5
      have HO5 : Hid (Own strE 9 w.heap.size w5 (.slice Ax xs.length cx) xs) := Lib.hid (HO.out.keep hO4.below.size fun b hb => hO4.other b (HO.out.lt b hb).2 (by have := (HO.out.lt b hb).1; omega))
      have HSP5 := Lib.hid hsp5
      have HON5 := Lib.hid (HON.out.trans hO4)
      have hz5 : w.heap.size ≤ w5.heap.size := HON5.out.below.size
      clear HO HSP HON hsp4 ho4 hsp5 ho5 hO4
      by_cases hrl : r < xs.length
      · have hri : (r : Int) < (xs.length : Int) := by omega
        have hne0 : xs ≠ [] := fun h => by rw [h] at hrl; simp at hrl
        rcases hq with rfl | rfl | rfl
        · by_cases h20 : xs.length < 20
          · have h20i : (xs.length : Int) < 20 := by omega
            go_wp2_with fail
            refine (mk2 B w5 g (k' + 2) HSP5.out (by omega)).mono ?_
            rintro e w6 ⟨v6, ys, k6, rfl, hoy, hyl, hyo, hk6, hsp6, ho6⟩
            obtain ⟨Ay, cy, rfl, hcy, _⟩ := hoy.form
            have HO6 : Own strE 9 w.heap.size w6 (.slice Ax xs.length cx) xs := HO5.out.keep ho6.below.size fun b hb => ho6.other b (HO5.out.lt b hb).2 (by have := (HO5.out.lt b hb).1; omega)
            have hneb : ∀ b, (Value.slice Ax xs.length cx).ownBlock = some b → (Value.slice Ay ys.length cy).ownBlock ≠ some b := fun b h1 h2 => by
              have := (HO5.out.lt b h1).2
              have := (hoy.lt b h2).1
              omega
            have HON6 := HON5.out.trans ho6
            have hIN := ins_spec (B := w.heap.size) r w6 HO6 hoy hneb HON6.below.size hr (by omega)
            clear HO6 hneb hoy ho6
            go_wp2_with fail
            refine hIN.mono ?_
            rintro e w7 ⟨v7, rfl, ho7, hb7, _⟩
            have HON7 := Lib.hid (Only.nextB HON6 hb7 (by omega) (Nat.le_refl _))
            have HSP7 := Lib.hid (hsp6.below hb7 hBw)
            have HXS7 : Hid (∀ s ∈ insL xs ys r, LnOk s) := Lib.hid fun s hs => by
              rcases mem_insL hs with h | h
              · exact HXS.out s h
              · exact hyo s h
            have hl7 := len_insL xs ys r
            clear hIN HON6 hsp6 hb7 hyo
            go_wp2_with fail
            go_roundw
            case rel => exact ⟨j + 1, insL xs ys r, k6, by omega, by go_num, ho7, by omega, HXS7, by omega, HSP7, HON7⟩
            case measure => simp [intOf]; omega
          · have h20i : ¬ (xs.length : Int) < 20 := by omega
            go_upto_region 11 with fail
            obtain ⟨gx, cx', ex, hcx, hgx, cs, hBx⟩ := own0' HO5.out hne0
            cases ex
            obtain ⟨x0, rc1, rc2, rc3⟩ := cellS' HO5.out hrl
            have HO6 := Lib.hid (setS' HO5.out hrl ⟨#[110, 101, 119]⟩)
            have HON6 := Lib.hid (HON5.out.setCell (p := ⟨gx, r, none⟩) (by show g ≤ gx; omega) hgx (.string ⟨#[110, 101, 119]⟩))
            have HSP6 := Lib.hid (HSP5.out.keep (w' := w5.setCell ⟨gx, r, none⟩ (.string ⟨#[110, 101, 119]⟩)) (by simp [World.setCell]) fun b hb => Below.heap_setCell _ _ _ _ (by show b ≠ gx; omega))
            have HXS6 : Hid (∀ s ∈ xs.set r ⟨#[110, 101, 119]⟩, LnOk s) := Lib.hid fun s hs => by
              rcases List.mem_or_eq_of_mem_set hs with h | rfl
              · exact HXS.out s h
              · decide
            go_wp2_with fail
            go_roundw
            case rel => exact ⟨j + 1, xs.set r ⟨#[110, 101, 119]⟩, k' + 2, by omega, by go_num, (by first | exact HO6 | (rw [List.length_set]; exact HO6)), by rw [List.length_set]; omega, HXS6, by omega, HSP6, HON6⟩
            case measure => simp [intOf]; omega
        · have ei : IntKind.i64.wrap ((r : Int) + 1) = (r : Int) + 1 := IntWalk.i64_in _ (by omega)
          have hDL : Calls Tryz.prog 109 #[.slice Ax xs.length cx, iv (r : Int), iv ((r : Int) + 1)] w5 fun e w' => ∃ v', e = .returned v' ∧ Own strE 9 w.heap.size w' v' (xs.eraseIdx r) ∧ Below w.heap.size w5 w' := del_spec r (r + 1) w5 HO5.out rfl hrl (by omega)
          go_wp2_with fail
          refine hDL.mono ?_
          rintro e w7 ⟨v7, rfl, ho7, hb7⟩
          have HON7 := Lib.hid (Only.nextB HON5.out hb7 (by omega) (Nat.le_refl _))
          have HSP7 := Lib.hid (HSP5.out.below hb7 hBw)
          have HXS7 : Hid (∀ s ∈ xs.eraseIdx r, LnOk s) := Lib.hid fun s hs => HXS.out s (List.mem_of_mem_eraseIdx hs)
          have hl7 : (xs.eraseIdx r).length ≤ 21 := by rw [List.length_eraseIdx]; split <;> omega
          clear hDL hb7
          go_wp2_with fail
          go_roundw
          case rel => exact ⟨j + 1, xs.eraseIdx r, k' + 2, by omega, by go_num, ho7, hl7, HXS7, by omega, HSP7, HON7⟩
          case measure => simp [intOf]; omega
        · go_upto_region 11 with fail
          obtain ⟨gx, cx', ex, hcx, hgx, cs, hBx⟩ := own0' HO5.out hne0
          cases ex
          obtain ⟨x0, rc1, rc2, rc3⟩ := cellS' HO5.out hrl
          have HO6 := Lib.hid (setS' HO5.out hrl ⟨#[110, 101, 119]⟩)
          have HON6 := Lib.hid (HON5.out.setCell (p := ⟨gx, r, none⟩) (by show g ≤ gx; omega) hgx (.string ⟨#[110, 101, 119]⟩))
          have HSP6 := Lib.hid (HSP5.out.keep (w' := w5.setCell ⟨gx, r, none⟩ (.string ⟨#[110, 101, 119]⟩)) (by simp [World.setCell]) fun b hb => Below.heap_setCell _ _ _ _ (by show b ≠ gx; omega))
          have HXS6 : Hid (∀ s ∈ xs.set r ⟨#[110, 101, 119]⟩, LnOk s) := Lib.hid fun s hs => by
            rcases List.mem_or_eq_of_mem_set hs with h | rfl
            · exact HXS.out s h
            · decide
          go_wp2_with fail
          go_roundw
          case rel => exact ⟨j + 1, xs.set r ⟨#[110, 101, 119]⟩, k' + 2, by omega, by go_num, (by first | exact HO6 | (rw [List.length_set]; exact HO6)), by rw [List.length_set]; omega, HXS6, by omega, HSP6, HON6⟩
          case measure => simp [intOf]; omega
      · have hri : ¬ (r : Int) < (xs.length : Int) := by omega
        rcases hq with rfl | rfl | rfl
        · by_cases h20 : xs.length < 20
          · have h20i : (xs.length : Int) < 20 := by omega
            go_wp2_with fail
            refine (mk2 B w5 g (k' + 2) HSP5.out (by omega)).mono ?_
            rintro e w6 ⟨v6, ys, k6, rfl, hoy, hyl, hyo, hk6, hsp6, ho6⟩
            obtain ⟨Ay, cy, rfl, hcy, _⟩ := hoy.form
            have HO6 : Own strE 9 w.heap.size w6 (.slice Ax xs.length cx) xs := HO5.out.keep ho6.below.size fun b hb => ho6.other b (HO5.out.lt b hb).2 (by have := (HO5.out.lt b hb).1; omega)
            have hneb : ∀ b, (Value.slice Ax xs.length cx).ownBlock = some b → (Value.slice Ay ys.length cy).ownBlock ≠ some b := fun b h1 h2 => by
              have := (HO5.out.lt b h1).2
              have := (hoy.lt b h2).1
              omega
            have HON6 := HON5.out.trans ho6
            have hIN := ins_spec (B := w.heap.size) r w6 HO6 hoy hneb HON6.below.size hr (by omega)
            clear HO6 hneb hoy ho6
            go_wp2_with fail
            refine hIN.mono ?_
            rintro e w7 ⟨v7, rfl, ho7, hb7, _⟩
            have HON7 := Lib.hid (Only.nextB HON6 hb7 (by omega) (Nat.le_refl _))
            have HSP7 := Lib.hid (hsp6.below hb7 hBw)
            have HXS7 : Hid (∀ s ∈ insL xs ys r, LnOk s) := Lib.hid fun s hs => by
              rcases mem_insL hs with h | h
              · exact HXS.out s h
              · exact hyo s h
            have hl7 := len_insL xs ys r
            clear hIN HON6 hsp6 hb7 hyo
            go_wp2_with fail
            go_roundw
            case rel => exact ⟨j + 1, insL xs ys r, k6, by omega, by go_num, ho7, by omega, HXS7, by omega, HSP7, HON7⟩
            case measure => simp [intOf]; omega
          · have h20i : ¬ (xs.length : Int) < 20 := by omega
            go_wp2_with fail
            go_roundw
            case rel => exact ⟨j + 1, xs, k' + 2, by omega, by go_num, HO5, hxl, HXS, by omega, HSP5, HON5⟩
            case measure => simp [intOf]; omega
        · go_wp2_with fail
          go_roundw
          case rel => exact ⟨j + 1, xs, k' + 2, by omega, by go_num, HO5, hxl, HXS, by omega, HSP5, HON5⟩
          case measure => simp [intOf]; omega
        · go_wp2_with fail
          go_roundw
          case rel => exact ⟨j + 1, xs, k' + 2, by omega, by go_num, HO5, hxl, HXS, by omega, HSP5, HON5⟩
          case measure => simp [intOf]; omega
    · have hji : ¬ (j : Int) < (m : Int) := by omega
      go_wp2_with fail
      go_ret
      exact ⟨_, rfl, xs, HO.out, hxl, HXS.out, k', by have : 20 * j ≤ 20 * most := Nat.mul_le_mul (Nat.le_refl _) (by omega); omega, HSP.out, HON.out⟩
end Fl
end Go.Proofs.YtekkhnjepcebkaaGreatDoor
