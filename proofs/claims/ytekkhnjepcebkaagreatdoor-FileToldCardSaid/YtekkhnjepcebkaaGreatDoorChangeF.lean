/- Changed of petershamlaw11: another file of a file, by a spool. Conditions: few lines, that are right. -/
import Derived.Test.YtekkhnjepcebkaaGreatDoorMkF
import Derived.Test.YtekkhnjepcebkaaGreatDoorDelS
set_option linter.unusedVariables false
set_option linter.unusedSimpArgs false
namespace Go.Proofs.YtekkhnjepcebkaaGreatDoor
namespace Fl
open Go.RowKit Go.Shelf
set_option maxRecDepth 100000
abbrev LnOk (s : ByteArray) : Prop := File.okLine s = true ∧ s.size ≤ 40
theorem mk2 (B : Nat) (w : World) (g k : Nat) (h : IsSpool B w g k) (hk : k < 1000000) :
    Calls Tryz.prog 44 #[.pointer (some ⟨g, 0, none⟩), .int .i64 2] w fun e w' => ∃ (v : Value) (xs : List ByteArray) (k' : Nat), e = .returned v ∧ Own strE 9 w.heap.size w' v xs ∧ xs.length ≤ 2 ∧ (∀ s ∈ xs, LnOk s) ∧ k' ≤ k + 9 ∧ IsSpool B w' g k' ∧ Only g w w' := by
  have := mk_spec B w g k 2 h hk (by decide)
  refine this.mono ?_
  rintro e w' ⟨v, xs, k', rfl, h1, h2, h3, h4, h5, h6⟩
  exact ⟨v, xs, k', rfl, h1, h2, h3, by omega, h5, h6⟩
theorem upto2 (B : Nat) (w : World) (g k : Nat) (h : IsSpool B w g k) (hk : k < 1000000) :
    Calls Tryz.prog 59 #[.pointer (some ⟨g, 0, none⟩), .int .i64 2] w fun e w' => ∃ r : Nat, e = .returned (iv r) ∧ (r = 0 ∨ r = 1 ∨ r = 2) ∧ IsSpool B w' g (k + 1) ∧ Only g w w' := by
  have := upto_spec B w g k 2 h (by omega) (by decide)
  refine this.mono ?_
  rintro e w' ⟨r, rfl, h1, h2, h3⟩
  exact ⟨r, rfl, by omega, h2, h3⟩
theorem mem_insL {xs ys : List ByteArray} {i : Nat} {s : ByteArray} (h : s ∈ insL xs ys i) : s ∈ xs ∨ s ∈ ys := by
  unfold insL at h
  rcases List.mem_append.1 h with h | h
  · rcases List.mem_append.1 h with h | h
    · exact .inl (List.mem_of_mem_take h)
    · exact .inr h
  · exact .inl (List.mem_of_mem_drop h)
theorem len_insL (xs ys : List ByteArray) (i : Nat) : (insL xs ys i).length = xs.length + ys.length := by
  unfold insL
  simp only [List.length_append, List.length_take, List.length_drop]
  omega
theorem spool_below {B C g k : Nat} {w w' : World} (h : IsSpool B w g k) (hb : Below C w w') (hB : B ≤ C) : IsSpool B w' g k := h.below hb hB
theorem own0' {B : Nat} {w : World} {v : Value} {xs : List ByteArray} (h : Own strE 9 B w v xs) (hne : xs ≠ []) : ∃ g c, v = .slice (some ⟨g, 0, none⟩) xs.length c ∧ xs.length ≤ c ∧ B ≤ g ∧ ∃ cs, Blk w g 9 cs := by
  rcases h.2 with ⟨_, hn⟩ | ⟨g, cap, cur, rfl, hb, hg, hc, _⟩
  · exact absurd (List.eq_nil_of_length_eq_zero hn) hne
  · exact ⟨g, cap, rfl, hc, hb, cur, hg⟩
theorem setS' {e : TypeId} {B : Nat} {w : World} {g n c : Nat} {xs : List ByteArray} (h : Own strE e B w (.slice (some ⟨g, 0, none⟩) n c) xs) {k : Nat} (hk : k < xs.length) (y : ByteArray) : Own strE e B (w.setCell ⟨g, k, none⟩ (.string y)) (.slice (some ⟨g, 0, none⟩) n c) (xs.set k y) := by
  have hx : xs[k]? = some xs[k] := List.getElem?_eq_getElem hk
  rcases h.2 with ⟨hv, _⟩ | ⟨g', cap, cur, hv, hb, hg, hc, hm, hs, ht⟩
  · cases hv
  · cases hv
    have hs' : cur.size = c := by simpa [strE] using hs
    have ht' : cur.toList.take xs.length = xs.map sv := by rw [flat_str] at ht; simpa [strE] using ht
    have hB : Blk w g e cur := hg
    exact own_of_block (xs := xs.set k y) (B := B) (hB.set_ k (.string y)) hb (by rw [List.length_set]) hc hm (by simpa using hs') (by
      rw [Array.toList_setIfInBounds, List.take_set, ht', List.map_set])
theorem cellS' {e : TypeId} {B : Nat} {w : World} {g n c : Nat} {xs : List ByteArray} (h : Own strE e B w (.slice (some ⟨g, 0, none⟩) n c) xs) {k : Nat} (hk : k < xs.length) : ∃ x, w.cell? ⟨g, k, none⟩ = some (.string x) ∧ (∀ o, w.frozen? ⟨g, o, none⟩ = false) ∧ g < w.heap.size := by
  have hg := (h.lt g rfl).2
  obtain ⟨b, off, x, hA, _, _, hc⟩ := Sl.atS h.sl hk
  cases hA
  rw [Nat.zero_add] at hc
  rcases h.2 with ⟨hv, _⟩ | ⟨g', cap, cur, hv, _, hB, _⟩
  · cases hv
  · cases hv
    exact ⟨x, hc, Blk.frozen (t := e) (cs := cur) hB, hg⟩
set_option maxHeartbeats 4000000 in
theorem changed_spec (B : Nat) (w : World) (g k most : Nat) (A : Option Addr) (f : List ByteArray) (c : Nat) (h : IsSpool B w g k) (hk : k < 100000) (hn : most ≤ 100) (hs : Sl strE w A f) (hf : f.length ≤ 21) (hok : ∀ s ∈ f, LnOk s) :
    Calls Tryz.prog 45 #[.pointer (some ⟨g, 0, none⟩), .slice A f.length c, iv (most : Int)] w fun e w' => ∃ (v : Value) (xs : List ByteArray) (k' : Nat), e = .returned v ∧ Own strE 9 w.heap.size w' v xs ∧ xs.length ≤ 21 ∧ (∀ s ∈ xs, LnOk s) ∧ k' ≤ k + 1 + 20 * most ∧ IsSpool B w' g k' ∧ Only g w w' := by
  have hgB : g < B := h.1
  have hBw : B ≤ w.heap.size := h.2.1
  have HSP := Lib.hid h
  have HOK := Lib.hid hok
  clear h hok
  go_enter Tryz.func45, Tryz.ntmps45
  go_wp2_with fail
  refine (cloneS A f c w (by unfold big; omega) hs).mono ?_
  rintro e w1 ⟨v1, rfl, ho1, hb1⟩
  have hsp1 := HSP.out.below hb1 hBw
  have hon1 : Only g w w1 := Only.of_below hb1 (by omega)
  go_wp2_with fail
  refine (upto_spec B w1 g k most hsp1 (by omega) (by omega)).mono ?_
  rintro e w2 ⟨m, rfl, hm, hsp2, ho2⟩
  have hO2 : Own strE 9 w.heap.size w2 v1 f := ho1.keep ho2.below.size fun b hb => ho2.other b (ho1.lt b hb).2 (by have := (ho1.lt b hb).1; omega)
  have hon2 := hon1.trans ho2
  clear hs ho1 hb1 hsp1 hon1 ho2 HSP
  go_wp2_with fail
  go_loopw [7, 8, 9, 15] (fun v _ _ i wr => ∃ (j : Nat) (xs : List ByteArray) (k' : Nat), j ≤ m ∧ i = iv j ∧ Hid (Own strE 9 w.heap.size wr v xs) ∧ xs.length ≤ 21 ∧ Hid (∀ s ∈ xs, LnOk s) ∧ k' ≤ k + 1 + 20 * j ∧ Hid (IsSpool B wr g k') ∧ Hid (Only g w wr)) (fun _ _ _ i _ => m - (intOf i).toNat)
  case atStart => exact ⟨0, f, k + 1, by omega, rfl, hO2, hf, HOK.out, by omega, hsp2, hon2⟩
  case round =>
    obtain ⟨j, xs, k', hj, rfl, HO, hxl, HXS, hk', HSP, HON⟩ := hrel
    obtain ⟨Ax, cx, rfl, hcx, _⟩ := HO.out.form
    by_cases hlt : j < m
    · have hji : (j : Int) < (m : Int) := by omega
      go_wp2_with fail
      refine (upto_spec B wr g k' xs.length HSP.out (by omega) (by omega)).mono ?_
      rintro e w4 ⟨r, rfl, hr, hsp4, ho4⟩
      go_wp2_with fail
      refine (upto2 B w4 g (k' + 1) hsp4 (by omega)).mono ?_
      rintro e w5 ⟨q, rfl, hq, hsp5, ho5⟩
      have hO4 := ho4.trans ho5
      have HO5 : Hid (Own strE 9 w.heap.size w5 (.slice Ax xs.length cx) xs) := Lib.hid (HO.out.keep hO4.below.size fun b hb => hO4.other b (HO.out.lt b hb).2 (by have := (HO.out.lt b hb).1; omega))
      have HSP5 := Lib.hid hsp5
      have HON5 := Lib.hid (HON.out.trans hO4)
      have hz5 : w.heap.size ≤ w5.heap.size := HON5.out.below.size
      clear HO HSP HON hsp4 ho4 hsp5 ho5 hO4
      by_cases hrl : r < xs.length
      · have hri : (r : Int) < (xs.length : Int) := by omega
        have hne0 : xs ≠ [] := fun h => by rw [h] at hrl; simp at hrl
        rcases hq with rfl | rfl | rfl
        · by_cases h20 : xs.length < 20
          · have h20i : (xs.length : Int) < 20 := by omega
            go_wp2_with fail
            refine (mk2 B w5 g (k' + 2) HSP5.out (by omega)).mono ?_
            rintro e w6 ⟨v6, ys, k6, rfl, hoy, hyl, hyo, hk6, hsp6, ho6⟩
            obtain ⟨Ay, cy, rfl, hcy, _⟩ := hoy.form
            have HO6 : Own strE 9 w.heap.size w6 (.slice Ax xs.length cx) xs := HO5.out.keep ho6.below.size fun b hb => ho6.other b (HO5.out.lt b hb).2 (by have := (HO5.out.lt b hb).1; omega)
            have hneb : ∀ b, (Value.slice Ax xs.length cx).ownBlock = some b → (Value.slice Ay ys.length cy).ownBlock ≠ some b := fun b h1 h2 => by
              have := (HO5.out.lt b h1).2
              have := (hoy.lt b h2).1
              omega
            have HON6 := HON5.out.trans ho6
            have hIN := ins_spec (B := w.heap.size) r w6 HO6 hoy hneb HON6.below.size hr (by omega)
            clear HO6 hneb hoy ho6
            go_wp2_with fail
            refine hIN.mono ?_
            rintro e w7 ⟨v7, rfl, ho7, hb7, _⟩
            have HON7 := Lib.hid (Only.nextB HON6 hb7 (by omega) (Nat.le_refl _))
            have HSP7 := Lib.hid (hsp6.below hb7 hBw)
            have HXS7 : Hid (∀ s ∈ insL xs ys r, LnOk s) := Lib.hid fun s hs => by
              rcases mem_insL hs with h | h
              · exact HXS.out s h
              · exact hyo s h
            have hl7 := len_insL xs ys r
            clear hIN HON6 hsp6 hb7 hyo
            go_wp2_with fail
            go_roundw
            case rel => exact ⟨j + 1, insL xs ys r, k6, by omega, by go_num, ho7, by omega, HXS7, by omega, HSP7, HON7⟩
            case measure => simp [intOf]; omega
          · have h20i : ¬ (xs.length : Int) < 20 := by omega
            go_upto_region 11 with fail
            obtain ⟨gx, cx', ex, hcx, hgx, cs, hBx⟩ := own0' HO5.out hne0
            cases ex
            obtain ⟨x0, rc1, rc2, rc3⟩ := cellS' HO5.out hrl
            have HO6 := Lib.hid (setS' HO5.out hrl ⟨#[110, 101, 119]⟩)
            have HON6 := Lib.hid (HON5.out.setCell (p := ⟨gx, r, none⟩) (by show g ≤ gx; omega) hgx (.string ⟨#[110, 101, 119]⟩))
            have HSP6 := Lib.hid (HSP5.out.keep (w' := w5.setCell ⟨gx, r, none⟩ (.string ⟨#[110, 101, 119]⟩)) (by simp [World.setCell]) fun b hb => Below.heap_setCell _ _ _ _ (by show b ≠ gx; omega))
            have HXS6 : Hid (∀ s ∈ xs.set r ⟨#[110, 101, 119]⟩, LnOk s) := Lib.hid fun s hs => by
              rcases List.mem_or_eq_of_mem_set hs with h | rfl
              · exact HXS.out s h
              · decide
            go_wp2_with fail
            go_roundw
            case rel => exact ⟨j + 1, xs.set r ⟨#[110, 101, 119]⟩, k' + 2, by omega, by go_num, (by first | exact HO6 | (rw [List.length_set]; exact HO6)), by rw [List.length_set]; omega, HXS6, by omega, HSP6, HON6⟩
            case measure => simp [intOf]; omega
        · have ei : IntKind.i64.wrap ((r : Int) + 1) = (r : Int) + 1 := IntWalk.i64_in _ (by omega)
          have hDL : Calls Tryz.prog 109 #[.slice Ax xs.length cx, iv (r : Int), iv ((r : Int) + 1)] w5 fun e w' => ∃ v', e = .returned v' ∧ Own strE 9 w.heap.size w' v' (xs.eraseIdx r) ∧ Below w.heap.size w5 w' := del_spec r (r + 1) w5 HO5.out rfl hrl (by omega)
          go_wp2_with fail
          refine hDL.mono ?_
          rintro e w7 ⟨v7, rfl, ho7, hb7⟩
          have HON7 := Lib.hid (Only.nextB HON5.out hb7 (by omega) (Nat.le_refl _))
          have HSP7 := Lib.hid (HSP5.out.below hb7 hBw)
          have HXS7 : Hid (∀ s ∈ xs.eraseIdx r, LnOk s) := Lib.hid fun s hs => HXS.out s (List.mem_of_mem_eraseIdx hs)
          have hl7 : (xs.eraseIdx r).length ≤ 21 := by rw [List.length_eraseIdx]; split <;> omega
          clear hDL hb7
          go_wp2_with fail
          go_roundw
          case rel => exact ⟨j + 1, xs.eraseIdx r, k' + 2, by omega, by go_num, ho7, hl7, HXS7, by omega, HSP7, HON7⟩
          case measure => simp [intOf]; omega
        · go_upto_region 11 with fail
          obtain ⟨gx, cx', ex, hcx, hgx, cs, hBx⟩ := own0' HO5.out hne0
          cases ex
          obtain ⟨x0, rc1, rc2, rc3⟩ := cellS' HO5.out hrl
          have HO6 := Lib.hid (setS' HO5.out hrl ⟨#[110, 101, 119]⟩)
          have HON6 := Lib.hid (HON5.out.setCell (p := ⟨gx, r, none⟩) (by show g ≤ gx; omega) hgx (.string ⟨#[110, 101, 119]⟩))
          have HSP6 := Lib.hid (HSP5.out.keep (w' := w5.setCell ⟨gx, r, none⟩ (.string ⟨#[110, 101, 119]⟩)) (by simp [World.setCell]) fun b hb => Below.heap_setCell _ _ _ _ (by show b ≠ gx; omega))
          have HXS6 : Hid (∀ s ∈ xs.set r ⟨#[110, 101, 119]⟩, LnOk s) := Lib.hid fun s hs => by
            rcases List.mem_or_eq_of_mem_set hs with h | rfl
            · exact HXS.out s h
            · decide
          go_wp2_with fail
          go_roundw
          case rel => exact ⟨j + 1, xs.set r ⟨#[110, 101, 119]⟩, k' + 2, by omega, by go_num, (by first | exact HO6 | (rw [List.length_set]; exact HO6)), by rw [List.length_set]; omega, HXS6, by omega, HSP6, HON6⟩
          case measure => simp [intOf]; omega
      · have hri : ¬ (r : Int) < (xs.length : Int) := by omega
        rcases hq with rfl | rfl | rfl
        · by_cases h20 : xs.length < 20
          · have h20i : (xs.length : Int) < 20 := by omega
            go_wp2_with fail
            refine (mk2 B w5 g (k' + 2) HSP5.out (by omega)).mono ?_
            rintro e w6 ⟨v6, ys, k6, rfl, hoy, hyl, hyo, hk6, hsp6, ho6⟩
            obtain ⟨Ay, cy, rfl, hcy, _⟩ := hoy.form
            have HO6 : Own strE 9 w.heap.size w6 (.slice Ax xs.length cx) xs := HO5.out.keep ho6.below.size fun b hb => ho6.other b (HO5.out.lt b hb).2 (by have := (HO5.out.lt b hb).1; omega)
            have hneb : ∀ b, (Value.slice Ax xs.length cx).ownBlock = some b → (Value.slice Ay ys.length cy).ownBlock ≠ some b := fun b h1 h2 => by
              have := (HO5.out.lt b h1).2
              have := (hoy.lt b h2).1
              omega
            have HON6 := HON5.out.trans ho6
            have hIN := ins_spec (B := w.heap.size) r w6 HO6 hoy hneb HON6.below.size hr (by omega)
            clear HO6 hneb hoy ho6
            go_wp2_with fail
            refine hIN.mono ?_
            rintro e w7 ⟨v7, rfl, ho7, hb7, _⟩
            have HON7 := Lib.hid (Only.nextB HON6 hb7 (by omega) (Nat.le_refl _))
            have HSP7 := Lib.hid (hsp6.below hb7 hBw)
            have HXS7 : Hid (∀ s ∈ insL xs ys r, LnOk s) := Lib.hid fun s hs => by
              rcases mem_insL hs with h | h
              · exact HXS.out s h
              · exact hyo s h
            have hl7 := len_insL xs ys r
            clear hIN HON6 hsp6 hb7 hyo
            go_wp2_with fail
            go_roundw
            case rel => exact ⟨j + 1, insL xs ys r, k6, by omega, by go_num, ho7, by omega, HXS7, by omega, HSP7, HON7⟩
            case measure => simp [intOf]; omega
          · have h20i : ¬ (xs.length : Int) < 20 := by omega
            go_wp2_with fail
            go_roundw
            case rel => exact ⟨j + 1, xs, k' + 2, by omega, by go_num, HO5, hxl, HXS, by omega, HSP5, HON5⟩
            case measure => simp [intOf]; omega
        · go_wp2_with fail
          go_roundw
          case rel => exact ⟨j + 1, xs, k' + 2, by omega, by go_num, HO5, hxl, HXS, by omega, HSP5, HON5⟩
          case measure => simp [intOf]; omega
        · go_wp2_with fail
          go_roundw
          case rel => exact ⟨j + 1, xs, k' + 2, by omega, by go_num, HO5, hxl, HXS, by omega, HSP5, HON5⟩
          case measure => simp [intOf]; omega
    · have hji : ¬ (j : Int) < (m : Int) := by omega
      go_wp2_with fail
      go_ret
      exact ⟨_, rfl, xs, HO.out, hxl, HXS.out, k', by have : 20 * j ≤ 20 * most := Nat.mul_le_mul (Nat.le_refl _) (by omega); omega, HSP.out, HON.out⟩
end Fl
end Go.Proofs.YtekkhnjepcebkaaGreatDoor
