/- slices.Repeat of one number. Condition: at most a thousand. -/
import Derived.Test.YtkhmkpcihphkcaaDoorFlP
import Derived.Test.YtkhmkpcihphkcaaDoorCopyE
import Derived.Shelf.Bits.Mul64
import Derived.BigRegion
set_option linter.unusedVariables false
set_option linter.unusedSimpArgs false
namespace Go.Proofs.YtkhmkpcihphkcaaDoor
-- slices.Repeat of one number. Condition: at most a thousand.
namespace Fl
open Go.RowKit Go.Shelf
set_option maxRecDepth 100000

def mulRen : Ren := ⟨fun x => match x with | 212 => 104 | 263 => 126 | 264 => 127 | n => n,
  fun x => match x with | 46 => 154 | 51 => 175 | 146 => 176 | 53 => 116 | 148 => 178 | n => n, fun n => n⟩
theorem mulLays : Lays.n212 Tryd.prog mulRen where
  mixed := by kernel_rfl
  f212 := by kernel_rfl
  f263 := by kernel_rfl
  f264 := by kernel_rfl
  t46 := by kernel_rfl
  a46 := fun _ => by kernel_rfl
  z46 := fun _ => by kernel_rfl
  v46 := fun _ => by kernel_rfl
  t51 := by kernel_rfl
  a51 := fun _ => by kernel_rfl
  z51 := fun _ => by kernel_rfl
  v51 := fun _ => by kernel_rfl
  t53 := by kernel_rfl
  a53 := fun _ => by kernel_rfl
  z53 := fun _ => by kernel_rfl
  v53 := fun _ => by kernel_rfl
  t146 := by kernel_rfl
  a146 := fun _ => by kernel_rfl
  z146 := fun _ => by kernel_rfl
  v146 := fun _ => by kernel_rfl
  t148 := by kernel_rfl
  a148 := fun _ => by kernel_rfl
  z148 := fun _ => by kernel_rfl
  v148 := fun _ => by kernel_rfl
theorem zero_int : ∃ i z, (Tryd.prog).info? 3 = some i ∧ i.zero = some z ∧ z.cells.toList = intE.cells 0 := by
  obtain ⟨i, h1, h2, _⟩ := info_parts (P := Tryd.prog) (e := 3) (z := iv 0) (size := 1) (bytes := 8) (by kernel_rfl)
  exact ⟨i, iv 0, h1, h2, rfl⟩
theorem mul_spec (n : Nat) (h : n ≤ 1000) (w : World) : Calls Tryd.prog 104 #[.int .u64 1, .int .u64 n] w fun e w' => e = .returned (.tuple #[.int .u64 0, .int .u64 n]) ∧ w = w' := by
  have := Any.bits_Mul mulLays 1 n (by omega) (by omega) w
  rw [Nat.one_mul, Nat.div_eq_of_lt (by omega), Nat.mod_eq_of_lt (by omega)] at this
  exact this.mono fun _ _ h => ⟨h.1, h.2.symm⟩
theorem rep_splice (x : Int) (n k m : Nat) (h : k + m ≤ n) : splice (List.replicate k x ++ List.replicate (n - k) 0) k (List.replicate m x) = List.replicate (k + m) x ++ List.replicate (n - (k + m)) 0 := by
  unfold splice
  rw [List.take_append_of_le_length (by simp), List.take_of_length_le (by simp), List.drop_append, List.drop_of_length_le (by simp), List.drop_replicate, List.nil_append, List.length_replicate, List.length_replicate, ← List.append_assoc, List.replicate_append_replicate]
  congr 2
  omega
theorem rep_at (x : Int) (n k j : Nat) (y : Int) (m : Nat) (hm : m ≤ k) (h : (List.replicate m x)[j]? = some y) : ((List.replicate k x ++ List.replicate (n - k) 0).map iv).toArray[j]? = some (iv y) := by
  have hj : j < m := by have := (List.getElem?_eq_some_iff.1 h).1; simpa using this
  rw [List.getElem?_replicate, if_pos hj] at h
  injection h with h
  subst h
  simp [List.getElem?_append_left, List.getElem?_replicate, show j < k by omega]
set_option maxHeartbeats 4000000 in
theorem repeat1_at (x : Int) (n : Nat) (w : World) (hn : n ≤ 1000) (g : Nat) (hg : g < w.heap.size) (hx0 : w.cell? ⟨g, 0, none⟩ = some (iv x)) : Calls Tryd.prog 51 #[.slice (some ⟨g, 0, none⟩) 1 1, iv n] w fun e w' =>
    ∃ v, e = .returned v ∧ Own intE 3 w.heap.size w' v (List.replicate n x) ∧ Below w.heap.size w w' := by
  have hsz : ((Tryd.prog).info? 3).map (·.size) = some 1 := by kernel_rfl
  by_cases h0 : n = 0
  · subst h0
    go_enter Tryd.func51, Tryd.ntmps51
    go_wp2_with (first
      | (go_at_call 104; refine (mul_spec 0 (by omega) _).mono ?_; rintro e w1 ⟨rfl, rfl⟩)
      | (at_make; refine wpMakeN intE tyInts 0 zero_int rfl _ _ rfl 0 rfl rfl (by unfold big; omega) ?_; intro w1 hown1 hb1; have hfull := hown1.full; rw [flat_int] at hfull; obtain ⟨hB1, hB1'⟩ := hfull;
         obtain ⟨w2, hcp, hB2, hb2⟩ := run_copyG (ty := 3) (ys := []) Tryd.underlying62 hsz hB1 0 0 0 1 1 rfl (b := g) (off := 0) (fun j y h => by cases h) (by simp)))
    go_loopw [8] (fun k wr => k = iv 0 ∧ wr = w2) (fun _ _ => 0)
    case atStart => exact ⟨rfl, rfl⟩
    case round =>
      obtain ⟨rfl, rfl⟩ := hrel
      go_wp2
      go_ret
      refine ⟨_, rfl, ?_, hb1.trans hb2⟩
      exact Own.ofBlk (xs := []) (by simpa [splice] using hB2) (Nat.le_refl _) (by simp [maxLen])
  · go_enter Tryd.func51, Tryd.ntmps51
    go_wp2_with (first
      | (go_at_call 104; refine (mul_spec n hn _).mono ?_; rintro e w1 ⟨rfl, rfl⟩)
      | (at_make; refine wpMakeN intE tyInts 0 zero_int rfl _ _ rfl n rfl rfl (by unfold big; omega) ?_; intro w1 hown1 hb1; have hfull := hown1.full; rw [flat_int] at hfull; obtain ⟨hB1, hB1'⟩ := hfull;
         obtain ⟨w2, hcp, hB2, hb2⟩ := run_copyG (ty := 3) (ys := [x]) Tryd.underlying62 hsz hB1 0 n n 1 1 ((Nat.min_eq_left (show 1 ≤ n by omega)).symm) (b := g) (off := 0) (fun j y h => by
           match j, h with
           | 0, h => (injection h with h; subst h; exact (hb1.cell (p := ⟨g, 0, none⟩) hg).trans hx0)) (by simp; omega)))
    have hB2' : Blk w2 w.heap.size 3 ((List.replicate 1 x ++ List.replicate (n - 1) 0).map iv).toArray := by
      have := rep_splice x n 0 1 (by omega)
      simp only [Nat.zero_add, List.replicate_zero, List.nil_append, Nat.sub_zero] at this
      rw [← this]
      exact hB2
    have hbA := hb1.trans hb2
    clear hB2 hcp hown1 hB1 hb1 hb2 hB1'
    go_loopw [8] (fun k wr => ∃ i : Nat, k = iv i ∧ 1 ≤ i ∧ i ≤ n ∧ Blk wr w.heap.size 3 ((List.replicate i x ++ List.replicate (n - i) 0).map iv).toArray ∧ Below w.heap.size w wr) (fun k _ => n - (intOf k).toNat)
    case atStart => exact ⟨1, rfl, by omega, by omega, hB2', hbA⟩
    case round =>
      obtain ⟨i, rfl, hi1, hin, hB, hb⟩ := hrel
      by_cases hlt : i < n
      · obtain ⟨m, hm⟩ : ∃ m, m = Nat.min i (n - i) := ⟨_, rfl⟩
        have hm1 : 1 ≤ m := by rw [hm]; exact Nat.le_min.2 ⟨by omega, by omega⟩
        have hm2 : m ≤ i := by rw [hm]; exact Nat.min_le_left _ _
        have hm3 : m ≤ n - i := by rw [hm]; exact Nat.min_le_right _ _
        obtain ⟨w3, hcp, hB3, hb3⟩ := run_copyG (P := Tryd.prog) (ty := 3) (w := wr.drew) (ys := List.replicate m x) Tryd.underlying62 hsz (show Blk wr.drew w.heap.size _ _ from hB) i (n - i) (n - i) i n (by rw [List.length_replicate]; exact hm) (b := w.heap.size) (off := 0) (fun j y h => by
          rw [Nat.zero_add, (show Blk wr.drew w.heap.size _ _ from hB).cell j]
          exact rep_at x n i j y m hm2 h) (by simp; omega)
        rw [rep_splice x n i m (by omega)] at hB3
        rw [List.length_replicate] at hcp
        have HB3 := Lib.hid hB3
        clear hB3
        go_wp2
        have ha1 : IntKind.i64.wrap ((i : Int) + (m : Int)) = ((i + m : Nat) : Int) := IntWalk.i64_in _ (by omega)
        clear hm
        go_region
        clear hcp ha1
        go_roundw
        case rel => exact ⟨_, _, _, _, _, _, _, _, _, _, _, _, _, _, ⟨i + m, rfl, by omega, by omega, HB3.out, hb.drew.trans hb3⟩, by push_cast; rfl⟩
        case measure => simp [intOf]; omega
      · obtain rfl : i = n := by omega
        go_wp2
        go_ret
        refine ⟨_, rfl, ?_, hb⟩
        have := Own.ofBlk (E := intE) (B := w.heap.size) (xs := List.replicate i x) (by rw [flat_int]; simpa using hB) (Nat.le_refl _) (by simp [maxLen]; omega)
        simpa using this
end Fl
end Go.Proofs.YtkhmkpcihphkcaaDoor
