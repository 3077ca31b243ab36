/- slices.Repeat of one number. Condition: at most a thousand. -/
import Derived.Test.YtekkhnjepcebkaaGreatDoorFlP
import Derived.Test.YtekkhnjepcebkaaGreatDoorCopyE
import Derived.Shelf.Bits.Mul64
import Derived.BigRegion
import Derived.Test.YtekkhnjepcebkaaGreatDoorFlJ
import Derived.Test.YtekkhnjepcebkaaGreatDoorFlK
import Derived.Test.YtekkhnjepcebkaaGreatDoorFree
import Derived.Test.YtekkhnjepcebkaaGreatDoorFlW
import Derived.ArgAppend
set_option linter.unusedVariables false
set_option linter.unusedSimpArgs false
namespace Go.Proofs.YtekkhnjepcebkaaGreatDoor
-- slices.Repeat of one number. Condition: at most a thousand.
namespace Fl
open Go.RowKit Go.Shelf
set_option maxRecDepth 100000

def mulRen : Ren := ⟨fun x => match x with | 212 => 139 | 263 => 178 | 264 => 179 | n => n,
  fun x => match x with | 46 => 192 | 51 => 230 | 146 => 231 | 53 => 146 | 148 => 233 | n => n, fun n => n⟩
theorem mulLays : Lays.n212 Tryz.prog mulRen where
  mixed := by kernel_rfl
  f212 := by kernel_rfl
  f263 := by kernel_rfl
  f264 := by kernel_rfl
  t46 := by kernel_rfl
  a46 := fun _ => by kernel_rfl
  z46 := fun _ => by kernel_rfl
  v46 := fun _ => by kernel_rfl
  t51 := by kernel_rfl
  a51 := fun _ => by kernel_rfl
  z51 := fun _ => by kernel_rfl
  v51 := fun _ => by kernel_rfl
  t53 := by kernel_rfl
  a53 := fun _ => by kernel_rfl
  z53 := fun _ => by kernel_rfl
  v53 := fun _ => by kernel_rfl
  t146 := by kernel_rfl
  a146 := fun _ => by kernel_rfl
  z146 := fun _ => by kernel_rfl
  v146 := fun _ => by kernel_rfl
  t148 := by kernel_rfl
  a148 := fun _ => by kernel_rfl
  z148 := fun _ => by kernel_rfl
  v148 := fun _ => by kernel_rfl
theorem zero_int : ∃ i z, (Tryz.prog).info? 3 = some i ∧ i.zero = some z ∧ z.cells.toList = intE.cells 0 := by
  obtain ⟨i, h1, h2, _⟩ := info_parts (P := Tryz.prog) (e := 3) (z := iv 0) (size := 1) (bytes := 8) (by kernel_rfl)
  exact ⟨i, iv 0, h1, h2, rfl⟩
theorem mul_spec (n : Nat) (h : n ≤ 1000) (w : World) : Calls Tryz.prog 139 #[.int .u64 1, .int .u64 n] w fun e w' => e = .returned (.tuple #[.int .u64 0, .int .u64 n]) ∧ w = w' := by
  have := Any.bits_Mul mulLays 1 n (by omega) (by omega) w
  rw [Nat.one_mul, Nat.div_eq_of_lt (by omega), Nat.mod_eq_of_lt (by omega)] at this
  exact this.mono fun _ _ h => ⟨h.1, h.2.symm⟩
theorem rep_splice (x : Int) (n k m : Nat) (h : k + m ≤ n) : splice (List.replicate k x ++ List.replicate (n - k) 0) k (List.replicate m x) = List.replicate (k + m) x ++ List.replicate (n - (k + m)) 0 := by
  unfold splice
  rw [List.take_append_of_le_length (by simp), List.take_of_length_le (by simp), List.drop_append, List.drop_of_length_le (by simp), List.drop_replicate, List.nil_append, List.length_replicate, List.length_replicate, ← List.append_assoc, List.replicate_append_replicate]
  congr 2
  omega
theorem rep_at (x : Int) (n k j : Nat) (y : Int) (m : Nat) (hm : m ≤ k) (h : (List.replicate m x)[j]? = some y) : ((List.replicate k x ++ List.replicate (n - k) 0).map iv).toArray[j]? = some (iv y) := by
  have hj : j < m := by have := (List.getElem?_eq_some_iff.1 h).1; simpa using this
  rw [List.getElem?_replicate, if_pos hj] at h
  injection h with h
  subst h
  simp [List.getElem?_append_left, List.getElem?_replicate, show j < k by omega]
set_option maxHeartbeats 4000000 in
theorem repeat1_at (x : Int) (n : Nat) (w : World) (hn : n ≤ 1000) (g : Nat) (hg : g < w.heap.size) (hx0 : w.cell? ⟨g, 0, none⟩ = some (iv x)) : Calls Tryz.prog 85 #[.slice (some ⟨g, 0, none⟩) 1 1, iv n] w fun e w' =>
    ∃ v, e = .returned v ∧ Own intE 3 w.heap.size w' v (List.replicate n x) ∧ Below w.heap.size w w' := by
  have hsz : ((Tryz.prog).info? 3).map (·.size) = some 1 := by kernel_rfl
  by_cases h0 : n = 0
  · subst h0
    go_enter Tryz.func85, Tryz.ntmps85
    go_wp2_with (first
      | (go_at_call 139; refine (mul_spec 0 (by omega) _).mono ?_; rintro e w1 ⟨rfl, rfl⟩)
      | (at_make; refine wpMakeN intE tyInts 0 zero_int rfl _ _ rfl 0 rfl rfl (by unfold big; omega) ?_; intro w1 hown1 hb1; have hfull := hown1.full; rw [flat_int] at hfull; obtain ⟨hB1, hB1'⟩ := hfull;
         obtain ⟨w2, hcp, hB2, hb2⟩ := run_copyG (ty := 3) (ys := []) Tryz.underlying33 hsz hB1 0 0 0 1 1 rfl (b := g) (off := 0) (fun j y h => by cases h) (by simp)))
    go_loopw [8] (fun k wr => k = iv 0 ∧ wr = w2) (fun _ _ => 0)
    case atStart => exact ⟨rfl, rfl⟩
    case round =>
      obtain ⟨rfl, rfl⟩ := hrel
      go_wp2
      go_ret
      refine ⟨_, rfl, ?_, hb1.trans hb2⟩
      exact Own.ofBlk (xs := []) (by simpa [splice] using hB2) (Nat.le_refl _) (by simp [maxLen])
  · go_enter Tryz.func85, Tryz.ntmps85
    go_wp2_with (first
      | (go_at_call 139; refine (mul_spec n hn _).mono ?_; rintro e w1 ⟨rfl, rfl⟩)
      | (at_make; refine wpMakeN intE tyInts 0 zero_int rfl _ _ rfl n rfl rfl (by unfold big; omega) ?_; intro w1 hown1 hb1; have hfull := hown1.full; rw [flat_int] at hfull; obtain ⟨hB1, hB1'⟩ := hfull;
         obtain ⟨w2, hcp, hB2, hb2⟩ := run_copyG (ty := 3) (ys := [x]) Tryz.underlying33 hsz hB1 0 n n 1 1 ((Nat.min_eq_left (show 1 ≤ n by omega)).symm) (b := g) (off := 0) (fun j y h => by
           match j, h with
           | 0, h => (injection h with h; subst h; exact (hb1.cell (p := ⟨g, 0, none⟩) hg).trans hx0)) (by simp; omega)))
    have hB2' : Blk w2 w.heap.size 3 ((List.replicate 1 x ++ List.replicate (n - 1) 0).map iv).toArray := by
      have := rep_splice x n 0 1 (by omega)
      simp only [Nat.zero_add, List.replicate_zero, List.nil_append, Nat.sub_zero] at this
      rw [← this]
      exact hB2
    have hbA := hb1.trans hb2
    clear hB2 hcp hown1 hB1 hb1 hb2 hB1'
    go_loopw [8] (fun k wr => ∃ i : Nat, k = iv i ∧ 1 ≤ i ∧ i ≤ n ∧ Blk wr w.heap.size 3 ((List.replicate i x ++ List.replicate (n - i) 0).map iv).toArray ∧ Below w.heap.size w wr) (fun k _ => n - (intOf k).toNat)
    case atStart => exact ⟨1, rfl, by omega, by omega, hB2', hbA⟩
    case round =>
      obtain ⟨i, rfl, hi1, hin, hB, hb⟩ := hrel
      by_cases hlt : i < n
      · obtain ⟨m, hm⟩ : ∃ m, m = Nat.min i (n - i) := ⟨_, rfl⟩
        have hm1 : 1 ≤ m := by rw [hm]; exact Nat.le_min.2 ⟨by omega, by omega⟩
        have hm2 : m ≤ i := by rw [hm]; exact Nat.min_le_left _ _
        have hm3 : m ≤ n - i := by rw [hm]; exact Nat.min_le_right _ _
        obtain ⟨w3, hcp, hB3, hb3⟩ := run_copyG (P := Tryz.prog) (ty := 3) (w := wr.drew) (ys := List.replicate m x) Tryz.underlying33 hsz (show Blk wr.drew w.heap.size _ _ from hB) i (n - i) (n - i) i n (by rw [List.length_replicate]; exact hm) (b := w.heap.size) (off := 0) (fun j y h => by
          rw [Nat.zero_add, (show Blk wr.drew w.heap.size _ _ from hB).cell j]
          exact rep_at x n i j y m hm2 h) (by simp; omega)
        rw [rep_splice x n i m (by omega)] at hB3
        rw [List.length_replicate] at hcp
        have HB3 := Lib.hid hB3
        clear hB3
        go_wp2
        have ha1 : IntKind.i64.wrap ((i : Int) + (m : Int)) = ((i + m : Nat) : Int) := IntWalk.i64_in _ (by omega)
        clear hm
        go_region
        clear hcp ha1
        go_roundw
        case rel => exact ⟨_, _, _, _, _, _, _, _, _, _, _, _, _, _, ⟨i + m, rfl, by omega, by omega, HB3.out, hb.drew.trans hb3⟩, by push_cast; rfl⟩
        case measure => simp [intOf]; omega
      · obtain rfl : i = n := by omega
        go_wp2
        go_ret
        refine ⟨_, rfl, ?_, hb⟩
        have := Own.ofBlk (E := intE) (B := w.heap.size) (xs := List.replicate i x) (by rw [flat_int]; simpa using hB) (Nat.le_refl _) (by simp [maxLen]; omega)
        simpa using this
end Fl
end Go.Proofs.YtekkhnjepcebkaaGreatDoor
-- Package file: the versions in which lines came, of files that are right. Conditions: few versions.
namespace Go.Proofs.YtekkhnjepcebkaaGreatDoor
namespace File
def putGo (old : List Int) (acc : List Int) (l : List (Nat × Nat)) : List Int := l.foldl (fun acc p => acc.set p.2 (old.getD p.1 0)) acc
/-- For each line of the v-th file the version in which it came. -/
def sinceAt (V : List (List ByteArray)) : Nat → List Int
  | 0 => List.replicate (V.getD 0 []).length 0
  | v + 1 => putGo (sinceAt V v) (List.replicate (V.getD (v + 1) []).length ((v + 1 : Nat) : Int)) (common (V.getD v []) (V.getD (v + 1) []))
theorem put_len (old : List Int) : ∀ (l : List (Nat × Nat)) (acc : List Int), (putGo old acc l).length = acc.length
  | [], _ => rfl
  | p :: l, acc => by
    show (putGo old (acc.set p.2 (old.getD p.1 0)) l).length = _
    rw [put_len old l, List.length_set]
theorem since_len (V : List (List ByteArray)) : ∀ v, (sinceAt V v).length = (V.getD v []).length
  | 0 => by simp [sinceAt]
  | v + 1 => by
    unfold sinceAt
    rw [put_len, List.length_replicate]
theorem put_snoc (old acc : List Int) (l : List (Nat × Nat)) (p : Nat × Nat) : putGo old acc (l ++ [p]) = (putGo old acc l).set p.2 (old.getD p.1 0) := by
  unfold putGo
  rw [List.foldl_append]; rfl
theorem since_take (V : List (List ByteArray)) (n : Nat) : ∀ v, v < n → sinceAt (V.take n) v = sinceAt V v
  | 0, h => by
    unfold sinceAt
    have : (V.take n).getD 0 [] = V.getD 0 [] := by simp [List.getD_eq_getElem?_getD, List.getElem?_take, h]
    rw [this]
  | v + 1, h => by
    have ih := since_take V n v (by omega)
    have e1 : (V.take n).getD v [] = V.getD v [] := by simp [List.getD_eq_getElem?_getD, List.getElem?_take, show v < n by omega]
    have e2 : (V.take n).getD (v + 1) [] = V.getD (v + 1) [] := by simp [List.getD_eq_getElem?_getD, List.getElem?_take, h]
    unfold sinceAt
    rw [ih, e1, e2]
theorem common_at {a b : List ByteArray} {p : Nat × Nat} (h : p ∈ common a b) : p.1 < a.length ∧ p.2 < b.length := by
  have : ∀ (l : List (Nat × Nat)) (i j : Nat), Pairs a b i j l → p ∈ l → p.1 < a.length ∧ p.2 < b.length := by
    intro l
    induction l with
    | nil => intro i j _ h; cases h
    | cons q r ih =>
      intro i j ⟨_, _, ⟨h1, h2, _⟩, h4⟩ hm
      rcases List.mem_cons.1 hm with rfl | hm
      · exact ⟨h1, h2⟩
      · exact ih _ _ h4 hm
  exact this _ 0 0 (common_pairs a b) h
end File
namespace Fl
open Go.RowKit
set_option maxRecDepth 100000
theorem ownI {e : TypeId} {B : Nat} {w : World} {v : Value} {xs : List Int} (h : Own intE e B w v xs) {k : Nat} (hk : k < xs.length) : ∃ g c x, v = .slice (some ⟨g, 0, none⟩) xs.length c ∧ B ≤ g ∧ g < w.heap.size ∧ xs[k]? = some x ∧ w.cell? ⟨g, k, none⟩ = some (iv x) ∧ ∀ o, w.frozen? ⟨g, o, none⟩ = false := by
  rcases h.2 with ⟨_, hn⟩ | ⟨g, cap, cur, rfl, hb, hg, hc, _⟩
  · have := List.eq_nil_of_length_eq_zero hn; subst this; simp at hk
  · obtain ⟨b, off, x, hA, _, hx, hcell⟩ := Sl.atI h.sl hk
    cases hA
    rw [Nat.zero_add] at hcell
    exact ⟨g, cap, x, rfl, hb, Blk.lt (t := e) (cs := cur) hg, hx, hcell, Blk.frozen (t := e) (cs := cur) hg⟩
theorem setI {e : TypeId} {B : Nat} {w : World} {g n c : Nat} {xs : List Int} (h : Own intE e B w (.slice (some ⟨g, 0, none⟩) n c) xs) {k : Nat} (hk : k < xs.length) (y : Int) : Own intE e B (w.setCell ⟨g, k, none⟩ (iv y)) (.slice (some ⟨g, 0, none⟩) n c) (xs.set k y) := by
  have := Own.setAt h (k := k) (j := 0) (x := xs[k]) (y := y) (u := iv y) (List.getElem?_eq_getElem hk) rfl (by decide)
  simpa [intE] using this
set_option maxHeartbeats 8000000 in
theorem since_spec (A : Option Addr) (rs : List (Rw ByteArray)) (c : Nat) (w : World) (n : Nat) (hn : rs.length = n + 1) (hm : n ≤ 100) (hs : Sl (rwE ByteArray) w A rs) (hr : RowsR strE w rs) (hg : ∀ r ∈ rs, Good r.xs) :
    Calls Tryz.prog 17 #[.slice A rs.length c] w fun e w' => ∃ v, e = .returned (.tuple #[v, iv 0]) ∧ Own intE 3 w.heap.size w' v (File.sinceAt (rs.map Rw.xs) n) ∧ Below w.heap.size w w' := by
  obtain ⟨V, hV⟩ : ∃ V, V = rs.map Rw.xs := ⟨_, rfl⟩
  rw [← hV]
  have HV : Hid (∀ (k : Nat) (x : Rw ByteArray), rs[k]? = some x → V.getD k [] = x.xs) := Lib.hid fun k x h => by rw [hV, List.getD_eq_getElem?_getD, List.getElem?_map, h]; rfl
  have HG := Lib.hid hg
  have HRR := Lib.hid fun W (h : Below w.heap.size w W) => hr.below h
  have hm0 : ((rs.length : Int) == 0) = false := by simp; intro h; rw [h] at hn; simp at hn
  have hrl : rs.length ≤ 101 := by omega
  have HN := Lib.hid hn
  clear hV hg hr hn
  go_enter Tryz.func17, Tryz.ntmps17
  go_wp2_with fail
  go_loopw [5, 6, 15] (fun _ _ i wr => ∃ k : Nat, k ≤ rs.length ∧ i = iv k ∧ Below w.heap.size w wr) (fun _ _ i _ => rs.length - (intOf i).toNat)
  case atStart => exact ⟨0, by omega, rfl, Below.refl _ _⟩
  case round =>
    obtain ⟨k, hk, rfl, hbr⟩ := hrel
    by_cases hlt : k < rs.length
    · have hki : (k : Int) < (rs.length : Int) := by omega
      obtain ⟨b, off, x, rfl, hb0, hx, hc0⟩ := Sl.atRw (hs.below hbr) hlt
      have hgx := HG.out x (mem_at hx)
      have hxr := HRR.out _ hbr x (mem_at hx)
      have HC := Lib.hid (check_spec x.A x.xs x.c wr (by have := hgx.many; unfold big; omega) hxr.1)
      rw [check_of_good hgx] at HC
      clear hx hgx hxr
      go_wp2_with fail
      refine HC.out.mono ?_
      rintro _ w1 ⟨rfl, hb1⟩
      go_wp2_with fail
      go_roundw
      case rel => exact ⟨k + 1, by omega, by go_num, hbr.next hb1 (Nat.le_refl _)⟩
      case measure => simp [intOf]; omega
    · have hki : ¬ (k : Int) < (rs.length : Int) := by omega
      clear hk hlt
      generalize wr = w2 at *
      have hb02 := hbr
      go_wp2_with fail
      go_loopw [7, 8, 9, 10, 12, 30] (fun v _ _ _ _ i wr => ∃ k : Nat, k ≤ rs.length ∧ i = iv k ∧ Hid (Own intE 3 w2.heap.size wr v (if k = 0 then [] else File.sinceAt V (k - 1))) ∧ Below w2.heap.size w2 wr) (fun _ _ _ _ _ i _ => rs.length - (intOf i).toNat)
      case atStart => exact ⟨0, by omega, rfl, Own.nil, Below.refl _ _⟩
      case round =>
        obtain ⟨k, hk, rfl, HO, hbr⟩ := hrel
        have hb0r := hb02.next hbr (Nat.le_refl _)
        by_cases hlt : k < rs.length
        · have hki : (k : Int) < (rs.length : Int) := by omega
          obtain ⟨b, off, fr, rfl, hb0, hx, hc0⟩ := Sl.atRw (hs.below hb0r) hlt
          have hgx := HG.out fr (mem_at hx)
          have hxm := hgx.many
          have hxv := HV.out k fr hx
          have HRP := Lib.hid (repeat1_at (k : Int) fr.xs.length (wr.alloc (.cells #[iv (k : Int)] 3)) (by omega) wr.heap.size (by simp) (by simp [go_sem]))
          have hbA : Below wr.heap.size wr (wr.alloc (.cells #[iv (k : Int)] 3)) := (Below.refl _ _).alloc (Nat.le_refl _) _
          have hxr := fun W (h : Below wr.heap.size wr W) => HRR.out W (hb0r.next h (Nat.le_refl _)) fr (mem_at hx)
          by_cases hk0 : k = 0
          · have hkz : ¬ (0 : Int) < (k : Int) := by omega
            have HS0 : Hid (List.replicate fr.xs.length (k : Int) = File.sinceAt V k) := Lib.hid (by rw [hk0]; unfold File.sinceAt; rw [← hk0, hxv, hk0]; rfl)
            clear hx hxr hxv hk0
            go_wp2_with fail
            refine HRP.out.mono ?_
            rintro _ w5 ⟨v5, rfl, ho5, hb5⟩
            have hbr5 := (hbr.next hbA (Nat.le_refl _)).next hb5 (Nat.le_refl _)
            go_wp2_with fail
            go_roundw
            case rel => exact ⟨k + 1, by omega, by go_num, Lib.hid (by rw [if_neg (by omega), Nat.add_sub_cancel, ← HS0.out]; exact ho5.base (hbr.next hbA (Nat.le_refl _)).size), hbr5⟩
            case measure => simp [intOf]; omega
          · obtain ⟨q, hq⟩ : ∃ q, k = q + 1 := ⟨k - 1, by omega⟩
            have hkz : (0 : Int) < (k : Int) := by omega
            have hql : q < rs.length := by omega
            have hqli : (q : Int) < (rs.length : Int) := by omega
            have eq2 : (k : Int) - 1 = (q : Int) := by omega
            have eq3 : IntKind.i64.wrap (q : Int) = (q : Int) := IntWalk.i64_in _ (by omega)
            have eq1 : IntKind.i64.wrap ((k : Int) - 1) = (q : Int) := by rw [eq2]; exact eq3
            obtain ⟨b', off', y, hA', _, hy, hd0⟩ := Sl.atRw (hs.below hb0r) hql
            injection hA' with hA'
            injection hA' with e1 e2 _
            subst e1; subst e2
            have hgy := HG.out y (mem_at hy)
            have hym := hgy.many
            have hyv := HV.out q y hy
            have hyr := fun W (h : Below wr.heap.size wr W) => HRR.out W (hb0r.next h (Nat.le_refl _)) y (mem_at hy)
            have hOO := HO.out
            rw [if_neg hk0, show k - 1 = q by omega] at hOO
            have hSS : File.sinceAt V k = File.putGo (File.sinceAt V q) (List.replicate fr.xs.length (k : Int)) (File.common y.xs fr.xs) := by
              have hx2 : V.getD (q + 1) [] = fr.xs := by rw [← hq]; exact hxv
              rw [hq]
              show File.putGo (File.sinceAt V q) (List.replicate (V.getD (q + 1) []).length ((q + 1 : Nat) : Int)) (File.common (V.getD q []) (V.getD (q + 1) [])) = _
              rw [hx2, hyv]
            have holn : (File.sinceAt V q).length = y.xs.length := by rw [File.since_len, hyv]
            obtain ⟨S0, hS0⟩ : ∃ S0, S0 = File.sinceAt V q := ⟨_, rfl⟩
            rw [← hS0] at hOO hSS holn
            obtain ⟨L, hL⟩ : ∃ L, L = File.common y.xs fr.xs := ⟨_, rfl⟩
            have HLM : Hid (∀ p ∈ L, p.1 < S0.length ∧ p.2 < fr.xs.length) := Lib.hid fun p hp => by
              rw [holn]; rw [hL] at hp; exact File.common_at hp
            have hLl : L.length ≤ 24 := by rw [hL, File.common_length]; exact Nat.le_trans (File.lcs_most _ _) hym
            have HCM := Lib.hid fun W (h : Below wr.heap.size wr W) => common_spec y.A y.xs y.c fr.A fr.xs fr.c W hym hxm (hyr W h).1 (hxr W h).1 (fun s hs => by have := hgy.wide s hs; omega) (fun s hs => by have := hgx.wide s hs; omega)
            rw [← hL] at hSS
            simp only [← hL] at HCM
            have HSS := Lib.hid hSS
            have HOO := Lib.hid hOO
            have HKQ := Lib.hid hq
            have hd1 := (hbA.cell (p := ⟨b, off + q, none⟩) hb0).trans hd0
            clear hx hxr hxv hk0 hq hy hyv hyr hOO hSS holn hS0 hL HO
            go_wp2_with fail
            refine HRP.out.mono ?_
            rintro _ w5 ⟨v5, rfl, ho5, hb5⟩
            have hbr5 := hbA.next hb5 (Nat.le_refl _)
            have hd5 := (hb5.cell (p := ⟨b, off + q, none⟩) (Nat.lt_of_lt_of_le hb0 hbA.size)).trans hd1
            have hb5s : b < w5.heap.size := Nat.lt_of_lt_of_le (Nat.lt_of_lt_of_le hb0 hbA.size) hb5.size
            go_wp2_with fail
            refine (HCM.out _ hbr5).mono ?_
            rintro _ w6 ⟨v6, rfl, ho6, hb6⟩
            obtain ⟨A6, c6, rfl, _, _⟩ := ho6.form
            have hbr6 := hbr5.next hb6 (Nat.le_refl _)
            have HL6 := Lib.hid (ho6.base hbr5.size)
            have ho5' : Own intE 3 wr.heap.size w6 v5 (List.replicate fr.xs.length (k : Int)) := (ho5.below hb6).base hbA.size
            have HOO6 := Lib.hid (HOO.out.below hbr6)
            clear ho5 hb5 hd5 hd1 hd0 ho6 hb6 HCM HRP hbA hc0
            generalize wr = w3 at *
            go_wp2_with fail
            go_loopw [12, 50] (fun _ i wx => ∃ j : Nat, j ≤ L.length ∧ i = iv j ∧ Hid (Own intE 3 w3.heap.size wx v5 (File.putGo S0 (List.replicate fr.xs.length (k : Int)) (L.take j))) ∧ Hid (Own intE 3 w2.heap.size wx u7 S0) ∧ Hid (Own pairE 137 w3.heap.size wx (.slice A6 L.length c6) L) ∧ Below w3.heap.size w6 wx) (fun _ i _ => L.length - (intOf i).toNat)
            case atStart => exact ⟨0, by omega, rfl, ho5', HOO6, HL6, Below.refl _ _⟩
            case round =>
              obtain ⟨j, hj, rfl, HNW, HOL, HLO, hbx⟩ := hrel
              by_cases hjl : j < L.length
              · have hji : (j : Int) < (L.length : Int) := by omega
                obtain ⟨bl, ol, p, hA6, hbl, hp, hc0, hc1⟩ := Sl.atPr HLO.out.sl hjl
                subst hA6
                obtain ⟨hp1, hp2⟩ := HLM.out p (mem_at hp)
                have htk : L.take (j + 1) = L.take j ++ [p] := by rw [List.take_add_one, hp]; rfl
                obtain ⟨px, py⟩ := p
                simp only at hp1 hp2 hc0 hc1
                have hnl : (File.putGo S0 (List.replicate fr.xs.length (k : Int)) (L.take j)).length = fr.xs.length := by rw [File.put_len, List.length_replicate]
                obtain ⟨gn, cn, x0, e5, hgn, hgnl, _, hcn, hfn⟩ := ownI HNW.out (k := py) (by rw [hnl]; exact hp2)
                rw [hnl] at e5
                subst e5
                obtain ⟨go_, co, ov, e7, _, hgol, hov, hco, _⟩ := ownI HOL.out (k := px) hp1
                subst e7
                have hgo3 : go_ < w3.heap.size := (HOO.out.lt go_ rfl).2
                have hne : go_ ≠ gn := by omega
                have hgd : S0.getD px 0 = ov := by rw [List.getD_eq_getElem?_getD, hov]; rfl
                have hbM : Below wr.heap.size wr (wr.alloc (.cells #[iv (px : Int), iv (py : Int)] 137)) := (Below.refl _ _).alloc (Nat.le_refl _) _
                have HBX : Hid (Blk (wr.alloc (.cells #[iv (px : Int), iv (py : Int)] 137)) wr.heap.size 137 #[iv (px : Int), iv (py : Int)]) := Lib.hid (Blk.new _ _ _)
                go_upto_region 19 with fail
                generalize wr.alloc (.cells #[iv (px : Int), iv (py : Int)] 137) = wM at *
                have HOC : Hid (∀ z, Below wM.heap.size wM z → z.cell? ⟨go_, px, none⟩ = some (iv ov)) := Lib.hid fun z h => ((hbM.next h (Nat.le_refl _)).cell (p := ⟨go_, px, none⟩) hgol).trans hco
                have HNC : Hid (∀ z, Below wM.heap.size wM z → z.cell? ⟨gn, py, none⟩ = some (iv x0) ∧ (∀ o, z.frozen? ⟨gn, o, none⟩ = false) ∧ gn < z.heap.size) := Lib.hid fun z h => ⟨((hbM.next h (Nat.le_refl _)).cell (p := ⟨gn, py, none⟩) hgnl).trans hcn, fun o => by
                  have := (hbM.next h (Nat.le_refl _)).block gn hgnl
                  have h2 := hfn o
                  unfold World.frozen? at h2 ⊢
                  simp only [this]
                  exact h2, Nat.lt_of_lt_of_le hgnl (hbM.next h (Nat.le_refl _)).size⟩
                have HNM := Lib.hid fun z (h : Below wM.heap.size wM z) => HNW.out.below (hbM.next h (Nat.le_refl _))
                have HOM := Lib.hid fun z (h : Below wM.heap.size wM z) => HOL.out.below (hbM.next h (Nat.le_refl _))
                have HLX := Lib.hid fun z (h : Below wM.heap.size wM z) => HLO.out.below (hbM.next h (Nat.le_refl _))
                have hpxi : (px : Int) < (S0.length : Int) := by omega
                have hpyi : (py : Int) < (fr.xs.length : Int) := by omega
                clear hc0 hc1 hp hcn hfn hco hov
                refine wp_free_lit (by kernel_rfl) 9 (by kernel_rfl) (by kernel_rfl) (by decide) (fun _ x => Below wM.heap.size wM x) (fun x x' => Below x.heap.size x x')
                  [fun _ u _ => u = .slice (some ⟨gn, 0, none⟩) fr.xs.length cn,
                   fun _ u _ => u = .pointer (some ⟨wr.heap.size, 1, none⟩),
                   fun _ u _ => u = iv (py : Int),
                   fun _ u _ => u = .slice (some ⟨go_, 0, none⟩) S0.length co,
                   fun _ u _ => u = .pointer (some ⟨wr.heap.size, 0, none⟩),
                   fun _ u _ => u = iv (px : Int),
                   fun _ u _ => u = .pointer (some ⟨go_, px, none⟩),
                   fun _ u _ => u = iv ov,
                   fun _ u _ => u = .pointer (some ⟨gn, py, none⟩)]
                  (Below.refl _ wM).drew ?_ ?_
                · simp only [List.take_succ_cons, List.take_zero, HopL]
                  refine ⟨?_, ?_, ?_, ?_, ?_, ?_, ?_, ?_, ?_, trivial⟩
                  · refine ⟨fun _ _ _ _ _ h => h, fun _ _ _ _ h _ => h, fun v n x hn hR hk => ?_⟩
                    simp only [List.take_succ_cons, List.take_zero, frameF, Act.put, List.setIfInBounds_toArray, List.set_cons_zero, List.set_cons_succ]
                    exact stepF_val (by first | rfl | simp [Region.wanted, yielded, *]) (by go_simp <;> omega) ⟨rfl, Below.refl _ _, hR⟩
                  · refine ⟨fun _ _ _ _ _ h => h, fun _ _ _ _ h _ => h, fun v n x hn hR hk => ?_⟩
                    simp only [List.take_succ_cons, List.take_zero, frameF, Act.put, List.setIfInBounds_toArray, List.set_cons_zero, List.set_cons_succ]
                    exact stepF_val (by first | rfl | simp [Region.wanted, yielded, *]) (by go_simp <;> omega) ⟨rfl, Below.refl _ _, hR⟩
                  · refine ⟨fun _ _ _ _ _ h => h, fun _ _ _ _ h _ => h, fun v n x hn hR hk => ?_⟩
                    have h1 : v 1 = .pointer (some ⟨wr.heap.size, 1, none⟩) := hk 1 (by kernel_rfl)
                    have g0 := (Blk.under HBX.out hR).cell 0
                    have g1 := (Blk.under HBX.out hR).cell 1
                    simp only [List.take_succ_cons, List.take_zero, frameF, Act.put, List.setIfInBounds_toArray, List.set_cons_zero, List.set_cons_succ]
                    exact stepF_val (by first | rfl | simp [Region.wanted, yielded, *]) (by go_simp <;> omega) ⟨rfl, Below.refl _ _, hR⟩
                  · refine ⟨fun _ _ _ _ _ h => h, fun _ _ _ _ h _ => h, fun v n x hn hR hk => ?_⟩
                    simp only [List.take_succ_cons, List.take_zero, frameF, Act.put, List.setIfInBounds_toArray, List.set_cons_zero, List.set_cons_succ]
                    exact stepF_val (by first | rfl | simp [Region.wanted, yielded, *]) (by go_simp <;> omega) ⟨rfl, Below.refl _ _, hR⟩
                  · refine ⟨fun _ _ _ _ _ h => h, fun _ _ _ _ h _ => h, fun v n x hn hR hk => ?_⟩
                    simp only [List.take_succ_cons, List.take_zero, frameF, Act.put, List.setIfInBounds_toArray, List.set_cons_zero, List.set_cons_succ]
                    exact stepF_val (by first | rfl | simp [Region.wanted, yielded, *]) (by go_simp <;> omega) ⟨rfl, Below.refl _ _, hR⟩
                  · refine ⟨fun _ _ _ _ _ h => h, fun _ _ _ _ h _ => h, fun v n x hn hR hk => ?_⟩
                    have h4 : v 4 = .pointer (some ⟨wr.heap.size, 0, none⟩) := hk 4 (by kernel_rfl)
                    have g0 := (Blk.under HBX.out hR).cell 0
                    have g1 := (Blk.under HBX.out hR).cell 1
                    simp only [List.take_succ_cons, List.take_zero, frameF, Act.put, List.setIfInBounds_toArray, List.set_cons_zero, List.set_cons_succ]
                    exact stepF_val (by first | rfl | simp [Region.wanted, yielded, *]) (by go_simp <;> omega) ⟨rfl, Below.refl _ _, hR⟩
                  · refine ⟨fun _ _ _ _ _ h => h, fun _ _ _ _ h _ => h, fun v n x hn hR hk => ?_⟩
                    have h3 : v 3 = .slice (some ⟨go_, 0, none⟩) S0.length co := hk 3 (by kernel_rfl)
                    have h5 : v 5 = iv (px : Int) := hk 5 (by kernel_rfl)
                    simp only [List.take_succ_cons, List.take_zero, frameF, Act.put, List.setIfInBounds_toArray, List.set_cons_zero, List.set_cons_succ]
                    exact stepF_val (by first | rfl | simp [Region.wanted, yielded, *]) (by go_simp <;> omega) ⟨rfl, Below.refl _ _, hR⟩
                  · refine ⟨fun _ _ _ _ _ h => h, fun _ _ _ _ h _ => h, fun v n x hn hR hk => ?_⟩
                    have h6 : v 6 = .pointer (some ⟨go_, px, none⟩) := hk 6 (by kernel_rfl)
                    have g2 := HOC.out x hR
                    simp only [List.take_succ_cons, List.take_zero, frameF, Act.put, List.setIfInBounds_toArray, List.set_cons_zero, List.set_cons_succ]
                    exact stepF_val (by first | rfl | simp [Region.wanted, yielded, *]) (by go_simp <;> omega) ⟨rfl, Below.refl _ _, hR⟩
                  · refine ⟨fun _ _ _ _ _ h => h, fun _ _ _ _ h _ => h, fun v n x hn hR hk => ?_⟩
                    have h0 : v 0 = .slice (some ⟨gn, 0, none⟩) fr.xs.length cn := hk 0 (by kernel_rfl)
                    have h2 : v 2 = iv (py : Int) := hk 2 (by kernel_rfl)
                    simp only [List.take_succ_cons, List.take_zero, frameF, Act.put, List.setIfInBounds_toArray, List.set_cons_zero, List.set_cons_succ]
                    exact stepF_val (by first | rfl | simp [Region.wanted, yielded, *]) (by go_simp <;> omega) ⟨rfl, Below.refl _ _, hR⟩
                · intro v n x1 hn hR hall
                  have h7 : v 7 = iv ov := hall 7 (by decide)
                  have h8 : v 8 = .pointer (some ⟨gn, py, none⟩) := hall 8 (by decide)
                  clear hall hn
                  simp only [List.drop_succ_cons, List.drop_zero, List.take_succ_cons, List.take_zero, frameF, Act.put, List.setIfInBounds_toArray, List.set_cons_zero, List.set_cons_succ, Nat.zero_add, Nat.reduceAdd, h7, h8]
                  obtain ⟨y1, y2, y3⟩ := HNC.out x1 hR
                  have hN2 : Own intE 3 w3.heap.size (x1.setCell ⟨gn, py, none⟩ (iv ov)) (.slice (some ⟨gn, 0, none⟩) fr.xs.length cn) (File.putGo S0 (List.replicate fr.xs.length (k : Int)) (L.take (j + 1))) := by
                    rw [htk, File.put_snoc, hgd]
                    exact setI (HNM.out x1 hR) (by rw [hnl]; exact hp2) ov
                  have hO2 : Own intE 3 w2.heap.size (x1.setCell ⟨gn, py, none⟩ (iv ov)) (.slice (some ⟨go_, 0, none⟩) S0.length co) S0 := (HOM.out x1 hR).keep (by simp [World.setCell]) fun b hb => Below.heap_setCell _ _ _ _ (by
                    have : go_ = b := by simpa [Value.ownBlock] using hb
                    show b ≠ gn; omega)
                  have hBn : ∃ cs, Blk x1 gn 3 cs := by
                    rcases (HNM.out x1 hR).2 with ⟨hv, _⟩ | ⟨g', cap, cur, hv, _, hB, _⟩
                    · cases hv
                    · injection hv with k1 _ _; injection k1 with k1; injection k1 with k1 _ _; subst k1; exact ⟨cur, hB⟩
                  have hL2 : Own pairE 137 w3.heap.size (x1.setCell ⟨gn, py, none⟩ (iv ov)) (.slice (some ⟨bl, ol, none⟩) L.length c6) L := (HLX.out x1 hR).keep (by simp [World.setCell]) fun b hb => Below.heap_setCell _ _ _ _ (by
                    obtain ⟨cs, hB⟩ := hBn
                    intro e
                    have e : b = gn := e
                    subst e
                    exact ownNeBlk (HLX.out x1 hR) hB (by decide) hb)
                  have hbz : Below w3.heap.size w6 (x1.setCell ⟨gn, py, none⟩ (iv ov)) := ((hbx.trans ((hbM.mono (Nat.le_trans hbr6.size hbx.size)).trans (hR.mono (Nat.le_trans (Nat.le_trans hbr6.size hbx.size) hbM.size))))).setCell (p := ⟨gn, py, none⟩) hgn _
                  have HN2 := Lib.hid hN2
                  have HO2 := Lib.hid hO2
                  have HL2 := Lib.hid hL2
                  clear hN2 hO2 hL2 hBn
                  go_wp2_with fail
                  go_roundw
                  case rel => exact ⟨j + 1, by omega, by go_num, HN2, HO2, HL2, hbz⟩
                  case measure => simp [intOf]; omega
              · have hji : ¬ (j : Int) < (L.length : Int) := by omega
                have hnw := HNW.out
                rw [List.take_of_length_le (by omega), ← HSS.out] at hnw
                have HNK := Lib.hid hnw
                have hb23 := hbr.next hbr6 (Nat.le_refl _)
                have hb2x : Below w2.heap.size w2 wr := hb23.trans (hbx.mono hbr.size)
                clear hnw HNW HOL
                go_wp2_with fail
                go_roundw
                case rel => exact ⟨k + 1, by omega, by go_num, Lib.hid (by rw [if_neg (by omega), Nat.add_sub_cancel]; exact HNK.out.base hbr.size), hb2x⟩
                case measure => simp [intOf]; omega
        · have hki : ¬ (k : Int) < (rs.length : Int) := by omega
          have hn := HN.out
          have hO := HO.out
          rw [if_neg (by omega), show k - 1 = n by omega] at hO
          have HO2 := Lib.hid (hO.base hb02.size)
          clear hn hO HO
          go_wp2_with fail
          go_ret2
          exact ⟨_, rfl, HO2.out, hb0r⟩
end Fl
end Go.Proofs.YtekkhnjepcebkaaGreatDoor
-- Levels that rise: those of common beginnings, and their bound. Plain laws.
namespace Go.Proofs.YtekkhnjepcebkaaGreatDoor
namespace File
section
variable {α : Type} [DecidableEq α]
theorem lcs_end (x y : α) : ∀ (xs ys : List α), lcs (xs ++ [x]) (ys ++ [y]) = if x = y then max (max (lcs xs (ys ++ [y])) (lcs (xs ++ [x]) ys)) (lcs xs ys + 1) else max (lcs xs (ys ++ [y])) (lcs (xs ++ [x]) ys) := by
  intro xs
  induction xs with
  | nil =>
    intro ys
    induction ys with
    | nil =>
      show lcs [x] [y] = _
      rw [lcs_cons]
      have e0 : ∀ l : List α, lcs [] l = 0 := fun _ => rfl
      simp only [lcs_nil, List.nil_append, e0]
    | cons v ys ih =>
      show lcs (x :: []) (v :: (ys ++ [y])) = if x = y then max (max 0 (lcs (x :: []) (v :: ys))) (0 + 1) else max 0 (lcs (x :: []) (v :: ys))
      have e0 : ∀ l : List α, lcs [] l = 0 := fun _ => rfl
      rw [lcs_cons, lcs_cons]
      simp only [List.nil_append, e0] at ih ⊢
      rw [ih]
      split <;> split <;> omega
  | cons u xs ihx =>
    intro ys
    induction ys with
    | nil =>
      have h := ihx []
      show lcs (u :: (xs ++ [x])) (y :: []) = if x = y then max (max (lcs (u :: xs) (y :: [])) (lcs (u :: (xs ++ [x])) [])) (lcs (u :: xs) [] + 1) else max (lcs (u :: xs) (y :: [])) (lcs (u :: (xs ++ [x])) [])
      rw [lcs_cons, lcs_cons]
      simp only [List.nil_append, lcs_nil] at h ⊢
      rw [h]
      split <;> split <;> omega
    | cons v ys ihy =>
      have h1 := ihx (v :: ys)
      have h2 := ihx ys
      show lcs (u :: (xs ++ [x])) (v :: (ys ++ [y])) = if x = y then max (max (lcs (u :: xs) (v :: (ys ++ [y]))) (lcs (u :: (xs ++ [x])) (v :: ys))) (lcs (u :: xs) (v :: ys) + 1) else max (lcs (u :: xs) (v :: (ys ++ [y]))) (lcs (u :: (xs ++ [x])) (v :: ys))
      simp only [List.cons_append] at h1 ihy
      rw [lcs_cons u v (xs ++ [x]) (ys ++ [y]), lcs_cons u v xs (ys ++ [y]), lcs_cons u v (xs ++ [x]) ys, lcs_cons u v xs ys, h1, h2, ihy]
      generalize lcs xs (v :: (ys ++ [y])) = A
      generalize lcs (xs ++ [x]) (v :: ys) = B
      generalize lcs xs (v :: ys) = C
      generalize lcs (u :: xs) (ys ++ [y]) = D
      generalize lcs (u :: (xs ++ [x])) ys = E
      generalize lcs (u :: xs) ys = G
      generalize lcs xs (ys ++ [y]) = H
      generalize lcs (xs ++ [x]) ys = I
      generalize lcs xs ys = J
      have dist : ∀ p q : Nat, max p q + 1 = max (p + 1) (q + 1) := fun p q => by omega
      by_cases hxy : x = y
      · by_cases huv : u = v
        · simp only [if_pos hxy, if_pos huv, dist]; ac_rfl
        · simp only [if_pos hxy, if_neg huv, dist]; ac_rfl
      · by_cases huv : u = v
        · simp only [if_neg hxy, if_pos huv, dist]; ac_rfl
        · simp only [if_neg hxy, if_neg huv]; ac_rfl
/-- How many common pairs two beginnings have at most. -/
def pre (a b : List α) (i j : Nat) : Nat := lcs (a.take i) (b.take j)
theorem pre_zero (a b : List α) (j : Nat) : pre a b 0 j = 0 := rfl
theorem pre_none (a b : List α) (i : Nat) : pre a b i 0 = 0 := by unfold pre; rw [List.take_zero]; exact lcs_nil _
theorem pre_full (a b : List α) : pre a b a.length b.length = lcs a b := by unfold pre; rw [List.take_length, List.take_length]
theorem pre_le (a b : List α) (i j : Nat) : pre a b i j ≤ i := Nat.le_trans (lcs_most _ _) (List.length_take_le _ _)
theorem pre_step {a b : List α} {i j : Nat} {x y : α} (hx : a[i]? = some x) (hy : b[j]? = some y) :
    pre a b (i + 1) (j + 1) = if x = y then max (max (pre a b i (j + 1)) (pre a b (i + 1) j)) (pre a b i j + 1) else max (pre a b i (j + 1)) (pre a b (i + 1) j) := by
  have ea : a.take (i + 1) = a.take i ++ [x] := by rw [List.take_add_one, hx]; rfl
  have eb : b.take (j + 1) = b.take j ++ [y] := by rw [List.take_add_one, hy]; rfl
  unfold pre
  rw [ea, eb, lcs_end]
theorem pre_up {a b : List α} (i j : Nat) : pre a b i j ≤ pre a b (i + 1) j := by
  by_cases hi : i < a.length
  · induction j with
    | zero => rw [pre_none, pre_none]; exact Nat.le_refl _
    | succ j ih =>
      by_cases hj : j < b.length
      · rw [pre_step (List.getElem?_eq_getElem hi) (List.getElem?_eq_getElem hj)]
        split <;> omega
      · unfold pre at ih ⊢
        rw [List.take_of_length_le (l := b) (i := j + 1) (by omega)]
        rw [List.take_of_length_le (l := b) (i := j) (by omega)] at ih
        exact ih
  · unfold pre
    rw [List.take_of_length_le (l := a) (i := i + 1) (by omega), List.take_of_length_le (l := a) (i := i) (by omega)]
    exact Nat.le_refl _
theorem pre_mono {a b : List α} {i i' : Nat} (j : Nat) (h : i ≤ i') : pre a b i j ≤ pre a b i' j := by
  obtain ⟨d, rfl⟩ := Nat.exists_eq_add_of_le h
  induction d with
  | zero => exact Nat.le_refl _
  | succ d ih => exact Nat.le_trans (ih (by omega)) (pre_up (i + d) j)
theorem pre_across {a b : List α} (i j : Nat) : pre a b i j ≤ pre a b i (j + 1) := by
  by_cases hj : j < b.length
  · induction i with
    | zero => rw [pre_zero]; exact Nat.zero_le _
    | succ i ih =>
      by_cases hi : i < a.length
      · rw [pre_step (List.getElem?_eq_getElem hi) (List.getElem?_eq_getElem hj)]
        split <;> omega
      · unfold pre at ih ⊢
        rw [List.take_of_length_le (l := a) (i := i + 1) (by omega)]
        rw [List.take_of_length_le (l := a) (i := i) (by omega)] at ih
        exact ih
  · unfold pre
    rw [List.take_of_length_le (l := b) (i := j + 1) (by omega), List.take_of_length_le (l := b) (i := j) (by omega)]
    exact Nat.le_refl _
/-- The level of a pair of lines. -/
def lev (a b : List α) (i j : Nat) : Int := if a[i]? = b[j]? then ((pre a b i j : Nat) : Int) + 1 else 0
def rowL (a b : List α) (i : Nat) : List Int := (List.range b.length).map (lev a b i)
def levs (a b : List α) : List (List Int) := (List.range a.length).map (rowL a b)
theorem rowL_len (a b : List α) (i : Nat) : (rowL a b i).length = b.length := by simp [rowL]
theorem levs_len (a b : List α) : (levs a b).length = a.length := by simp [levs]
theorem rowL_at (a b : List α) (i : Nat) {j : Nat} (h : j < b.length) : (rowL a b i)[j]? = some (lev a b i j) := by simp [rowL, List.getElem?_map, List.getElem?_range h]
theorem levs_at (a b : List α) {i : Nat} (h : i < a.length) : (levs a b)[i]? = some (rowL a b i) := by simp [levs, List.getElem?_map, List.getElem?_range h]
theorem great_snoc (l : List Int) (x : Int) : great (l ++ [x]) = max (great l) x := by unfold great; rw [List.foldl_append]; rfl
theorem great_two (m n : Int) : great [m, n] = max (max 0 m) n := rfl
theorem great_pos (l : List Int) : 0 ≤ great l := by
  have : ∀ (l : List Int) (m : Int), m ≤ l.foldl max m := by
    intro l
    induction l with
    | nil => intro m; exact Int.le_refl _
    | cons x l ih => intro m; exact Int.le_trans (Int.le_max_left m x) (ih (max m x))
  exact this l 0
theorem pre_row {a b : List α} {r : Nat} (hr : r < a.length) : ∀ {j : Nat}, j ≤ b.length → ((pre a b (r + 1) j : Nat) : Int) = max ((pre a b r j : Nat) : Int) (great ((rowL a b r).take j)) := by
  intro j
  induction j with
  | zero => intro _; rw [pre_none, pre_none]; rfl
  | succ j ih =>
    intro hj
    have ih := ih (by omega)
    have hjl : j < b.length := by omega
    have ht : (rowL a b r).take (j + 1) = (rowL a b r).take j ++ [lev a b r j] := by rw [List.take_add_one, rowL_at a b r hjl]; rfl
    rw [ht, great_snoc, pre_step (List.getElem?_eq_getElem hr) (List.getElem?_eq_getElem hjl)]
    have hm := pre_across (a := a) (b := b) r j
    unfold lev
    rw [List.getElem?_eq_getElem hr, List.getElem?_eq_getElem hjl]
    by_cases he : a[r] = b[j]
    · rw [if_pos he, if_pos (by rw [he])]; omega
    · rw [if_neg he, if_neg (fun h => he (Option.some.inj h))]
      have := great_pos ((rowL a b r).take j)
      omega
end
theorem cell_ok {a b : List ByteArray} {i j : Nat} (hi : i < a.length) (hj : j < b.length) : cellOk a b (levs a b) i j (lev a b i j) = true := by
  unfold cellOk
  have hp : ∀ r, r < i → great ((rowL a b r).take j) ≤ ((pre a b i j : Nat) : Int) := fun r hr => by
    have h1 := pre_row (a := a) (b := b) (r := r) (by omega) (j := j) (by omega)
    have h2 := pre_mono (a := a) (b := b) j (show r + 1 ≤ i by omega)
    omega
  have hrow : ∀ row ∈ (levs a b).take i, great (row.take j) ≤ ((pre a b i j : Nat) : Int) := fun row hm => by
    obtain ⟨r, hr⟩ := List.getElem?_of_mem hm
    have hri : r < i := by
      have := (List.getElem?_eq_some_iff.1 hr).1
      rw [List.length_take] at this
      omega
    rw [List.getElem?_take, if_pos hri, levs_at a b (by omega)] at hr
    injection hr with hr
    subst hr
    exact hp r hri
  by_cases he : a[i]? = b[j]?
  · have hl : lev a b i j = ((pre a b i j : Nat) : Int) + 1 := if_pos he
    rw [hl]
    simp only [Bool.and_eq_true, List.all_eq_true, Bool.not_eq_true', Bool.and_eq_false_iff, decide_eq_false_iff_not]
    refine ⟨?_, fun row hm => .inr ?_⟩
    · rw [decide_eq_false (by omega), decide_eq_false (by simpa using he)]; rfl
    · have := hrow row hm; omega
  · have hl : lev a b i j = 0 := if_neg he
    rw [hl]
    simp only [Bool.and_eq_true, List.all_eq_true, Bool.not_eq_true', Bool.and_eq_false_iff, decide_eq_false_iff_not]
    refine ⟨?_, fun row hm => .inl (by omega)⟩
    simp [he]
theorem row_go {a b : List ByteArray} {i : Nat} (hi : i < a.length) : ∀ (n j : Nat), n + j = b.length → rowGo a b (levs a b) i j (max ((pre a b i b.length : Nat) : Int) (great ((rowL a b i).take j))) ((rowL a b i).drop j) = some ((pre a b (i + 1) b.length : Nat) : Int) := by
  intro n
  induction n with
  | zero =>
    intro j hj
    rw [List.drop_eq_nil_of_le (by rw [rowL_len]; omega), rowGo, pre_row hi (Nat.le_refl _), List.take_of_length_le (i := j) (by rw [rowL_len]; omega), List.take_of_length_le (i := b.length) (by rw [rowL_len]; omega)]
  | succ n ih =>
    intro j hj
    have hjl : j < b.length := by omega
    have hd : (rowL a b i).drop j = lev a b i j :: (rowL a b i).drop (j + 1) := by
      rw [List.drop_eq_getElem_cons (by rw [rowL_len]; exact hjl)]
      have := rowL_at a b i hjl
      rw [List.getElem?_eq_getElem (by rw [rowL_len]; exact hjl)] at this
      rw [Option.some.inj this]
    have ht : (rowL a b i).take (j + 1) = (rowL a b i).take j ++ [lev a b i j] := by rw [List.take_add_one, rowL_at a b i hjl]; rfl
    rw [hd, rowGo, if_pos (cell_ok hi hjl), ← ih (j + 1) (by omega), ht, great_snoc, great_two]
    congr 1
    omega
theorem levels_go {a b : List ByteArray} : ∀ (n i : Nat), n + i = a.length → levelsGo a b (levs a b) i ((pre a b i b.length : Nat) : Int) ((levs a b).drop i) = ((lcs a b : Int), 0) := by
  intro n
  induction n with
  | zero =>
    intro i hi
    rw [List.drop_eq_nil_of_le (by rw [levs_len]; omega), levelsGo, show i = a.length by omega, pre_full]
  | succ n ih =>
    intro i hi
    have hil : i < a.length := by omega
    have hd : (levs a b).drop i = rowL a b i :: (levs a b).drop (i + 1) := by
      rw [List.drop_eq_getElem_cons (by rw [levs_len]; exact hil)]
      have := levs_at a b hil
      rw [List.getElem?_eq_getElem (by rw [levs_len]; exact hil)] at this
      rw [Option.some.inj this]
    have hr := row_go (a := a) (b := b) hil b.length 0 rfl
    rw [List.take_zero, List.drop_zero, show great [] = 0 from rfl, show max ((pre a b i b.length : Nat) : Int) 0 = ((pre a b i b.length : Nat) : Int) by omega] at hr
    rw [hd, levelsGo, hr]
    exact ih (i + 1) (by omega)
theorem lev_in {a b : List ByteArray} (ha : a.length ≤ 24) {i : Nat} (hi : i < a.length) (j : Nat) : inr (lev a b i j) = true := by
  unfold inr lev
  have := pre_le a b i j
  split <;> simp <;> omega
end File
namespace Fl
theorem bound_levs {a b : List ByteArray} (h : errOf a b = 0) (ha : a.length ≤ 24) : boundOf a b (File.levs a b) = ((File.lcs a b : Int), 0) := by
  unfold boundOf
  rw [if_pos h, if_pos, if_pos]
  · exact File.levels_go (a := a) (b := b) a.length 0 rfl
  · rw [List.all_eq_true]
    intro l hl
    obtain ⟨i, hi, rfl⟩ := List.mem_map.1 hl
    rw [List.all_eq_true]
    intro n hn
    obtain ⟨j, _, rfl⟩ := List.mem_map.1 hn
    exact File.lev_in ha (List.mem_range.1 hi) j
  · refine ⟨File.levs_len a b, ?_⟩
    rw [List.all_eq_true]
    intro l hl
    obtain ⟨i, hi, rfl⟩ := List.mem_map.1 hl
    simp [File.rowL_len]
end Fl
end Go.Proofs.YtekkhnjepcebkaaGreatDoor
-- Package file: Levels. Conditions: files that are right.
namespace Go.Proofs.YtekkhnjepcebkaaGreatDoor
open Go.RowKit
theorem stepF_grow {α : Type} (E : Enc α) {P : Program} {t e : TypeId} (hT : SlTy P t e E.sz) {ops : Array Oper} {o : Oper} {a : Act} {K : Value → World → Prop} {w : World}
    (hw : Region.wanted o (yielded ops a.tmps) = true) (s x : Operand) (ho : o.op = .call { callee := .builtin .append, args := #[s, x], argTypes := #[t, t] })
    {b0 off0 n0 cap : Nat} {xs : List α} (hxs : Sl E w (some ⟨b0, off0, none⟩) xs) (hn0 : n0 = xs.length) {g off : Nat} {n c : Nat} {ys : List α} (hy : Sl E w (some ⟨g, off, none⟩) ys) (hyn : n = ys.length) (hs : a.eval s = .slice (some ⟨b0, off0, none⟩) n0 cap) (hx : a.eval x = .slice (some ⟨g, off, none⟩) n c)
    (hg : cap < n0 + n) (hn : n0 + n ≤ big)
    (h : ∀ v' w', Own E e w.heap.size w' v' (xs ++ ys) → Below w.heap.size w w' → K v' w') : StepF P ops o a w K := by
  subst hyn hn0
  obtain ⟨i, z, hi, hz, hsz, hby, hzc⟩ := hT.info
  unfold big at hn
  have cells : ∀ {g off : Nat} {ys : List α}, Sl E w (some ⟨g, off, none⟩) ys → ∀ j u, (ys.flatMap E.cells)[j]? = some u → w.cell? ((⟨g, off, none⟩ : Addr).add j) = some u := fun {g off ys} hy j u hu => by
    obtain ⟨k, y, k', rfl, hk, hu⟩ := flat_inv E ys j u hu
    obtain ⟨b, off', hA, _, hc⟩ := hy (by intro e; subst e; simp at hk)
    injection hA with hA
    injection hA with e1 e2
    subst e1 e2
    rw [Addr.add_lit]
    have := hc k y hk k' u hu
    rw [show off + k * E.sz + k' = off + (k * E.sz + k') from by omega] at this
    exact this
  obtain ⟨v', w', hr, h2, h3⟩ := run_append_arg_grows (P := P) (w := w) t o.type e i z E.sz i.bytes hT.ht hi hz hsz rfl hzc E.pos ⟨b0, off0, none⟩ xs.length cap (xs.flatMap E.cells) (flat_length E xs) (cells hxs)
    ⟨g, off, none⟩ ys.length c (ys.flatMap E.cells) (flat_length E ys) (cells hy) hg (by unfold maxLen; omega) (by have := Nat.mul_le_mul hn hby; omega)
  refine stepF_new hw ?_ (h v' w' (by unfold Own; simpa using h2) ((Below.refl _ w).grown h3 (Nat.le_refl _) (by simp)))
  unfold execOp
  simp only [ho, resolve, invoke, builtin, Sem.run_bind, Sem.run_pure, Result.andThen_ok, List.map_toArray, List.map_cons, List.map_nil, hs, hx, hr]
namespace Fl
set_option maxRecDepth 100000
theorem Only.cell {g : Nat} {w w' : World} (h : Only g w w') {p : Addr} (hp : p.block < w.heap.size) (hne : p.block ≠ g) : w'.cell? p = w.cell? p := by
  unfold World.cell?
  rw [h.other _ hp hne]
theorem Only.own {α : Type} {E : Enc α} {e : TypeId} {g B : Nat} {w w' : World} {v : Value} {xs : List α} (h : Only g w w') (ho : Own E e B w v xs) (hne : v.ownBlock ≠ some g) : Own E e B w' v xs :=
  ho.keep h.below.size fun b hb => h.other b (ho.lt b hb).2 fun e => hne (by rw [hb, e])
theorem Only.blk {g : Nat} {w w' : World} (h : Only g w w') {b : Nat} {t : TypeId} {cs : Array Value} (hB : Blk w b t cs) (hne : b ≠ g) : Blk w' b t cs := by
  unfold Blk at hB ⊢
  rw [h.other b (Array.getElem?_eq_some_iff.1 hB).1 hne]; exact hB
theorem setRw {α : Type} {e : TypeId} {B : Nat} {w : World} {g n c : Nat} {rs : List (Rw α)} (h : Own (rwE α) e B w (.slice (some ⟨g, 0, none⟩) n c) rs) {k : Nat} (hk : k < rs.length) (y : Rw α) : Own (rwE α) e B (w.setCell ⟨g, k, none⟩ (rwv y)) (.slice (some ⟨g, 0, none⟩) n c) (rs.set k y) := by
  have := Own.setAt h (k := k) (j := 0) (x := rs[k]) (y := y) (u := rwv y) (List.getElem?_eq_getElem hk) rfl Nat.zero_lt_one
  simpa [rwE] using this
theorem ownRw {α : Type} {e : TypeId} {B : Nat} {w : World} {g n c : Nat} {rs : List (Rw α)} (h : Own (rwE α) e B w (.slice (some ⟨g, 0, none⟩) n c) rs) {k : Nat} (hk : k < rs.length) : ∃ r, rs[k]? = some r ∧ w.cell? ⟨g, k, none⟩ = some (rwv r) ∧ (∀ o, w.frozen? ⟨g, o, none⟩ = false) ∧ g < w.heap.size ∧ B ≤ g ∧ ∃ cs, Blk w g e cs := by
  rcases h.2 with ⟨hv, _⟩ | ⟨g', cap, cur, hv, hb, hg, hc, _⟩
  · cases hv
  · injection hv with h1 _ _
    injection h1 with h1
    injection h1 with h1 _ _
    subst h1
    obtain ⟨b, off, x, hA, _, hx, hcell⟩ := Sl.atRw h.sl hk
    injection hA with hA
    injection hA with e1 e2 _
    subst e1; subst e2
    rw [Nat.zero_add] at hcell
    exact ⟨x, hx, hcell, Blk.frozen (t := e) (cs := cur) hg, Blk.lt (t := e) (cs := cur) hg, hb, cur, hg⟩
theorem zero_row : ∃ i z, (Tryz.prog).info? 33 = some i ∧ i.zero = some z ∧ z.cells.toList = (rwE Int).cells ⟨none, 0, []⟩ := by
  obtain ⟨i, h1, h2, _⟩ := info_parts (P := Tryz.prog) (e := 33) (z := .slice none 0 0) (size := 1) (bytes := 24) (by kernel_rfl)
  exact ⟨i, .slice none 0 0, h1, h2, rfl⟩
/-- A row that is under way. -/
def Cur (a b : List ByteArray) (i j : Nat) (n : Int) (ys : List Int) : Prop := ys.length = b.length ∧ (∀ q, q < j → ys[q]? = some (File.lev a b i q)) ∧ (j < b.length → ys[j]? = some n) ∧ ∀ q, j < q → q < b.length → ys[q]? = some 0
theorem Cur.set_ {a b : List ByteArray} {i j : Nat} {n : Int} {ys : List Int} (h : Cur a b i j n ys) (hj : j < b.length) (m : Int) : Cur a b i j m (ys.set j m) := by
  obtain ⟨h1, h2, h3, h4⟩ := h
  refine ⟨by rw [List.length_set]; exact h1, fun q hq => ?_, fun _ => ?_, fun q hq hb => ?_⟩
  · rw [List.getElem?_set_ne (by omega)]; exact h2 q hq
  · rw [List.getElem?_set_self (by omega)]
  · rw [List.getElem?_set_ne (by omega)]; exact h4 q hq hb
theorem Cur.next {a b : List ByteArray} {i j : Nat} {ys : List Int} (h : Cur a b i j (File.lev a b i j) ys) (hj : j < b.length) : Cur a b i (j + 1) 0 ys := by
  obtain ⟨h1, h2, h3, h4⟩ := h
  refine ⟨h1, fun q hq => ?_, fun hb => h4 _ (by omega) hb, fun q hq hb => h4 q (by omega) hb⟩
  by_cases e : q = j
  · subst e; exact h3 hj
  · exact h2 q (by omega)
theorem Cur.full {a b : List ByteArray} {i : Nat} {n : Int} {ys : List Int} (h : Cur a b i b.length n ys) : ys = File.rowL a b i := by
  obtain ⟨h1, h2, _, _⟩ := h
  apply List.ext_getElem?
  intro q
  by_cases hq : q < b.length
  · rw [h2 q hq, File.rowL_at a b i hq]
  · rw [List.getElem?_eq_none (by omega), List.getElem?_eq_none (by rw [File.rowL_len]; omega)]
theorem Cur.start (a b : List ByteArray) (i : Nat) : Cur a b i 0 0 (List.replicate b.length 0) :=
  ⟨List.length_replicate, fun q hq => absurd hq (by omega), fun hb => by rw [List.getElem?_replicate, if_pos hb], fun q _ hb => by rw [List.getElem?_replicate, if_pos hb]⟩
/-- Rows that stand. -/
def RowsL (a b : List ByteArray) (B : Nat) (w : World) (i : Nat) (rs : List (Rw Int)) : Prop := ∀ k r, k < i → rs[k]? = some r → Own intE 3 B w (.slice r.A r.xs.length r.c) r.xs ∧ r.xs = File.rowL a b k ∧ r.xs.length ≤ r.c
theorem RowsL.below {a b : List ByteArray} {B i : Nat} {w w' : World} {rs : List (Rw Int)} (h : RowsL a b B w i rs) (hb : Below w.heap.size w w') : RowsL a b B w' i rs := fun k r hk hr => ⟨(h k r hk hr).1.below hb, (h k r hk hr).2⟩
theorem some_of_len {B : Nat} {w : World} {e : TypeId} {A : Option Addr} {n c : Nat} {xs : List Int} (h : Own intE e B w (.slice A n c) xs) (hc : 0 < xs.length) : ∃ g, A = some ⟨g, 0, none⟩ ∧ g < w.heap.size := by
  rcases h.2 with ⟨_, hn⟩ | ⟨g, cap, cur, hv, _, hg, _⟩
  · omega
  · injection hv with h1 _ _
    exact ⟨g, h1, Blk.lt (t := e) (cs := cur) hg⟩
set_option maxHeartbeats 8000000 in
theorem levels_good (A : Option Addr) (a : List ByteArray) (c : Nat) (A' : Option Addr) (b : List ByteArray) (c' : Nat) (w : World) (ha : Good a) (hb : Good b) (hsa : Sl strE w A a) (hsb : Sl strE w A' b) :
    Calls Tryz.prog 49 #[.slice A a.length c, .slice A' b.length c'] w fun e w' => ∃ v rs, e = .returned (.tuple #[v, iv 0]) ∧ Own (rwE Int) 33 w.heap.size w' v rs ∧ (∀ r ∈ rs, Own intE 3 w.heap.size w' (.slice r.A r.xs.length r.c) r.xs ∧ r.xs.length ≤ r.c) ∧ rs.map Rw.xs = File.levs a b ∧ Below w.heap.size w w' := by
  have ham := ha.many
  have hbm := hb.many
  have HB := Lib.hid (both_spec A a c A' b c' w (by unfold big; omega) (by unfold big; omega) hsa hsb)
  have e0 : (if File.check a = 0 then File.check b else File.check a) = 0 := by rw [if_pos (check_of_good ha)]; exact check_of_good hb
  rw [e0] at HB
  clear ha hb e0
  go_enter Tryz.func49, Tryz.ntmps49
  go_wp2_with fail
  refine HB.out.mono ?_
  rintro e w1 ⟨rfl, hb1⟩
  clear HB
  go_wp2_with (at_make; refine wpMakeN (rwE Int) tyRows ⟨none, 0, []⟩ zero_row rfl _ _ rfl a.length rfl rfl (by unfold big; omega) ?_; intro w2 hown2 hb2)
  have hG0 := hb1.size
  have hb02 := hb1.trans (hb2.mono hG0)
  have hGlt : w1.heap.size < w2.heap.size := Own.lt hown2 w1.heap.size rfl |>.2
  generalize w1.heap.size = G at *
  clear hb1 hb2
  go_loopw [8, 9, 10, 11, 13, 25] (fun _ _ _ _ _ v wr => ∃ (i : Nat) (rs : List (Rw Int)), i ≤ a.length ∧ v = iv i ∧ Hid (rs.length = a.length) ∧ Hid (Own (rwE Int) 33 G wr (.slice (some ⟨G, 0, none⟩) a.length a.length) rs) ∧ Hid (RowsL a b G wr i rs) ∧ Below w.heap.size w wr ∧ G < wr.heap.size) (fun _ _ _ _ _ v _ => a.length - (intOf v).toNat)
  case atStart => exact ⟨0, List.replicate a.length ⟨none, 0, []⟩, by omega, rfl, by rw [Hid]; exact List.length_replicate, hown2, fun k r hk => absurd hk (by omega), hb02, hGlt⟩
  case round =>
    obtain ⟨i, rs, hi, rfl, HRL, HO, HR, hbr, hGr⟩ := hrel
    by_cases hlt : i < a.length
    · have hii : (i : Int) < (a.length : Int) := by omega
      obtain ⟨ba, oa, sa, rfl, hba, hxa, hca⟩ := Sl.atS (hsa.below hbr) hlt
      have HXA := Lib.hid hxa
      clear hxa hown2 hb02 hGlt
      have hcb0 : ∀ W, Below w.heap.size w W → W.cell? ⟨ba, oa + i, none⟩ = some (.string sa) := fun W h => by
        obtain ⟨_, _, s2, hA', _, hx2, hc2⟩ := Sl.atS (hsa.below h) hlt
        injection hA' with hA'
        injection hA' with e1 e2 _
        subst e1; subst e2
        rw [HXA.out] at hx2
        rw [hc2, Option.some.inj hx2]
      have hiR : i < rs.length := by rw [HRL.out]; exact hlt
      go_wp2_with (at_make; refine wpMakeN intE tyInts 0 zero_int rfl _ _ rfl b.length rfl rfl (by unfold big; omega) ?_; intro w4 hown4 hb4; obtain ⟨r0, hr0, hcG, hfG, hGl, hGG, csG, hBG⟩ := ownRw (HO.out.below hb4) hiR)
      have hO5 := setRw (HO.out.below hb4) hiR (⟨some ⟨wr.heap.size, 0, none⟩, b.length, File.rowL a b i⟩ : Rw Int)
      simp only [rwv, File.rowL_len] at hO5
      have hown5 : Own intE 3 wr.heap.size (w4.setCell ⟨G, i, none⟩ (.slice (some ⟨wr.heap.size, 0, none⟩) b.length b.length)) (.slice (some ⟨wr.heap.size, 0, none⟩) b.length b.length) (List.replicate b.length 0) := hown4.keep (by simp [World.setCell]) fun bq hbq => Below.heap_setCell _ _ _ _ (by
        have : wr.heap.size = bq := by simpa [Value.ownBlock] using hbq
        show bq ≠ G; omega)
      have HR5 : Hid (∀ k r, k < i → rs[k]? = some r → Own intE 3 G (w4.setCell ⟨G, i, none⟩ (.slice (some ⟨wr.heap.size, 0, none⟩) b.length b.length)) (.slice r.A r.xs.length r.c) r.xs ∧ r.xs = File.rowL a b k ∧ r.xs.length ≤ r.c ∧ (Value.slice r.A r.xs.length r.c).ownBlock ≠ some wr.heap.size) := Lib.hid fun k r hk hr => by
        obtain ⟨q1, q2, q3⟩ := HR.out k r hk hr
        refine ⟨(q1.below hb4).keep (by simp [World.setCell]) fun bq hbq => Below.heap_setCell _ _ _ _ fun e => ?_, q2, q3, fun e => ?_⟩
        · have e : bq = G := e
          subst e
          exact ownNeBlk (q1.below hb4) hBG (by decide) hbq
        · exact absurd (q1.lt _ e).2 (by omega)
      have hb5 : Below w.heap.size w (w4.setCell ⟨G, i, none⟩ (.slice (some ⟨wr.heap.size, 0, none⟩) b.length b.length)) := (hbr.trans (hb4.mono hbr.size)).setCell (p := ⟨G, i, none⟩) hG0 _
      have hsz5 : wr.heap.size < (w4.setCell ⟨G, i, none⟩ (.slice (some ⟨wr.heap.size, 0, none⟩) b.length b.length)).heap.size := Own.lt hown5 wr.heap.size rfl |>.2
      generalize w4.setCell ⟨G, i, none⟩ (.slice (some ⟨wr.heap.size, 0, none⟩) b.length b.length) = w5 at *
      generalize wr.heap.size = g at *
      clear hca hcG hfG hGl hGG hBG hr0 hown4 hb4 hba
      have HO5 := Lib.hid hO5
      clear hO5
      generalize wr = w3 at *
      go_loopw [10, 11, 13, 38] (fun _ _ _ v wx => ∃ (j : Nat) (ys : List Int), j ≤ b.length ∧ v = iv j ∧ Hid (Cur a b i j 0 ys) ∧ Hid (Own intE 3 g wx (.slice (some ⟨g, 0, none⟩) b.length b.length) ys) ∧ Only g w5 wx) (fun _ _ _ v _ => b.length - (intOf v).toNat)
      case atStart => exact ⟨0, _, by omega, rfl, Lib.hid (Cur.start a b i), hown5, Only.refl _ _⟩
      case round =>
        obtain ⟨j, ys, hj, rfl, HC, HY, hon⟩ := hrel
        by_cases hjl : j < b.length
        · have hjj : (j : Int) < (b.length : Int) := by omega
          have hbx : Below w.heap.size w wr := hb5.trans (hon.below.mono (by omega))
          obtain ⟨bb, ob, sb, rfl, hbb, hxb, hcb⟩ := Sl.atS (hsb.below hbx) hjl
          have HXB := Lib.hid hxb
          clear hxb
          have hsq := str_eq sa sb
          have HAB : Hid (a[i]? = some sa ∧ b[j]? = some sb) := Lib.hid ⟨HXA.out, HXB.out⟩
          have hsx := hon.below.size
          have hGx : G < wr.heap.size := by omega
          have hcax : wr.cell? ⟨ba, oa + i, none⟩ = some (.string sa) := hcb0 wr hbx
          by_cases hsab : sa = sb
          · have heq : (sa.toList == sb.toList) = true := by rw [hsq]; simpa using hsab
            have HEQ := Lib.hid hsab
            clear hsq hsab
            have RC := run_cutTo (rwE Int) tyRows (some ⟨G, 0, none⟩) a.length a.length i (by omega)
            go_wp2_with fail
            have hconx := hon
            have HY0 := HY
            have HCW := Lib.hid HC.out
            clear hcax hcb hon
            generalize wr = wx at *
            go_loopw [13, 50] (fun _ v wy => ∃ (r : Nat) (ys' : List Int), r ≤ i ∧ v = iv r ∧ Hid (Cur a b i j ((File.pre a b r j : Nat) : Int) ys') ∧ Hid (Own intE 3 g wy (.slice (some ⟨g, 0, none⟩) b.length b.length) ys') ∧ Only g w5 wy) (fun _ v _ => i - (intOf v).toNat)
            case atStart => exact ⟨0, ys, by omega, rfl, HCW, HY0, hconx⟩
            case round =>
              clear HY0 HCW HC HY
              obtain ⟨r, ys', hr, rfl, HC, HY, hon⟩ := hrel
              have hsx2 := hon.below.size
              have hOr := Only.own hon HO5.out (by simp [Value.ownBlock]; omega)
              obtain ⟨ri, hri, hci, hfi, hGi, _, _⟩ := ownRw hOr (k := i) (by rw [List.length_set]; exact hiR)
              rw [List.getElem?_set_self hiR] at hri
              have hri := (Option.some.inj hri).symm
              subst hri
              simp only [rwv, File.rowL_len] at hci
              obtain ⟨c0, hc0⟩ : ∃ c0, c0 = File.pre a b r j := ⟨_, rfl⟩
              have hylen : ys'.length = b.length := HC.out.1
              have hyj : ys'[j]? = some (c0 : Int) := by rw [hc0]; exact HC.out.2.2.1 hjl
              obtain ⟨g', cg, xg, hAg, _, hgl, hxg, hcg, hfg⟩ := ownI HY.out (k := j) (by rw [hylen]; exact hjl)
              injection hAg with e1 _ _
              injection e1 with e1
              injection e1 with e1 _ _
              subst e1
              rw [hyj] at hxg
              have hxg := (Option.some.inj hxg).symm
              subst hxg
              have HFG := Lib.hid hfg
              clear hfg hylen hyj
              by_cases hrl : r < i
              · have hrr : (r : Int) < (i : Int) := by omega
                obtain ⟨rr, hrx, hcr, _, _, _, _⟩ := ownRw hOr (k := r) (by rw [List.length_set]; omega)
                rw [List.getElem?_set_ne (by omega)] at hrx
                obtain ⟨ho5, hx5, hc5, hne5⟩ := HR5.out r rr hrl hrx
                have hxl : rr.xs.length = b.length := by rw [hx5, File.rowL_len]
                have hor := Only.own hon ho5 hne5
                obtain ⟨gr, hgr, hgrl⟩ := some_of_len hor (by rw [hxl]; omega)
                obtain ⟨rA, cr, xr⟩ := rr
                simp only [rwv] at hgr hxl hcr hor hx5 hc5
                subst hgr
                rw [hxl] at hcr hor hc5
                have HXR : Hid (∀ x, Below wr.heap.size wr x → Sl intE x (some ⟨gr, 0, none⟩) xr) := Lib.hid fun x h => hor.sl.below h
                have HOC : Hid (∀ x, Below wr.heap.size wr x → x.cell? ⟨G, i, none⟩ = some (.slice (some ⟨g, 0, none⟩) b.length b.length)) := Lib.hid fun x h => (h.cell (p := ⟨G, i, none⟩) hGi).trans hci
                have HCC : Hid (∀ x, Below wr.heap.size wr x → x.cell? ⟨g, j, none⟩ = some (iv (c0 : Int))) := Lib.hid fun x h => (h.cell (p := ⟨g, j, none⟩) hgl).trans hcg
                have HTJ : Hid ((xr.take j).length = j) := Lib.hid (by rw [List.length_take, hxl]; omega)
                obtain ⟨c1, hc1⟩ : ∃ c1, c1 = File.pre a b (r + 1) j := ⟨_, rfl⟩
                have HTL : Hid ((xr.take j ++ [(c0 : Int)]).length = j + 1) := Lib.hid (by rw [List.length_append, HTJ.out]; rfl)
                have HGR : Hid (∀ A3 c3 x, Sl intE x A3 (xr.take j ++ [(c0 : Int)]) → Calls Tryz.prog 119 #[.slice A3 (j + 1) c3] x fun e x' => e = .returned (iv (c1 : Int)) ∧ x = x') := Lib.hid fun A3 c3 x h => by
                  have := greatest_spec A3 (xr.take j ++ [(c0 : Int)]) c3 x (by rw [HTL.out]; unfold big; omega) h
                  rw [HTL.out, File.great_snoc, hx5] at this
                  have e := File.pre_row (a := a) (b := b) (r := r) (by omega) (j := j) (by omega)
                  rw [← hc0, ← hc1] at e
                  rw [Int.max_comm, ← e] at this
                  exact this
                have HC0 := Lib.hid hc0
                have HC1 := Lib.hid hc1
                have hG' : Hid (Own intE 3 g wr (.slice (some ⟨g, 0, none⟩) b.length b.length) ys') := HY
                clear hxl hor hx5 ho5 hne5 hci hcg hrx hc0 hc1 hOr hfi
                go_upto_region 16 with fail
                refine wp_free_lit (by kernel_rfl) 20 (by kernel_rfl) (by kernel_rfl) (by decide) (fun _ x => Below wr.heap.size wr x) (fun x x' => Below x.heap.size x x')
                  [fun _ u _ => u = .slice (some ⟨G, 0, none⟩) a.length a.length,
                   fun _ u _ => u = iv (i : Int),
                   fun _ u _ => u = .pointer (some ⟨G, i, none⟩),
                   fun _ u _ => u = .slice (some ⟨g, 0, none⟩) b.length b.length,
                   fun _ u _ => u = iv (j : Int),
                   fun _ u _ => u = .slice (some ⟨gr, 0, none⟩) b.length cr,
                   fun _ u _ => u = iv (j : Int),
                   fun _ u _ => u = iv (j : Int),
                   fun _ u _ => u = .slice (some ⟨gr, 0, none⟩) j j,
                   fun _ u _ => u = .slice (some ⟨G, 0, none⟩) a.length a.length,
                   fun _ u _ => u = iv (i : Int),
                   fun _ u _ => u = .pointer (some ⟨G, i, none⟩),
                   fun _ u _ => u = .slice (some ⟨g, 0, none⟩) b.length b.length,
                   fun _ u _ => u = iv (j : Int),
                   fun _ u _ => u = .pointer (some ⟨g, j, none⟩),
                   fun _ u _ => u = iv (c0 : Int),
                   fun _ u x => ∃ A3 c3, u = .slice A3 1 c3 ∧ (∃ g3, A3 = some ⟨g3, 0, none⟩) ∧ Sl intE x A3 [(c0 : Int)],
                   fun _ u x => ∃ A3 c3, u = .slice A3 (j + 1) c3 ∧ Sl intE x A3 (xr.take j ++ [(c0 : Int)]),
                   fun _ u _ => u = iv (c1 : Int),
                   fun _ u _ => u = .pointer (some ⟨g, j, none⟩)]
                  (Below.refl _ wr).drew ?_ ?_
                · simp only [List.take_succ_cons, List.take_zero, HopL]
                  refine ⟨?_, ?_, ?_, ?_, ?_, ?_, ?_, ?_, ?_, ?_, ?_, ?_, ?_, ?_, ?_, ?_, ?_, ?_, ?_, ?_, trivial⟩
                  · refine ⟨fun _ _ _ _ _ h => h, fun _ _ _ _ h _ => h, fun v n x hn hR hk => ?_⟩
                    simp only [List.take_succ_cons, List.take_zero, frameF, Act.put, List.setIfInBounds_toArray, List.set_cons_zero, List.set_cons_succ]
                    exact stepF_val (by first | rfl | simp [Region.wanted, yielded, *]) (by go_simp <;> omega) ⟨rfl, Below.refl _ _, hR⟩
                  · refine ⟨fun _ _ _ _ _ h => h, fun _ _ _ _ h _ => h, fun v n x hn hR hk => ?_⟩
                    simp only [List.take_succ_cons, List.take_zero, frameF, Act.put, List.setIfInBounds_toArray, List.set_cons_zero, List.set_cons_succ]
                    exact stepF_val (by first | rfl | simp [Region.wanted, yielded, *]) (by go_simp <;> omega) ⟨rfl, Below.refl _ _, hR⟩
                  · refine ⟨fun _ _ _ _ _ h => h, fun _ _ _ _ h _ => h, fun v n x hn hR hk => ?_⟩
                    have h0 : v 0 = .slice (some ⟨G, 0, none⟩) a.length a.length := hk 0 (by kernel_rfl)
                    have h1 : v 1 = iv (i : Int) := hk 1 (by kernel_rfl)
                    simp only [List.take_succ_cons, List.take_zero, frameF, Act.put, List.setIfInBounds_toArray, List.set_cons_zero, List.set_cons_succ]
                    exact stepF_val (by first | rfl | simp [Region.wanted, yielded, *]) (by go_simp <;> omega) ⟨rfl, Below.refl _ _, hR⟩
                  · refine ⟨fun _ _ _ _ _ h => h, fun _ _ _ _ h _ => h, fun v n x hn hR hk => ?_⟩
                    have h2 : v 2 = .pointer (some ⟨G, i, none⟩) := hk 2 (by kernel_rfl)
                    have g1 := HOC.out x hR
                    simp only [List.take_succ_cons, List.take_zero, frameF, Act.put, List.setIfInBounds_toArray, List.set_cons_zero, List.set_cons_succ]
                    exact stepF_val (by first | rfl | simp [Region.wanted, yielded, *]) (by go_simp <;> omega) ⟨rfl, Below.refl _ _, hR⟩
                  · refine ⟨fun _ _ _ _ _ h => h, fun _ _ _ _ h _ => h, fun v n x hn hR hk => ?_⟩
                    simp only [List.take_succ_cons, List.take_zero, frameF, Act.put, List.setIfInBounds_toArray, List.set_cons_zero, List.set_cons_succ]
                    exact stepF_val (by first | rfl | simp [Region.wanted, yielded, *]) (by go_simp <;> omega) ⟨rfl, Below.refl _ _, hR⟩
                  · refine ⟨fun _ _ _ _ _ h => h, fun _ _ _ _ h _ => h, fun v n x hn hR hk => ?_⟩
                    simp only [List.take_succ_cons, List.take_zero, frameF, Act.put, List.setIfInBounds_toArray, List.set_cons_zero, List.set_cons_succ]
                    exact stepF_val (by first | rfl | simp [Region.wanted, yielded, *]) (by go_simp <;> omega) ⟨rfl, Below.refl _ _, hR⟩
                  · refine ⟨fun _ _ _ _ _ h => h, fun _ _ _ _ h _ => h, fun v n x hn hR hk => ?_⟩
                    simp only [List.take_succ_cons, List.take_zero, frameF, Act.put, List.setIfInBounds_toArray, List.set_cons_zero, List.set_cons_succ]
                    exact stepF_val (by first | rfl | simp [Region.wanted, yielded, *]) (by go_simp <;> omega) ⟨rfl, Below.refl _ _, hR⟩
                  · refine ⟨fun _ _ _ _ _ h => h, fun _ _ _ _ h _ => h, fun v n x hn hR hk => ?_⟩
                    simp only [List.take_succ_cons, List.take_zero, frameF, Act.put, List.setIfInBounds_toArray, List.set_cons_zero, List.set_cons_succ]
                    exact stepF_val (by first | rfl | simp [Region.wanted, yielded, *]) (by go_simp <;> omega) ⟨rfl, Below.refl _ _, hR⟩
                  · refine ⟨fun _ _ _ _ _ h => h, fun _ _ _ _ h _ => h, fun v n x hn hR hk => ?_⟩
                    have h5 : v 5 = .slice (some ⟨gr, 0, none⟩) b.length cr := hk 5 (by kernel_rfl)
                    have h6 : v 6 = iv (j : Int) := hk 6 (by kernel_rfl)
                    have h7 : v 7 = iv (j : Int) := hk 7 (by kernel_rfl)
                    simp only [List.take_succ_cons, List.take_zero, frameF, Act.put, List.setIfInBounds_toArray, List.set_cons_zero, List.set_cons_succ]
                    exact stepF_val (by first | rfl | simp [Region.wanted, yielded, *]) (by go_simp <;> omega) ⟨rfl, Below.refl _ _, hR⟩
                  · refine ⟨fun _ _ _ _ _ h => h, fun _ _ _ _ h _ => h, fun v n x hn hR hk => ?_⟩
                    simp only [List.take_succ_cons, List.take_zero, frameF, Act.put, List.setIfInBounds_toArray, List.set_cons_zero, List.set_cons_succ]
                    exact stepF_val (by first | rfl | simp [Region.wanted, yielded, *]) (by go_simp <;> omega) ⟨rfl, Below.refl _ _, hR⟩
                  · refine ⟨fun _ _ _ _ _ h => h, fun _ _ _ _ h _ => h, fun v n x hn hR hk => ?_⟩
                    simp only [List.take_succ_cons, List.take_zero, frameF, Act.put, List.setIfInBounds_toArray, List.set_cons_zero, List.set_cons_succ]
                    exact stepF_val (by first | rfl | simp [Region.wanted, yielded, *]) (by go_simp <;> omega) ⟨rfl, Below.refl _ _, hR⟩
                  · refine ⟨fun _ _ _ _ _ h => h, fun _ _ _ _ h _ => h, fun v n x hn hR hk => ?_⟩
                    have h9 : v 9 = .slice (some ⟨G, 0, none⟩) a.length a.length := hk 9 (by kernel_rfl)
                    have h10 : v 10 = iv (i : Int) := hk 10 (by kernel_rfl)
                    simp only [List.take_succ_cons, List.take_zero, frameF, Act.put, List.setIfInBounds_toArray, List.set_cons_zero, List.set_cons_succ]
                    exact stepF_val (by first | rfl | simp [Region.wanted, yielded, *]) (by go_simp <;> omega) ⟨rfl, Below.refl _ _, hR⟩
                  · refine ⟨fun _ _ _ _ _ h => h, fun _ _ _ _ h _ => h, fun v n x hn hR hk => ?_⟩
                    have h11 : v 11 = .pointer (some ⟨G, i, none⟩) := hk 11 (by kernel_rfl)
                    have g1 := HOC.out x hR
                    simp only [List.take_succ_cons, List.take_zero, frameF, Act.put, List.setIfInBounds_toArray, List.set_cons_zero, List.set_cons_succ]
                    exact stepF_val (by first | rfl | simp [Region.wanted, yielded, *]) (by go_simp <;> omega) ⟨rfl, Below.refl _ _, hR⟩
                  · refine ⟨fun _ _ _ _ _ h => h, fun _ _ _ _ h _ => h, fun v n x hn hR hk => ?_⟩
                    simp only [List.take_succ_cons, List.take_zero, frameF, Act.put, List.setIfInBounds_toArray, List.set_cons_zero, List.set_cons_succ]
                    exact stepF_val (by first | rfl | simp [Region.wanted, yielded, *]) (by go_simp <;> omega) ⟨rfl, Below.refl _ _, hR⟩
                  · refine ⟨fun _ _ _ _ _ h => h, fun _ _ _ _ h _ => h, fun v n x hn hR hk => ?_⟩
                    have h12 : v 12 = .slice (some ⟨g, 0, none⟩) b.length b.length := hk 12 (by kernel_rfl)
                    have h13 : v 13 = iv (j : Int) := hk 13 (by kernel_rfl)
                    simp only [List.take_succ_cons, List.take_zero, frameF, Act.put, List.setIfInBounds_toArray, List.set_cons_zero, List.set_cons_succ]
                    exact stepF_val (by first | rfl | simp [Region.wanted, yielded, *]) (by go_simp <;> omega) ⟨rfl, Below.refl _ _, hR⟩
                  · refine ⟨fun _ _ _ _ _ h => h, fun _ _ _ _ h _ => h, fun v n x hn hR hk => ?_⟩
                    have h14 : v 14 = .pointer (some ⟨g, j, none⟩) := hk 14 (by kernel_rfl)
                    have g2 := HCC.out x hR
                    simp only [List.take_succ_cons, List.take_zero, frameF, Act.put, List.setIfInBounds_toArray, List.set_cons_zero, List.set_cons_succ]
                    exact stepF_val (by first | rfl | simp [Region.wanted, yielded, *]) (by go_simp <;> omega) ⟨rfl, Below.refl _ _, hR⟩
                  · refine ⟨fun _ _ _ _ _ h => h, fun _ _ _ _ h hS => (by obtain ⟨A3, c3, e1, e2, o1⟩ := h; exact ⟨A3, c3, e1, e2, o1.below hS⟩), fun v n x hn hR hk => ?_⟩
                    have h15 : v 15 = iv (c0 : Int) := hk 15 (by kernel_rfl)
                    simp only [List.take_succ_cons, List.take_zero, frameF, Act.put, List.setIfInBounds_toArray, List.set_cons_zero, List.set_cons_succ]
                    exact stepF_new (u := .slice (some ⟨x.heap.size, 0, none⟩) 1 1) (w' := x.alloc (.cells #[iv (c0 : Int)] 3)) (by rfl) (by go_simp) ⟨⟨_, _, rfl, ⟨x.heap.size, rfl⟩, Sl.fresh intE x 3 #[iv (c0 : Int)] [(c0 : Int)] rfl (by simp [maxLen])⟩, (Below.refl _ _).alloc (Nat.le_refl _) _, hR.alloc hR.size _⟩
                  · refine ⟨fun _ _ _ _ _ h => h, fun _ _ _ _ h hS => (by obtain ⟨A3, c3, e1, o1⟩ := h; exact ⟨A3, c3, e1, o1.below hS⟩), fun v n x hn hR hk => ?_⟩
                    have h8 : v 8 = .slice (some ⟨gr, 0, none⟩) j j := hk 8 (by kernel_rfl)
                    have h16 := hk 16 (by kernel_rfl)
                    obtain ⟨A3, c3, h16, ⟨g3, rfl⟩, o16⟩ := h16
                    have g4 := HXR.out x hR
                    simp only [List.take_succ_cons, List.take_zero, frameF, Act.put, List.setIfInBounds_toArray, List.set_cons_zero, List.set_cons_succ]
                    refine stepF_grow (n0 := j) (cap := j) (n := 1) (c := c3) intE tyInts (by rfl) _ _ rfl (Sl.take g4 j) HTJ.out.symm o16 rfl (by simpa [go_sem] using h8) (by simpa [go_sem] using h16) (by omega) (by unfold big; omega) ?_
                    intro v' w' ho hb
                    obtain ⟨A4, c4, rfl, _, _⟩ := ho.form
                    refine ⟨⟨A4, c4, by rw [HTL.out], ho.sl⟩, hb, hR.next hb (Nat.le_refl _)⟩
                  · refine ⟨fun _ _ _ _ _ h => h, fun _ _ _ _ h hS => h, fun v n x hn hR hk => ?_⟩
                    have h17 := hk 17 (by kernel_rfl)
                    obtain ⟨A3, c3, h17, o17⟩ := h17
                    have g5 := HGR.out _ c3 x o17
                    simp only [List.take_succ_cons, List.take_zero, frameF, Act.put, List.setIfInBounds_toArray, List.set_cons_zero, List.set_cons_succ]
                    refine stepF_call (by first | rfl | simp [Region.wanted, yielded, *]) (by go_simp) g5 ?_
                    rintro e x' ⟨rfl, rfl⟩
                    exact ⟨_, rfl, rfl, Below.refl _ _, hR⟩
                  · refine ⟨fun _ _ _ _ _ h => h, fun _ _ _ _ h _ => h, fun v n x hn hR hk => ?_⟩
                    have h3 : v 3 = .slice (some ⟨g, 0, none⟩) b.length b.length := hk 3 (by kernel_rfl)
                    have h4 : v 4 = iv (j : Int) := hk 4 (by kernel_rfl)
                    simp only [List.take_succ_cons, List.take_zero, frameF, Act.put, List.setIfInBounds_toArray, List.set_cons_zero, List.set_cons_succ]
                    exact stepF_val (by first | rfl | simp [Region.wanted, yielded, *]) (by go_simp <;> omega) ⟨rfl, Below.refl _ _, hR⟩
                · intro v n x1 hn hR hall
                  have h18 : v 18 = iv (c1 : Int) := hall 18 (by decide)
                  have h19 : v 19 = .pointer (some ⟨g, j, none⟩) := hall 19 (by decide)
                  clear hall hn
                  simp only [List.drop_succ_cons, List.drop_zero, List.take_succ_cons, List.take_zero, frameF, Act.put, List.setIfInBounds_toArray, List.set_cons_zero, List.set_cons_succ, Nat.zero_add, Nat.reduceAdd, h18, h19]
                  have y1 := HCC.out x1 hR
                  have y2 : ∀ o, x1.frozen? ⟨g, o, none⟩ = false := fun o => by
                    have := hR.block g hgl
                    have h2 := HFG.out o
                    unfold World.frozen? at h2 ⊢
                    simp only [this]
                    exact h2
                  have y3 : g < x1.heap.size := Nat.lt_of_lt_of_le hgl hR.size
                  have hY2 := setI (hG'.out.below hR) (k := j) (by rw [HC.out.1]; exact hjl) (c1 : Int)
                  have HC2 : Hid (Cur a b i j ((File.pre a b (r + 1) j : Nat) : Int) (ys'.set j (c1 : Int))) := Lib.hid (by rw [← HC1.out]; exact HC.out.set_ hjl _)
                  have hon2 : Only g w5 (x1.setCell ⟨g, j, none⟩ (iv (c1 : Int))) := (hon.next hR (by omega)).trans (Only.set_ g j _ _)
                  have HY2 := Lib.hid hY2
                  clear hY2
                  go_wp2_with fail
                  go_roundw
                  case rel => exact ⟨r + 1, _, by omega, by go_num, HC2, HY2, hon2⟩
                  case measure => simp [intOf]; omega
              · have hrr : ¬ (r : Int) < (i : Int) := by omega
                have hre : r = i := by omega
                have HPR : Hid (c0 = File.pre a b i j) := Lib.hid (by rw [hc0, hre])
                have hcl : c0 ≤ 24 := by rw [HPR.out]; exact Nat.le_trans (File.pre_le a b i j) (by omega)
                have e3 : IntKind.i64.wrap ((c0 : Int) + 1) = (c0 : Int) + 1 := IntWalk.i64_in _ (by omega)
                have hY2 := setI HY.out (k := j) (by rw [HC.out.1]; exact hjl) ((c0 : Int) + 1)
                have HC2 : Hid (Cur a b i (j + 1) 0 (ys'.set j ((c0 : Int) + 1))) := Lib.hid (Cur.next (by
                  have hl : File.lev a b i j = (c0 : Int) + 1 := by unfold File.lev; rw [HAB.out.1, HAB.out.2, if_pos (by rw [HEQ.out]), HPR.out]
                  rw [hl]
                  exact HC.out.set_ hjl _) hjl)
                have hon2 : Only g w5 (wr.setCell ⟨g, j, none⟩ (iv ((c0 : Int) + 1))) := hon.trans (Only.set_ g j _ _)
                have HY2 := Lib.hid hY2
                have hfg := HFG.out
                clear hY2 hc0 hre hr hOr hfi
                go_wp2_with fail
                go_roundw
                case rel => exact ⟨j + 1, _, by omega, by go_num, HC2, HY2, hon2⟩
                case measure => simp [intOf]; omega
          · have heq : (sa.toList == sb.toList) = false := by rw [hsq]; simpa using hsab
            have hcur : Cur a b i (j + 1) 0 ys := by
              refine Cur.next (?_) hjl
              have : File.lev a b i j = 0 := by unfold File.lev; rw [HAB.out.1, HAB.out.2, if_neg (fun e => hsab (Option.some.inj e))]
              rw [this]; exact HC.out
            have HC2 := Lib.hid hcur
            clear hsq hsab hcur
            go_wp2_with fail
            go_roundw
            case rel => exact ⟨j + 1, ys, by omega, by go_num, HC2, HY, hon⟩
            case measure => simp [intOf]; omega
        · have hjj : ¬ (j : Int) < (b.length : Int) := by omega
          have hje : j = b.length := by omega
          have hyr : ys = File.rowL a b i := by
            have := HC.out
            rw [hje] at this
            exact this.full
          have hY := HY.out
          rw [hyr] at hY
          have HY2 := Lib.hid hY
          have HO2 := Lib.hid (Only.own hon HO5.out (by simp [Value.ownBlock]; omega))
          have hsx := hon.below.size
          have HRN : Hid (RowsL a b G wr (i + 1) (rs.set i ⟨some ⟨g, 0, none⟩, b.length, File.rowL a b i⟩)) := Lib.hid fun k r hk hr => by
            by_cases he : k = i
            · subst he
              rw [List.getElem?_set_self hiR] at hr
              have hr := (Option.some.inj hr).symm
              subst hr
              simp only [File.rowL_len]
              exact ⟨HY2.out.base (by omega), True.intro, Nat.le_refl _⟩
            · rw [List.getElem?_set_ne (by omega)] at hr
              obtain ⟨q1, q2, q3, q4⟩ := HR5.out k r (by omega) hr
              exact ⟨Only.own hon q1 q4, q2, q3⟩
          have HL2 : Hid ((rs.set i (⟨some ⟨g, 0, none⟩, b.length, File.rowL a b i⟩ : Rw Int)).length = a.length) := Lib.hid (by rw [List.length_set]; exact HRL.out)
          have hbx : Below w.heap.size w wr := hb5.trans (hon.below.mono (by omega))
          have hGx : G < wr.heap.size := by omega
          clear hY hyr HC HY
          go_wp2_with fail
          go_roundw
          case rel => exact ⟨i + 1, _, by omega, by go_num, HL2, HO2, HRN, hbx, hGx⟩
          case measure => simp [intOf]; omega
    · have hii : ¬ (i : Int) < (a.length : Int) := by omega
      have hie : i = a.length := by omega
      have HM : Hid (rs.map Rw.xs = File.levs a b) := Lib.hid (by
        apply List.ext_getElem?
        intro k
        rw [List.getElem?_map]
        by_cases hk : k < a.length
        · obtain ⟨r, hr⟩ : ∃ r, rs[k]? = some r := ⟨_, List.getElem?_eq_getElem (by rw [HRL.out]; exact hk)⟩
          rw [hr, File.levs_at a b hk, Option.map_some, (HR.out k r (by omega) hr).2.1]
        · rw [List.getElem?_eq_none (by rw [HRL.out]; omega), List.getElem?_eq_none (by rw [File.levs_len]; omega)]; rfl)
      have HA : Hid (∀ r ∈ rs, Own intE 3 w.heap.size wr (.slice r.A r.xs.length r.c) r.xs ∧ r.xs.length ≤ r.c) := Lib.hid fun r hm => by
        obtain ⟨k, hk⟩ := List.getElem?_of_mem hm
        have hkl := (List.getElem?_eq_some_iff.1 hk).1
        rw [HRL.out] at hkl
        obtain ⟨q1, q2, q3⟩ := HR.out k r (by omega) hk
        exact ⟨q1.base hG0, q3⟩
      have HOB := Lib.hid (HO.out.base hG0)
      clear hie HR HO hown2
      go_wp2_with fail
      go_ret2
      exact ⟨_, rfl, rs, HOB.out, HA.out, HM.out, hbr⟩
end Fl
end Go.Proofs.YtekkhnjepcebkaaGreatDoor
