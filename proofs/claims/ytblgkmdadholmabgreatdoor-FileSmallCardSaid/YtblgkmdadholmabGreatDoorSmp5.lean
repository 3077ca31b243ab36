/- What the proof of the claim's theorem uses, part 5. The conditions stand in each statement. -/
import Derived.Test.YtblgkmdadholmabGreatDoorSmp4
set_option linter.unusedVariables false
set_option linter.unusedSimpArgs false
set_option maxRecDepth 100000
section
namespace Go.Proofs.YtblgkmdadholmabGreatDoor
namespace Fl
open Go.RowKit Go.Shelf
def mulRen : Ren := ⟨fun x => match x with | 212 => 68 | 263 => 120 | 264 => 121 | n => n,
 fun x => match x with | 46 => 106 | 51 => 167 | 146 => 168 | 53 => 170 | 148 => 171 | n => n, fun n => n⟩
theorem mulLays : Lays.n212 Tryz.prog mulRen where
 mixed := by kernel_rfl
 f212 := by kernel_rfl
 f263 := by kernel_rfl
 f264 := by kernel_rfl
 t46 := by kernel_rfl
 a46 := fun _ => by kernel_rfl
 z46 := fun _ => by kernel_rfl
 v46 := fun _ => by kernel_rfl
 t51 := by kernel_rfl
 a51 := fun _ => by kernel_rfl
 z51 := fun _ => by kernel_rfl
 v51 := fun _ => by kernel_rfl
 t53 := by kernel_rfl
 a53 := fun _ => by kernel_rfl
 z53 := fun _ => by kernel_rfl
 v53 := fun _ => by kernel_rfl
 t146 := by kernel_rfl
 a146 := fun _ => by kernel_rfl
 z146 := fun _ => by kernel_rfl
 v146 := fun _ => by kernel_rfl
 t148 := by kernel_rfl
 a148 := fun _ => by kernel_rfl
 z148 := fun _ => by kernel_rfl
 v148 := fun _ => by kernel_rfl
theorem zero_int : ∃ i z, (Tryz.prog).info? 3 = some i ∧ i.zero = some z ∧ z.cells.toList = intE.cells 0 := by
 obtain ⟨i, h1, h2, _⟩ := info_parts (P := Tryz.prog) (e := 3) (z := iv 0) (size := 1) (bytes := 8) (by kernel_rfl);exact ⟨i, iv 0, h1, h2, rfl⟩
theorem mul_spec (n : Nat) (h : n ≤ 1000) (w : World) : Calls Tryz.prog 68 #[.int .u64 1, .int .u64 n] w fun e w' => e = .returned (.tuple #[.int .u64 0, .int .u64 n]) ∧ w = w' := by
 have := Any.bits_Mul mulLays 1 n (by omega) (by omega) w;rw [Nat.one_mul, Nat.div_eq_of_lt (by omega), Nat.mod_eq_of_lt (by omega)] at this;exact this.mono fun _ _ h => ⟨h.1, h.2.symm⟩
theorem rep_splice (x : Int) (n k m : Nat) (h : k + m ≤ n) : splice (List.replicate k x ++ List.replicate (n - k) 0) k (List.replicate m x) = List.replicate (k + m) x ++ List.replicate (n - (k + m)) 0 := by
 unfold splice;rw [List.take_append_of_le_length (by simp), List.take_of_length_le (by simp), List.drop_append, List.drop_of_length_le (by simp), List.drop_replicate, List.nil_append, List.length_replicate, List.length_replicate, ← List.append_assoc, List.replicate_append_replicate]
 congr 2
 omega
theorem rep_at (x : Int) (n k j : Nat) (y : Int) (m : Nat) (hm : m ≤ k) (h : (List.replicate m x)[j]? = some y) : ((List.replicate k x ++ List.replicate (n - k) 0).map iv).toArray[j]? = some (iv y) := by
 have hj : j < m := by have := (List.getElem?_eq_some_iff.1 h).1; simpa using this
 rw [List.getElem?_replicate, if_pos hj] at h;injection h with h;subst h;simp [List.getElem?_append_left, List.getElem?_replicate, show j < k by omega]
set_option maxHeartbeats 4000000 in
theorem repeat1_at (x : Int) (n : Nat) (w : World) (hn : n ≤ 1000) (g : Nat) (hg : g < w.heap.size) (hx0 : w.cell? ⟨g, 0, none⟩ = some (iv x)) : Calls Tryz.prog 117 #[.slice (some ⟨g, 0, none⟩) 1 1, iv n] w fun e w' =>
  ∃ v, e = .returned v ∧ Own intE 3 w.heap.size w' v (List.replicate n x) ∧ Below w.heap.size w w' := by
 have hsz : ((Tryz.prog).info? 3).map (·.size) = some 1 := by kernel_rfl
 by_cases h0 : n = 0
 ·subst h0
  go_enter Tryz.func117, Tryz.ntmps117
  go_wp2_with (first
   | (go_at_call 68; refine (mul_spec 0 (by omega) _).mono ?_; rintro e w1 ⟨rfl, rfl⟩)
   | (at_make; refine wpMakeN intE tyInts 0 zero_int rfl _ _ rfl 0 rfl rfl (by unfold big; omega) ?_; intro w1 hown1 hb1; have hfull := hown1.full; rw [flat_int] at hfull; obtain ⟨hB1, hB1'⟩ := hfull; obtain ⟨w2, hcp, hB2, hb2⟩ := run_copyG (ty := 3) (ys := []) Tryz.underlying31 hsz hB1 0 0 0 1 1 rfl (b := g) (off := 0) (fun j y h => by cases h) (by simp)))
  go_loopw [8] (fun k wr => k = iv 0 ∧ wr = w2) (fun _ _ => 0)
  case atStart => exact ⟨rfl, rfl⟩
  case round =>
   obtain ⟨rfl, rfl⟩ := hrel
   go_wp2
   go_ret;refine ⟨_, rfl, ?_, hb1.trans hb2⟩;exact Own.ofBlk (xs := []) (by simpa [splice] using hB2) nL (by simp [maxLen])
 ·go_enter Tryz.func117, Tryz.ntmps117
  go_wp2_with (first
   | (go_at_call 68; refine (mul_spec n hn _).mono ?_; rintro e w1 ⟨rfl, rfl⟩)
   | (at_make; refine wpMakeN intE tyInts 0 zero_int rfl _ _ rfl n rfl rfl (by unfold big; omega) ?_; intro w1 hown1 hb1; have hfull := hown1.full; rw [flat_int] at hfull; obtain ⟨hB1, hB1'⟩ := hfull; obtain ⟨w2, hcp, hB2, hb2⟩ := run_copyG (ty := 3) (ys := [x]) Tryz.underlying31 hsz hB1 0 n n 1 1 ((Nat.min_eq_left (show 1 ≤ n by omega)).symm) (b := g) (off := 0) (fun j y h => by
      match j, h with
      | 0, h => (injection h with h; subst h; exact (hb1.cell (p := ⟨g, 0, none⟩) hg).trans hx0)) (by simp; omega)))
  have hB2' : Blk w2 w.heap.size 3 ((List.replicate 1 x ++ List.replicate (n - 1) 0).map iv).toArray := by
   have := rep_splice x n 0 1 (by omega);simp only [Nat.zero_add, List.replicate_zero, List.nil_append, Nat.sub_zero] at this;rw [← this];exact hB2
  have hbA := hb1.trans hb2;clear hB2 hcp hown1 hB1 hb1 hb2 hB1'
  go_loopw [8] (fun k wr => ∃ i : Nat, k = iv i ∧ 1 ≤ i ∧ i ≤ n ∧ Blk wr w.heap.size 3 ((List.replicate i x ++ List.replicate (n - i) 0).map iv).toArray ∧ Below w.heap.size w wr) (fun k _ => n - (intOf k).toNat)
  case atStart => exact ⟨1, rfl, by omega, by omega, hB2', hbA⟩
  case round =>
   obtain ⟨i, rfl, hi1, hin, hB, hb⟩ := hrel
   by_cases hlt : i < n
   ·obtain ⟨m, hm⟩ : ∃ m, m = Nat.min i (n - i) := ⟨_, rfl⟩;have hm1 : 1 ≤ m := by rw [hm]; exact Nat.le_min.2 ⟨by omega, by omega⟩
    have hm2 : m ≤ i := by rw [hm]; exact Nat.min_le_left _ _
    have hm3 : m ≤ n - i := by rw [hm]; exact Nat.min_le_right _ _
    obtain ⟨w3, hcp, hB3, hb3⟩ := run_copyG (P := Tryz.prog) (ty := 3) (w := wr.drew) (ys := List.replicate m x) Tryz.underlying31 hsz (show Blk wr.drew w.heap.size _ _ from hB) i (n - i) (n - i) i n (by rw [List.length_replicate]; exact hm) (b := w.heap.size) (off := 0) (fun j y h => by
     rw [Nat.zero_add, (show Blk wr.drew w.heap.size _ _ from hB).cell j];exact rep_at x n i j y m hm2 h) (by simp; omega)
    rw [rep_splice x n i m (by omega)] at hB3;rw [List.length_replicate] at hcp;have HB3 := lH hB3;clear hB3
    go_wp2
    have ha1 : IntKind.i64.wrap ((i : Int) + (m : Int)) = ((i + m : Nat) : Int) := IntWalk.i64_in _ (by omega);clear hm
    go_region
    clear hcp ha1;go_roundw
    case rel => exact ⟨_, _, _, _, _, _, _, _, _, _, _, _, _, _, ⟨i + m, rfl, by omega, by omega, HB3.out, hb.drew.trans hb3⟩, by push_cast; rfl⟩
    case measure => simp [intOf]; omega
   ·obtain rfl : i = n := by omega
    go_wp2
    go_ret;refine ⟨_, rfl, ?_, hb⟩;have := Own.ofBlk (E := intE) (B := w.heap.size) (xs := List.replicate i x) (by rw [flat_int]; simpa using hB) nL (by simp [maxLen]; omega)
    simpa using this
end Fl
end Go.Proofs.YtblgkmdadholmabGreatDoor
namespace Go.Proofs.YtblgkmdadholmabGreatDoor
namespace File
def putGo (old : List Int) (acc : List Int) (l : List (Nat × Nat)) : List Int := l.foldl (fun acc p => acc.set p.2 (old.getD p.1 0)) acc
def sinceAt (V : List (List ByteArray)) : Nat → List Int
 | 0 => List.replicate (V.getD 0 []).length 0
 | v + 1 => putGo (sinceAt V v) (List.replicate (V.getD (v + 1) []).length ((v + 1 : Nat) : Int)) (common (V.getD v []) (V.getD (v + 1) []))
theorem put_len (old : List Int) : ∀ (l : List (Nat × Nat)) (acc : List Int), (putGo old acc l).length = acc.length
 | [], _ => rfl
 | p :: l, acc => by
  show (putGo old (acc.set p.2 (old.getD p.1 0)) l).length = _
  rw [put_len old l, List.length_set]
theorem since_len (V : List (List ByteArray)) : ∀ v, (sinceAt V v).length = (V.getD v []).length
 | 0 => by simp [sinceAt]
 | v + 1 => by
  unfold sinceAt;rw [put_len, List.length_replicate]
theorem put_snoc (old acc : List Int) (l : List (Nat × Nat)) (p : Nat × Nat) : putGo old acc (l ++ [p]) = (putGo old acc l).set p.2 (old.getD p.1 0) := by
 unfold putGo;rw [List.foldl_append]; rfl
theorem since_take (V : List (List ByteArray)) (n : Nat) : ∀ v, v < n → sinceAt (V.take n) v = sinceAt V v
 | 0, h => by
  unfold sinceAt;have : (V.take n).getD 0 [] = V.getD 0 [] := by simp [List.getD_eq_getElem?_getD, List.getElem?_take, h]
  rw [this]
 | v + 1, h => by
  have ih := since_take V n v (by omega);have e1 : (V.take n).getD v [] = V.getD v [] := by simp [List.getD_eq_getElem?_getD, List.getElem?_take, show v < n by omega]
  have e2 : (V.take n).getD (v + 1) [] = V.getD (v + 1) [] := by simp [List.getD_eq_getElem?_getD, List.getElem?_take, h]
  unfold sinceAt;rw [ih, e1, e2]
theorem common_at {a b : List ByteArray} {p : Nat × Nat} (h : p ∈ common a b) : p.1 < a.length ∧ p.2 < b.length := by
 have : ∀ (l : List (Nat × Nat)) (i j : Nat), Pairs a b i j l → p ∈ l → p.1 < a.length ∧ p.2 < b.length := by
  intro l
  induction l with
  | nil => intro i j _ h; cases h
  | cons q r ih =>
   intro i j ⟨_, _, ⟨h1, h2, _⟩, h4⟩ hm
   rcases List.mem_cons.1 hm with rfl | hm
   ·exact ⟨h1, h2⟩
   ·exact ih _ _ h4 hm
 exact this _ 0 0 (common_pairs a b) h
end File
namespace Fl
open Go.RowKit
theorem ownI {e : TypeId} {B : Nat} {w : World} {v : Value} {xs : List Int} (h : Own intE e B w v xs) {k : Nat} (hk : k < xs.length) : ∃ g c x, v = .slice (some ⟨g, 0, none⟩) xs.length c ∧ B ≤ g ∧ g < w.heap.size ∧ xs[k]? = some x ∧ w.cell? ⟨g, k, none⟩ = some (iv x) ∧ ∀ o, w.frozen? ⟨g, o, none⟩ = false := by
 rcases h.2 with ⟨_, hn⟩ | ⟨g, cap, cur, rfl, hb, hg, hc, _⟩
 ·have := List.eq_nil_of_length_eq_zero hn; subst this; simp at hk
 ·obtain ⟨b, off, x, hA, _, hx, hcell⟩ := Sl.atI h.sl hk
  cases hA
  rw [Nat.zero_add] at hcell;exact ⟨g, cap, x, rfl, hb, Blk.lt (t := e) (cs := cur) hg, hx, hcell, Blk.frozen (t := e) (cs := cur) hg⟩
theorem setI {e : TypeId} {B : Nat} {w : World} {g n c : Nat} {xs : List Int} (h : Own intE e B w (.slice (some ⟨g, 0, none⟩) n c) xs) {k : Nat} (hk : k < xs.length) (y : Int) : Own intE e B (w.setCell ⟨g, k, none⟩ (iv y)) (.slice (some ⟨g, 0, none⟩) n c) (xs.set k y) := by
 have := Own.setAt h (k := k) (j := 0) (x := xs[k]) (y := y) (u := iv y) (List.getElem?_eq_getElem hk) rfl (by decide)
 simpa [intE] using this
set_option maxHeartbeats 8000000 in
theorem since_spec (A : Option Addr) (rs : List (Rw ByteArray)) (c : Nat) (w : World) (n : Nat) (hn : rs.length = n + 1) (hm : n ≤ 100) (hs : Sl (rwE ByteArray) w A rs) (hr : RowsR strE w rs) (hg : ∀ r ∈ rs, Good r.xs) :
  Calls Tryz.prog 64 #[.slice A rs.length c] w fun e w' => ∃ v, e = .returned (.tuple #[v, iv 0]) ∧ Own intE 3 w.heap.size w' v (File.sinceAt (rs.map Rw.xs) n) ∧ Below w.heap.size w w' := by
 obtain ⟨V, hV⟩ : ∃ V, V = rs.map Rw.xs := ⟨_, rfl⟩;rw [← hV];have HV : Hid (∀ (k : Nat) (x : Rw ByteArray), rs[k]? = some x → V.getD k [] = x.xs) := lH fun k x h => by rw [hV, List.getD_eq_getElem?_getD, List.getElem?_map, h]; rfl
 have HG := lH hg;have HRR := lH fun W (h : Below w.heap.size w W) => hr.below h
 have hm0 : ((rs.length : Int) == 0) = false := by simp; intro h; rw [h] at hn; simp at hn
 have hrl : rs.length ≤ 101 := (by omega);have HN := lH hn;clear hV hg hr hn
 go_enter Tryz.func64, Tryz.ntmps64
 (go_wp2_with fail)
 go_loopw [5, 6, 15] (fun _ _ i wr => ∃ k : Nat, k ≤ rs.length ∧ i = iv k ∧ Below w.heap.size w wr) (fun _ _ i _ => rs.length - (intOf i).toNat)
 case atStart => exact ⟨0, by omega, rfl, rB⟩
 case round =>
  obtain ⟨k, hk, rfl, hbr⟩ := hrel
  by_cases hlt : k < rs.length
  ·have hki : (k : Int) < (rs.length : Int) := (by omega);obtain ⟨b, off, x, rfl, hb0, hx, hc0⟩ := Sl.atRw (hs.below hbr) hlt;have hgx := HG.out x (mem_at hx);have hxr := HRR.out _ hbr x (mem_at hx);have HC := lH (check_spec x.A x.xs x.c wr (by have := hgx.many; unfold big; omega) hxr.1);rw [check_of_good hgx] at HC;clear hx hgx hxr;(go_wp2_with fail);refine HC.out.mono ?_;rintro _ w1 ⟨rfl, hb1⟩;(go_wp2_with fail);go_roundw
   case rel => exact ⟨k + 1, by omega, by go_num, hbr.next hb1 nL⟩
   case measure => simp [intOf]; omega
  ·have hki : ¬ (k : Int) < (rs.length : Int) := (by omega);clear hk hlt;generalize wr = w2 at *;have hb02 := hbr;(go_wp2_with fail)
   go_loopw [7, 8, 9, 10, 12, 30] (fun v _ _ _ _ i wr => ∃ k : Nat, k ≤ rs.length ∧ i = iv k ∧ Hid (Own intE 3 w2.heap.size wr v (if k = 0 then [] else File.sinceAt V (k - 1))) ∧ Below w2.heap.size w2 wr) (fun _ _ _ _ _ i _ => rs.length - (intOf i).toNat)
   case atStart => exact ⟨0, by omega, rfl, Own.nil, rB⟩
   case round =>
    obtain ⟨k, hk, rfl, HO, hbr⟩ := hrel;have hb0r := hb02.next hbr nL
    by_cases hlt : k < rs.length
    ·have hki : (k : Int) < (rs.length : Int) := (by omega);obtain ⟨b, off, fr, rfl, hb0, hx, hc0⟩ := Sl.atRw (hs.below hb0r) hlt;have hgx := HG.out fr (mem_at hx);have hxm := hgx.many;have hxv := HV.out k fr hx;have HRP := lH (repeat1_at (k : Int) fr.xs.length (wr.alloc (.cells #[iv (k : Int)] 3)) (by omega) wr.heap.size (by simp) (by simp [go_sem]));have hbA : Below wr.heap.size wr (wr.alloc (.cells #[iv (k : Int)] 3)) := rB.alloc nL _;have hxr := fun W (h : Below wr.heap.size wr W) => HRR.out W (hb0r.next h nL) fr (mem_at hx)
     by_cases hk0 : k = 0
     ·have hkz : ¬ (0 : Int) < (k : Int) := (by omega);have HS0 : Hid (List.replicate fr.xs.length (k : Int) = File.sinceAt V k) := lH (by rw [hk0]; unfold File.sinceAt; rw [← hk0, hxv, hk0]; rfl);clear hx hxr hxv hk0;(go_wp2_with fail);refine HRP.out.mono ?_;rintro _ w5 ⟨v5, rfl, ho5, hb5⟩;have hbr5 := (hbr.next hbA nL).next hb5 nL;(go_wp2_with fail);go_roundw
      case rel => exact ⟨k + 1, by omega, by go_num, lH (by rw [if_neg (by omega), Nat.add_sub_cancel, ← HS0.out]; exact ho5.base (hbr.next hbA nL).size), hbr5⟩
      case measure => simp [intOf]; omega
     ·obtain ⟨q, hq⟩ : ∃ q, k = q + 1 := ⟨k - 1, by omega⟩;have hkz : (0 : Int) < (k : Int) := (by omega);have hql : q < rs.length := (by omega);have hqli : (q : Int) < (rs.length : Int) := (by omega);have eq2 : (k : Int) - 1 = (q : Int) := (by omega);have eq3 : IntKind.i64.wrap (q : Int) = (q : Int) := IntWalk.i64_in _ (by omega);have eq1 : IntKind.i64.wrap ((k : Int) - 1) = (q : Int) := by rw [eq2]; exact eq3
      obtain ⟨b', off', y, hA', _, hy, hd0⟩ := Sl.atRw (hs.below hb0r) hql;injection hA' with hA';injection hA' with e1 e2 _;subst e1; subst e2;have hgy := HG.out y (mem_at hy);have hym := hgy.many;have hyv := HV.out q y hy;have hyr := fun W (h : Below wr.heap.size wr W) => HRR.out W (hb0r.next h nL) y (mem_at hy)
      have hOO := HO.out;rw [if_neg hk0, show k - 1 = q by omega] at hOO
      have hSS : File.sinceAt V k = File.putGo (File.sinceAt V q) (List.replicate fr.xs.length (k : Int)) (File.common y.xs fr.xs) := by
       have hx2 : V.getD (q + 1) [] = fr.xs := by rw [← hq]; exact hxv
       rw [hq]
       show File.putGo (File.sinceAt V q) (List.replicate (V.getD (q + 1) []).length ((q + 1 : Nat) : Int)) (File.common (V.getD q []) (V.getD (q + 1) [])) = _
       rw [hx2, hyv]
      have holn : (File.sinceAt V q).length = y.xs.length := by rw [File.since_len, hyv]
      obtain ⟨S0, hS0⟩ : ∃ S0, S0 = File.sinceAt V q := ⟨_, rfl⟩;rw [← hS0] at hOO hSS holn;obtain ⟨L, hL⟩ : ∃ L, L = File.common y.xs fr.xs := ⟨_, rfl⟩
      have HLM : Hid (∀ p ∈ L, p.1 < S0.length ∧ p.2 < fr.xs.length) := lH fun p hp => by
       rw [holn]; rw [hL] at hp; exact File.common_at hp
      have hLl : L.length ≤ 24 := by rw [hL, File.common_length]; exact Nat.le_trans (File.lcs_most _ _) hym
      have HCM := lH fun W (h : Below wr.heap.size wr W) => common_spec y.A y.xs y.c fr.A fr.xs fr.c W hym hxm (hyr W h).1 (hxr W h).1 (fun s hs => by have := hgy.wide s hs; omega) (fun s hs => by have := hgx.wide s hs; omega)
      rw [← hL] at hSS;simp only [← hL] at HCM;have HSS := lH hSS;have HOO := lH hOO;have HKQ := lH hq;have hd1 := (hbA.cell (p := ⟨b, off + q, none⟩) hb0).trans hd0;clear hx hxr hxv hk0 hq hy hyv hyr hOO hSS holn hS0 hL HO;(go_wp2_with fail);refine HRP.out.mono ?_;rintro _ w5 ⟨v5, rfl, ho5, hb5⟩;have hbr5 := hbA.next hb5 nL;have hd5 := (hb5.cell (p := ⟨b, off + q, none⟩) (Nat.lt_of_lt_of_le hb0 hbA.size)).trans hd1;have hb5s : b < w5.heap.size := Nat.lt_of_lt_of_le (Nat.lt_of_lt_of_le hb0 hbA.size) hb5.size;(go_wp2_with fail);refine (HCM.out _ hbr5).mono ?_;rintro _ w6 ⟨v6, rfl, ho6, hb6⟩;obtain ⟨A6, c6, rfl, _, _⟩ := ho6.form;have hbr6 := hbr5.next hb6 nL;have HL6 := lH (ho6.base hbr5.size);have ho5' : Own intE 3 wr.heap.size w6 v5 (List.replicate fr.xs.length (k : Int)) := (ho5.below hb6).base hbA.size;have HOO6 := lH (HOO.out.below hbr6)
      clear ho5 hb5 hd5 hd1 hd0 ho6 hb6 HCM HRP hbA hc0;generalize wr = w3 at *;(go_wp2_with fail)
      go_loopw [12, 50] (fun _ i wx => ∃ j : Nat, j ≤ L.length ∧ i = iv j ∧ Hid (Own intE 3 w3.heap.size wx v5 (File.putGo S0 (List.replicate fr.xs.length (k : Int)) (L.take j))) ∧ Hid (Own intE 3 w2.heap.size wx u7 S0) ∧ Hid (Own pairE 136 w3.heap.size wx (.slice A6 L.length c6) L) ∧ Below w3.heap.size w6 wx) (fun _ i _ => L.length - (intOf i).toNat)
      case atStart => exact ⟨0, by omega, rfl, ho5', HOO6, HL6, rB⟩
      case round =>
       obtain ⟨j, hj, rfl, HNW, HOL, HLO, hbx⟩ := hrel
       by_cases hjl : j < L.length
       ·have hji : (j : Int) < (L.length : Int) := (by omega);obtain ⟨bl, ol, p, hA6, hbl, hp, hc0, hc1⟩ := Sl.atPr HLO.out.sl hjl;subst hA6;obtain ⟨hp1, hp2⟩ := HLM.out p (mem_at hp);have htk : L.take (j + 1) = L.take j ++ [p] := by rw [List.take_add_one, hp]; rfl
        obtain ⟨px, py⟩ := p;simp only at hp1 hp2 hc0 hc1;have hnl : (File.putGo S0 (List.replicate fr.xs.length (k : Int)) (L.take j)).length = fr.xs.length := by rw [File.put_len, List.length_replicate]
        obtain ⟨gn, cn, x0, e5, hgn, hgnl, _, hcn, hfn⟩ := ownI HNW.out (k := py) (by rw [hnl]; exact hp2);rw [hnl] at e5;subst e5;obtain ⟨go_, co, ov, e7, _, hgol, hov, hco, _⟩ := ownI HOL.out (k := px) hp1;subst e7;have hgo3 : go_ < w3.heap.size := (HOO.out.lt go_ rfl).2;have hne : go_ ≠ gn := (by omega);have hgd : S0.getD px 0 = ov := by rw [List.getD_eq_getElem?_getD, hov]; rfl
        have hbM : Below wr.heap.size wr (wr.alloc (.cells #[iv (px : Int), iv (py : Int)] 136)) := rB.alloc nL _;have HBX : Hid (Blk (wr.alloc (.cells #[iv (px : Int), iv (py : Int)] 136)) wr.heap.size 136 #[iv (px : Int), iv (py : Int)]) := lH (Blk.new _ _ _)
        go_upto_region 19 with fail
        generalize wr.alloc (.cells #[iv (px : Int), iv (py : Int)] 136) = wM at *;have HOC : Hid (∀ z, Below wM.heap.size wM z → z.cell? ⟨go_, px, none⟩ = some (iv ov)) := lH fun z h => ((hbM.next h nL).cell (p := ⟨go_, px, none⟩) hgol).trans hco
        have HNC : Hid (∀ z, Below wM.heap.size wM z → z.cell? ⟨gn, py, none⟩ = some (iv x0) ∧ (∀ o, z.frozen? ⟨gn, o, none⟩ = false) ∧ gn < z.heap.size) := lH fun z h => ⟨((hbM.next h nL).cell (p := ⟨gn, py, none⟩) hgnl).trans hcn, fun o => by
         have := (hbM.next h nL).block gn hgnl;have h2 := hfn o;unfold World.frozen? at h2 ⊢;simp only [this];exact h2, Nat.lt_of_lt_of_le hgnl (hbM.next h nL).size⟩
        have HNM := lH fun z (h : Below wM.heap.size wM z) => HNW.out.below (hbM.next h nL)
        have HOM := lH fun z (h : Below wM.heap.size wM z) => HOL.out.below (hbM.next h nL)
        have HLX := lH fun z (h : Below wM.heap.size wM z) => HLO.out.below (hbM.next h nL)
        have hpxi : (px : Int) < (S0.length : Int) := (by omega);have hpyi : (py : Int) < (fr.xs.length : Int) := (by omega);clear hc0 hc1 hp hcn hfn hco hov
        refine wp_free_lit (by kernel_rfl) 9 (by kernel_rfl) (by kernel_rfl) (by decide) (fun _ x => Below wM.heap.size wM x) (fun x x' => Below x.heap.size x x')
         [fun _ u _ => u = .slice (some ⟨gn, 0, none⟩) fr.xs.length cn,
          fun _ u _ => u = .pointer (some ⟨wr.heap.size, 1, none⟩),
          fun _ u _ => u = iv (py : Int),
          fun _ u _ => u = .slice (some ⟨go_, 0, none⟩) S0.length co,
          fun _ u _ => u = .pointer (some ⟨wr.heap.size, 0, none⟩),
          fun _ u _ => u = iv (px : Int),
          fun _ u _ => u = .pointer (some ⟨go_, px, none⟩),
          fun _ u _ => u = iv ov,
          fun _ u _ => u = .pointer (some ⟨gn, py, none⟩)]
         (Below.refl _ wM).drew ?_ ?_
        ·simp only [List.take_succ_cons, List.take_zero, HopL];refine ⟨?_, ?_, ?_, ?_, ?_, ?_, ?_, ?_, ?_, trivial⟩
         ·refine fv fun v n x hn hR hk => ?_
          exact tV
         ·refine fv fun v n x hn hR hk => ?_
          exact tV
         ·refine fv fun v n x hn hR hk => ?_
          have h1 : v 1 = .pointer (some ⟨wr.heap.size, 1, none⟩) := hk.at 1;have g0 := (Blk.under HBX.out hR).cell 0;have g1 := (Blk.under HBX.out hR).cell 1;exact tV
         ·refine fv fun v n x hn hR hk => ?_
          exact tV
         ·refine fv fun v n x hn hR hk => ?_
          exact tV
         ·refine fv fun v n x hn hR hk => ?_
          have h4 : v 4 = .pointer (some ⟨wr.heap.size, 0, none⟩) := hk.at 4;have g0 := (Blk.under HBX.out hR).cell 0;have g1 := (Blk.under HBX.out hR).cell 1;exact tV
         ·refine fv fun v n x hn hR hk => ?_
          have h3 : v 3 = .slice (some ⟨go_, 0, none⟩) S0.length co := hk.at 3;have h5 : v 5 = iv (px : Int) := hk.at 5;exact tV
         ·refine fv fun v n x hn hR hk => ?_
          have h6 : v 6 = .pointer (some ⟨go_, px, none⟩) := hk.at 6;have g2 := HOC.out x hR;exact tV
         ·refine fv fun v n x hn hR hk => ?_
          have h0 : v 0 = .slice (some ⟨gn, 0, none⟩) fr.xs.length cn := hk.at 0;have h2 : v 2 = iv (py : Int) := hk.at 2;exact tV
        ·intro v n x1 hn hR hall;have h7 : v 7 = iv ov := hall 7 (by decide);have h8 : v 8 = .pointer (some ⟨gn, py, none⟩) := hall 8 (by decide);clear hall hn;simp only [List.drop_succ_cons, List.drop_zero, List.take_succ_cons, List.take_zero, frameF, Act.put, List.setIfInBounds_toArray, List.set_cons_zero, List.set_cons_succ, Nat.zero_add, Nat.reduceAdd, h7, h8];obtain ⟨y1, y2, y3⟩ := HNC.out x1 hR
         have hN2 : Own intE 3 w3.heap.size (x1.setCell ⟨gn, py, none⟩ (iv ov)) (.slice (some ⟨gn, 0, none⟩) fr.xs.length cn) (File.putGo S0 (List.replicate fr.xs.length (k : Int)) (L.take (j + 1))) := by
          rw [htk, File.put_snoc, hgd];exact setI (HNM.out x1 hR) (by rw [hnl]; exact hp2) ov
         have hO2 : Own intE 3 w2.heap.size (x1.setCell ⟨gn, py, none⟩ (iv ov)) (.slice (some ⟨go_, 0, none⟩) S0.length co) S0 := (HOM.out x1 hR).keep (by simp [World.setCell]) fun b hb => Below.heap_setCell _ _ _ _ (by
          have : go_ = b := by simpa [Value.ownBlock] using hb
          show b ≠ gn; omega)
         have hBn : ∃ cs, Blk x1 gn 3 cs := by
          rcases (HNM.out x1 hR).2 with ⟨hv, _⟩ | ⟨g', cap, cur, hv, _, hB, _⟩
          ·cases hv
          ·injection hv with k1 _ _; injection k1 with k1; injection k1 with k1 _ _; subst k1; exact ⟨cur, hB⟩
         have hL2 : Own pairE 136 w3.heap.size (x1.setCell ⟨gn, py, none⟩ (iv ov)) (.slice (some ⟨bl, ol, none⟩) L.length c6) L := (HLX.out x1 hR).keep (by simp [World.setCell]) fun b hb => Below.heap_setCell _ _ _ _ (by
          obtain ⟨cs, hB⟩ := hBn;intro e;have e : b = gn := e;subst e;exact ownNeBlk (HLX.out x1 hR) hB (by decide) hb)
         have hbz : Below w3.heap.size w6 (x1.setCell ⟨gn, py, none⟩ (iv ov)) := ((hbx.trans ((hbM.mono (Nat.le_trans hbr6.size hbx.size)).trans (hR.mono (Nat.le_trans (Nat.le_trans hbr6.size hbx.size) hbM.size))))).setCell (p := ⟨gn, py, none⟩) hgn _;have HN2 := lH hN2;have HO2 := lH hO2;have HL2 := lH hL2;clear hN2 hO2 hL2 hBn;(go_wp2_with fail);go_roundw
         case rel => exact ⟨j + 1, by omega, by go_num, HN2, HO2, HL2, hbz⟩
         case measure => simp [intOf]; omega
       ·have hji : ¬ (j : Int) < (L.length : Int) := (by omega);have hnw := HNW.out;rw [List.take_of_length_le (by omega), ← HSS.out] at hnw;have HNK := lH hnw;have hb23 := hbr.next hbr6 nL;have hb2x : Below w2.heap.size w2 wr := hb23.trans (hbx.mono hbr.size);clear hnw HNW HOL;(go_wp2_with fail);go_roundw
        case rel => exact ⟨k + 1, by omega, by go_num, lH (by rw [if_neg (by omega), Nat.add_sub_cancel]; exact HNK.out.base hbr.size), hb2x⟩
        case measure => simp [intOf]; omega
    ·have hki : ¬ (k : Int) < (rs.length : Int) := (by omega);have hn := HN.out;have hO := HO.out;rw [if_neg (by omega), show k - 1 = n by omega] at hO;have HO2 := lH (hO.base hb02.size);clear hn hO HO;(go_wp2_with fail);go_ret2;exact ⟨_, rfl, HO2.out, hb0r⟩
end Fl
end Go.Proofs.YtblgkmdadholmabGreatDoor
namespace Go.Proofs.YtblgkmdadholmabGreatDoor
namespace File
section
variable {α : Type} [DecidableEq α]
theorem lcs_end (x y : α) : ∀ (xs ys : List α), lcs (xs ++ [x]) (ys ++ [y]) = if x = y then max (max (lcs xs (ys ++ [y])) (lcs (xs ++ [x]) ys)) (lcs xs ys + 1) else max (lcs xs (ys ++ [y])) (lcs (xs ++ [x]) ys) := by
 intro xs
 induction xs with
 | nil =>
  intro ys
  induction ys with
  | nil =>
   show lcs [x] [y] = _
   rw [lcs_cons];have e0 : ∀ l : List α, lcs [] l = 0 := fun _ => rfl
   simp only [lcs_nil, List.nil_append, e0]
  | cons v ys ih =>
   show lcs (x :: []) (v :: (ys ++ [y])) = if x = y then max (max 0 (lcs (x :: []) (v :: ys))) (0 + 1) else max 0 (lcs (x :: []) (v :: ys))
   have e0 : ∀ l : List α, lcs [] l = 0 := fun _ => rfl
   rw [lcs_cons, lcs_cons];simp only [List.nil_append, e0] at ih ⊢;rw [ih]
   split <;> split <;> omega
 | cons u xs ihx =>
  intro ys
  induction ys with
  | nil =>
   have h := ihx []
   show lcs (u :: (xs ++ [x])) (y :: []) = if x = y then max (max (lcs (u :: xs) (y :: [])) (lcs (u :: (xs ++ [x])) [])) (lcs (u :: xs) [] + 1) else max (lcs (u :: xs) (y :: [])) (lcs (u :: (xs ++ [x])) [])
   rw [lcs_cons, lcs_cons];simp only [List.nil_append, lcs_nil] at h ⊢;rw [h]
   split <;> split <;> omega
  | cons v ys ihy =>
   have h1 := ihx (v :: ys);have h2 := ihx ys
   show lcs (u :: (xs ++ [x])) (v :: (ys ++ [y])) = if x = y then max (max (lcs (u :: xs) (v :: (ys ++ [y]))) (lcs (u :: (xs ++ [x])) (v :: ys))) (lcs (u :: xs) (v :: ys) + 1) else max (lcs (u :: xs) (v :: (ys ++ [y]))) (lcs (u :: (xs ++ [x])) (v :: ys))
   simp only [List.cons_append] at h1 ihy;rw [lcs_cons u v (xs ++ [x]) (ys ++ [y]), lcs_cons u v xs (ys ++ [y]), lcs_cons u v (xs ++ [x]) ys, lcs_cons u v xs ys, h1, h2, ihy];generalize lcs xs (v :: (ys ++ [y])) = A;generalize lcs (xs ++ [x]) (v :: ys) = B;generalize lcs xs (v :: ys) = C;generalize lcs (u :: xs) (ys ++ [y]) = D;generalize lcs (u :: (xs ++ [x])) ys = E;generalize lcs (u :: xs) ys = G;generalize lcs xs (ys ++ [y]) = H;generalize lcs (xs ++ [x]) ys = I;generalize lcs xs ys = J;have dist : ∀ p q : Nat, max p q + 1 = max (p + 1) (q + 1) := fun p q => by omega
   by_cases hxy : x = y
   ·by_cases huv : u = v
    ·simp only [if_pos hxy, if_pos huv, dist]; ac_rfl
    ·simp only [if_pos hxy, if_neg huv, dist]; ac_rfl
   ·by_cases huv : u = v
    ·simp only [if_neg hxy, if_pos huv, dist]; ac_rfl
    ·simp only [if_neg hxy, if_neg huv]; ac_rfl
def pre (a b : List α) (i j : Nat) : Nat := lcs (a.take i) (b.take j)
theorem pre_zero (a b : List α) (j : Nat) : pre a b 0 j = 0 := rfl
theorem pre_none (a b : List α) (i : Nat) : pre a b i 0 = 0 := by unfold pre; rw [List.take_zero]; exact lcs_nil _
theorem pre_full (a b : List α) : pre a b a.length b.length = lcs a b := by unfold pre; rw [List.take_length, List.take_length]
theorem pre_le (a b : List α) (i j : Nat) : pre a b i j ≤ i := Nat.le_trans (lcs_most _ _) (List.length_take_le _ _)
theorem pre_step {a b : List α} {i j : Nat} {x y : α} (hx : a[i]? = some x) (hy : b[j]? = some y) :
  pre a b (i + 1) (j + 1) = if x = y then max (max (pre a b i (j + 1)) (pre a b (i + 1) j)) (pre a b i j + 1) else max (pre a b i (j + 1)) (pre a b (i + 1) j) := by
 have ea : a.take (i + 1) = a.take i ++ [x] := by rw [List.take_add_one, hx]; rfl
 have eb : b.take (j + 1) = b.take j ++ [y] := by rw [List.take_add_one, hy]; rfl
 unfold pre;rw [ea, eb, lcs_end]
theorem pre_up {a b : List α} (i j : Nat) : pre a b i j ≤ pre a b (i + 1) j := by
 by_cases hi : i < a.length
 ·induction j with
  | zero => rw [pre_none, pre_none]; exact Nat.le_refl _
  | succ j ih =>
   by_cases hj : j < b.length
   ·rw [pre_step (List.getElem?_eq_getElem hi) (List.getElem?_eq_getElem hj)]
    split <;> omega
   ·unfold pre at ih ⊢;rw [List.take_of_length_le (l := b) (i := j + 1) (by omega)];rw [List.take_of_length_le (l := b) (i := j) (by omega)] at ih;exact ih
 ·unfold pre;rw [List.take_of_length_le (l := a) (i := i + 1) (by omega), List.take_of_length_le (l := a) (i := i) (by omega)];exact Nat.le_refl _
theorem pre_mono {a b : List α} {i i' : Nat} (j : Nat) (h : i ≤ i') : pre a b i j ≤ pre a b i' j := by
 obtain ⟨d, rfl⟩ := Nat.exists_eq_add_of_le h
 induction d with
 | zero => exact Nat.le_refl _
 | succ d ih => exact Nat.le_trans (ih (by omega)) (pre_up (i + d) j)
theorem pre_across {a b : List α} (i j : Nat) : pre a b i j ≤ pre a b i (j + 1) := by
 by_cases hj : j < b.length
 ·induction i with
  | zero => rw [pre_zero]; exact Nat.zero_le _
  | succ i ih =>
   by_cases hi : i < a.length
   ·rw [pre_step (List.getElem?_eq_getElem hi) (List.getElem?_eq_getElem hj)]
    split <;> omega
   ·unfold pre at ih ⊢;rw [List.take_of_length_le (l := a) (i := i + 1) (by omega)];rw [List.take_of_length_le (l := a) (i := i) (by omega)] at ih;exact ih
 ·unfold pre;rw [List.take_of_length_le (l := b) (i := j + 1) (by omega), List.take_of_length_le (l := b) (i := j) (by omega)];exact Nat.le_refl _
def lev (a b : List α) (i j : Nat) : Int := if a[i]? = b[j]? then ((pre a b i j : Nat) : Int) + 1 else 0
def rowL (a b : List α) (i : Nat) : List Int := (List.range b.length).map (lev a b i)
def levs (a b : List α) : List (List Int) := (List.range a.length).map (rowL a b)
theorem rowL_len (a b : List α) (i : Nat) : (rowL a b i).length = b.length := by simp [rowL]
theorem levs_len (a b : List α) : (levs a b).length = a.length := by simp [levs]
theorem rowL_at (a b : List α) (i : Nat) {j : Nat} (h : j < b.length) : (rowL a b i)[j]? = some (lev a b i j) := by simp [rowL, List.getElem?_map, List.getElem?_range h]
theorem levs_at (a b : List α) {i : Nat} (h : i < a.length) : (levs a b)[i]? = some (rowL a b i) := by simp [levs, List.getElem?_map, List.getElem?_range h]
theorem great_snoc (l : List Int) (x : Int) : great (l ++ [x]) = max (great l) x := by unfold great; rw [List.foldl_append]; rfl
theorem great_two (m n : Int) : great [m, n] = max (max 0 m) n := rfl
theorem great_pos (l : List Int) : 0 ≤ great l := by
 have : ∀ (l : List Int) (m : Int), m ≤ l.foldl max m := by
  intro l
  induction l with
  | nil => intro m; exact Int.le_refl _
  | cons x l ih => intro m; exact Int.le_trans (Int.le_max_left m x) (ih (max m x))
 exact this l 0
theorem pre_row {a b : List α} {r : Nat} (hr : r < a.length) : ∀ {j : Nat}, j ≤ b.length → ((pre a b (r + 1) j : Nat) : Int) = max ((pre a b r j : Nat) : Int) (great ((rowL a b r).take j)) := by
 intro j
 induction j with
 | zero => intro _; rw [pre_none, pre_none]; rfl
 | succ j ih =>
  intro hj;have ih := ih (by omega);have hjl : j < b.length := (by omega);have ht : (rowL a b r).take (j + 1) = (rowL a b r).take j ++ [lev a b r j] := by rw [List.take_add_one, rowL_at a b r hjl]; rfl
  rw [ht, great_snoc, pre_step (List.getElem?_eq_getElem hr) (List.getElem?_eq_getElem hjl)];have hm := pre_across (a := a) (b := b) r j;unfold lev;rw [List.getElem?_eq_getElem hr, List.getElem?_eq_getElem hjl]
  by_cases he : a[r] = b[j]
  ·rw [if_pos he, if_pos (by rw [he])]; omega
  ·rw [if_neg he, if_neg (fun h => he (Option.some.inj h))];have := great_pos ((rowL a b r).take j);omega
end
theorem cell_ok {a b : List ByteArray} {i j : Nat} (hi : i < a.length) (hj : j < b.length) : cellOk a b (levs a b) i j (lev a b i j) = true := by
 unfold cellOk
 have hp : ∀ r, r < i → great ((rowL a b r).take j) ≤ ((pre a b i j : Nat) : Int) := fun r hr => by
  have h1 := pre_row (a := a) (b := b) (r := r) (by omega) (j := j) (by omega);have h2 := pre_mono (a := a) (b := b) j (show r + 1 ≤ i by omega);omega
 have hrow : ∀ row ∈ (levs a b).take i, great (row.take j) ≤ ((pre a b i j : Nat) : Int) := fun row hm => by
  obtain ⟨r, hr⟩ := List.getElem?_of_mem hm
  have hri : r < i := by
   have := (List.getElem?_eq_some_iff.1 hr).1;rw [List.length_take] at this;omega
  rw [List.getElem?_take, if_pos hri, levs_at a b (by omega)] at hr;injection hr with hr;subst hr;exact hp r hri
 by_cases he : a[i]? = b[j]?
 ·have hl : lev a b i j = ((pre a b i j : Nat) : Int) + 1 := if_pos he;rw [hl];simp only [Bool.and_eq_true, List.all_eq_true, Bool.not_eq_true', Bool.and_eq_false_iff, decide_eq_false_iff_not];refine ⟨?_, fun row hm => .inr ?_⟩
  ·rw [decide_eq_false (by omega), decide_eq_false (by simpa using he)]; rfl
  ·have := hrow row hm; omega
 ·have hl : lev a b i j = 0 := if_neg he;rw [hl];simp only [Bool.and_eq_true, List.all_eq_true, Bool.not_eq_true', Bool.and_eq_false_iff, decide_eq_false_iff_not];refine ⟨?_, fun row hm => .inl (by omega)⟩;simp [he]
theorem row_go {a b : List ByteArray} {i : Nat} (hi : i < a.length) : ∀ (n j : Nat), n + j = b.length → rowGo a b (levs a b) i j (max ((pre a b i b.length : Nat) : Int) (great ((rowL a b i).take j))) ((rowL a b i).drop j) = some ((pre a b (i + 1) b.length : Nat) : Int) := by
 intro n
 induction n with
 | zero =>
  intro j hj;rw [List.drop_eq_nil_of_le (by rw [rowL_len]; omega), rowGo, pre_row hi nL, List.take_of_length_le (i := j) (by rw [rowL_len]; omega), List.take_of_length_le (i := b.length) (by rw [rowL_len]; omega)]
 | succ n ih =>
  intro j hj;have hjl : j < b.length := (by omega)
  have hd : (rowL a b i).drop j = lev a b i j :: (rowL a b i).drop (j + 1) := by
   rw [List.drop_eq_getElem_cons (by rw [rowL_len]; exact hjl)];have := rowL_at a b i hjl;rw [List.getElem?_eq_getElem (by rw [rowL_len]; exact hjl)] at this;rw [Option.some.inj this]
  have ht : (rowL a b i).take (j + 1) = (rowL a b i).take j ++ [lev a b i j] := by rw [List.take_add_one, rowL_at a b i hjl]; rfl
  rw [hd, rowGo, if_pos (cell_ok hi hjl), ← ih (j + 1) (by omega), ht, great_snoc, great_two]
  congr 1
  omega
theorem levels_go {a b : List ByteArray} : ∀ (n i : Nat), n + i = a.length → levelsGo a b (levs a b) i ((pre a b i b.length : Nat) : Int) ((levs a b).drop i) = ((lcs a b : Int), 0) := by
 intro n
 induction n with
 | zero =>
  intro i hi;rw [List.drop_eq_nil_of_le (by rw [levs_len]; omega), levelsGo, show i = a.length by omega, pre_full]
 | succ n ih =>
  intro i hi;have hil : i < a.length := (by omega)
  have hd : (levs a b).drop i = rowL a b i :: (levs a b).drop (i + 1) := by
   rw [List.drop_eq_getElem_cons (by rw [levs_len]; exact hil)];have := levs_at a b hil;rw [List.getElem?_eq_getElem (by rw [levs_len]; exact hil)] at this;rw [Option.some.inj this]
  have hr := row_go (a := a) (b := b) hil b.length 0 rfl;rw [List.take_zero, List.drop_zero, show great [] = 0 from rfl, show max ((pre a b i b.length : Nat) : Int) 0 = ((pre a b i b.length : Nat) : Int) by omega] at hr
  rw [hd, levelsGo, hr];exact ih (i + 1) (by omega)
theorem lev_in {a b : List ByteArray} (ha : a.length ≤ 24) {i : Nat} (hi : i < a.length) (j : Nat) : inr (lev a b i j) = true := by
 unfold inr lev;have := pre_le a b i j
 split <;> simp <;> omega
end File
namespace Fl
theorem bound_levs {a b : List ByteArray} (h : errOf a b = 0) (ha : a.length ≤ 24) : boundOf a b (File.levs a b) = ((File.lcs a b : Int), 0) := by
 unfold boundOf;rw [if_pos h, if_pos, if_pos]
 ·exact File.levels_go (a := a) (b := b) a.length 0 rfl
 ·rw [List.all_eq_true];intro l hl;obtain ⟨i, hi, rfl⟩ := List.mem_map.1 hl;rw [List.all_eq_true];intro n hn;obtain ⟨j, _, rfl⟩ := List.mem_map.1 hn;exact File.lev_in ha (List.mem_range.1 hi) j
 ·refine ⟨File.levs_len a b, ?_⟩;rw [List.all_eq_true];intro l hl;obtain ⟨i, hi, rfl⟩ := List.mem_map.1 hl;simp [File.rowL_len]
end Fl
end Go.Proofs.YtblgkmdadholmabGreatDoor
namespace Go.Proofs.YtblgkmdadholmabGreatDoor
open Go.RowKit
theorem stepF_grow {α : Type} (E : Enc α) {P : Program} {t e : TypeId} (hT : SlTy P t e E.sz) {ops : Array Oper} {o : Oper} {a : Act} {K : Value → World → Prop} {w : World}
  (hw : Region.wanted o (yielded ops a.tmps) = true) (s x : Operand) (ho : o.op = .call { callee := .builtin .append, args := #[s, x], argTypes := #[t, t] })
  {b0 off0 n0 cap : Nat} {xs : List α} (hxs : Sl E w (some ⟨b0, off0, none⟩) xs) (hn0 : n0 = xs.length) {g off : Nat} {n c : Nat} {ys : List α} (hy : Sl E w (some ⟨g, off, none⟩) ys) (hyn : n = ys.length) (hs : a.eval s = .slice (some ⟨b0, off0, none⟩) n0 cap) (hx : a.eval x = .slice (some ⟨g, off, none⟩) n c)
  (hg : cap < n0 + n) (hn : n0 + n ≤ big)
  (h : ∀ v' w', Own E e w.heap.size w' v' (xs ++ ys) → Below w.heap.size w w' → K v' w') : StepF P ops o a w K := by
 subst hyn hn0;obtain ⟨i, z, hi, hz, hsz, hby, hzc⟩ := hT.info;unfold big at hn
 have cells : ∀ {g off : Nat} {ys : List α}, Sl E w (some ⟨g, off, none⟩) ys → ∀ j u, (ys.flatMap E.cells)[j]? = some u → w.cell? ((⟨g, off, none⟩ : Addr).add j) = some u := fun {g off ys} hy j u hu => by
  obtain ⟨k, y, k', rfl, hk, hu⟩ := flat_inv E ys j u hu;obtain ⟨b, off', hA, _, hc⟩ := hy (by intro e; subst e; simp at hk);injection hA with hA;injection hA with e1 e2;subst e1 e2;rw [Addr.add_lit];have := hc k y hk k' u hu;rw [show off + k * E.sz + k' = off + (k * E.sz + k') from by omega] at this;exact this
 obtain ⟨v', w', hr, h2, h3⟩ := run_append_arg_grows (P := P) (w := w) t o.type e i z E.sz i.bytes hT.ht hi hz hsz rfl hzc E.pos ⟨b0, off0, none⟩ xs.length cap (xs.flatMap E.cells) (flat_length E xs) (cells hxs)
  ⟨g, off, none⟩ ys.length c (ys.flatMap E.cells) (flat_length E ys) (cells hy) hg (by unfold maxLen; omega) (by have := Nat.mul_le_mul hn hby; omega)
 refine stepF_new hw ?_ (h v' w' (by unfold Own; simpa using h2) ((Below.refl _ w).grown h3 nL (by simp)));unfold execOp;simp only [ho, resolve, invoke, builtin, Sem.run_bind, Sem.run_pure, Result.andThen_ok, List.map_toArray, List.map_cons, List.map_nil, hs, hx, hr]
namespace Fl
theorem Only.cell {g : Nat} {w w' : World} (h : Only g w w') {p : Addr} (hp : p.block < w.heap.size) (hne : p.block ≠ g) : w'.cell? p = w.cell? p := by
 unfold World.cell?;rw [h.other _ hp hne]
theorem Only.own {α : Type} {E : Enc α} {e : TypeId} {g B : Nat} {w w' : World} {v : Value} {xs : List α} (h : Only g w w') (ho : Own E e B w v xs) (hne : v.ownBlock ≠ some g) : Own E e B w' v xs :=
 ho.keep h.below.size fun b hb => h.other b (ho.lt b hb).2 fun e => hne (by rw [hb, e])
theorem Only.blk {g : Nat} {w w' : World} (h : Only g w w') {b : Nat} {t : TypeId} {cs : Array Value} (hB : Blk w b t cs) (hne : b ≠ g) : Blk w' b t cs := by
 unfold Blk at hB ⊢;rw [h.other b (Array.getElem?_eq_some_iff.1 hB).1 hne]; exact hB
theorem setRw {α : Type} {e : TypeId} {B : Nat} {w : World} {g n c : Nat} {rs : List (Rw α)} (h : Own (rwE α) e B w (.slice (some ⟨g, 0, none⟩) n c) rs) {k : Nat} (hk : k < rs.length) (y : Rw α) : Own (rwE α) e B (w.setCell ⟨g, k, none⟩ (rwv y)) (.slice (some ⟨g, 0, none⟩) n c) (rs.set k y) := by
 have := Own.setAt h (k := k) (j := 0) (x := rs[k]) (y := y) (u := rwv y) (List.getElem?_eq_getElem hk) rfl Nat.zero_lt_one
 simpa [rwE] using this
theorem ownRw {α : Type} {e : TypeId} {B : Nat} {w : World} {g n c : Nat} {rs : List (Rw α)} (h : Own (rwE α) e B w (.slice (some ⟨g, 0, none⟩) n c) rs) {k : Nat} (hk : k < rs.length) : ∃ r, rs[k]? = some r ∧ w.cell? ⟨g, k, none⟩ = some (rwv r) ∧ (∀ o, w.frozen? ⟨g, o, none⟩ = false) ∧ g < w.heap.size ∧ B ≤ g ∧ ∃ cs, Blk w g e cs := by
 rcases h.2 with ⟨hv, _⟩ | ⟨g', cap, cur, hv, hb, hg, hc, _⟩
 ·cases hv
 ·injection hv with h1 _ _;injection h1 with h1;injection h1 with h1 _ _;subst h1;obtain ⟨b, off, x, hA, _, hx, hcell⟩ := Sl.atRw h.sl hk;injection hA with hA;injection hA with e1 e2 _;subst e1; subst e2;rw [Nat.zero_add] at hcell;exact ⟨x, hx, hcell, Blk.frozen (t := e) (cs := cur) hg, Blk.lt (t := e) (cs := cur) hg, hb, cur, hg⟩
theorem zero_row : ∃ i z, (Tryz.prog).info? 31 = some i ∧ i.zero = some z ∧ z.cells.toList = (rwE Int).cells ⟨none, 0, []⟩ := by
 obtain ⟨i, h1, h2, _⟩ := info_parts (P := Tryz.prog) (e := 31) (z := .slice none 0 0) (size := 1) (bytes := 24) (by kernel_rfl);exact ⟨i, .slice none 0 0, h1, h2, rfl⟩
def Cur (a b : List ByteArray) (i j : Nat) (n : Int) (ys : List Int) : Prop := ys.length = b.length ∧ (∀ q, q < j → ys[q]? = some (File.lev a b i q)) ∧ (j < b.length → ys[j]? = some n) ∧ ∀ q, j < q → q < b.length → ys[q]? = some 0
theorem Cur.set_ {a b : List ByteArray} {i j : Nat} {n : Int} {ys : List Int} (h : Cur a b i j n ys) (hj : j < b.length) (m : Int) : Cur a b i j m (ys.set j m) := by
 obtain ⟨h1, h2, h3, h4⟩ := h;refine ⟨by rw [List.length_set]; exact h1, fun q hq => ?_, fun _ => ?_, fun q hq hb => ?_⟩
 ·rw [List.getElem?_set_ne (by omega)]; exact h2 q hq
 ·rw [List.getElem?_set_self (by omega)]
 ·rw [List.getElem?_set_ne (by omega)]; exact h4 q hq hb
theorem Cur.next {a b : List ByteArray} {i j : Nat} {ys : List Int} (h : Cur a b i j (File.lev a b i j) ys) (hj : j < b.length) : Cur a b i (j + 1) 0 ys := by
 obtain ⟨h1, h2, h3, h4⟩ := h;refine ⟨h1, fun q hq => ?_, fun hb => h4 _ (by omega) hb, fun q hq hb => h4 q (by omega) hb⟩
 by_cases e : q = j
 ·subst e; exact h3 hj
 ·exact h2 q (by omega)
theorem Cur.full {a b : List ByteArray} {i : Nat} {n : Int} {ys : List Int} (h : Cur a b i b.length n ys) : ys = File.rowL a b i := by
 obtain ⟨h1, h2, _, _⟩ := h;apply List.ext_getElem?;intro q
 by_cases hq : q < b.length
 ·rw [h2 q hq, File.rowL_at a b i hq]
 ·rw [List.getElem?_eq_none (by omega), List.getElem?_eq_none (by rw [File.rowL_len]; omega)]
theorem Cur.start (a b : List ByteArray) (i : Nat) : Cur a b i 0 0 (List.replicate b.length 0) :=
 ⟨List.length_replicate, fun q hq => absurd hq (by omega), fun hb => by rw [List.getElem?_replicate, if_pos hb], fun q _ hb => by rw [List.getElem?_replicate, if_pos hb]⟩
def RowsL (a b : List ByteArray) (B : Nat) (w : World) (i : Nat) (rs : List (Rw Int)) : Prop := ∀ k r, k < i → rs[k]? = some r → Own intE 3 B w (.slice r.A r.xs.length r.c) r.xs ∧ r.xs = File.rowL a b k ∧ r.xs.length ≤ r.c
theorem RowsL.below {a b : List ByteArray} {B i : Nat} {w w' : World} {rs : List (Rw Int)} (h : RowsL a b B w i rs) (hb : Below w.heap.size w w') : RowsL a b B w' i rs := fun k r hk hr => ⟨(h k r hk hr).1.below hb, (h k r hk hr).2⟩
theorem some_of_len {B : Nat} {w : World} {e : TypeId} {A : Option Addr} {n c : Nat} {xs : List Int} (h : Own intE e B w (.slice A n c) xs) (hc : 0 < xs.length) : ∃ g, A = some ⟨g, 0, none⟩ ∧ g < w.heap.size := by
 rcases h.2 with ⟨_, hn⟩ | ⟨g, cap, cur, hv, _, hg, _⟩
 ·omega
 ·injection hv with h1 _ _;exact ⟨g, h1, Blk.lt (t := e) (cs := cur) hg⟩
set_option maxHeartbeats 8000000 in
theorem levels_good (A : Option Addr) (a : List ByteArray) (c : Nat) (A' : Option Addr) (b : List ByteArray) (c' : Nat) (w : World) (ha : Good a) (hb : Good b) (hsa : Sl strE w A a) (hsb : Sl strE w A' b) :
  Calls Tryz.prog 8 #[.slice A a.length c, .slice A' b.length c'] w fun e w' => ∃ v rs, e = .returned (.tuple #[v, iv 0]) ∧ Own (rwE Int) 31 w.heap.size w' v rs ∧ (∀ r ∈ rs, Own intE 3 w.heap.size w' (.slice r.A r.xs.length r.c) r.xs ∧ r.xs.length ≤ r.c) ∧ rs.map Rw.xs = File.levs a b ∧ Below w.heap.size w w' := by
 have ham := ha.many;have hbm := hb.many;have HB := lH (both_spec A a c A' b c' w (by unfold big; omega) (by unfold big; omega) hsa hsb);have e0 : (if File.check a = 0 then File.check b else File.check a) = 0 := by rw [if_pos (check_of_good ha)]; exact check_of_good hb
 rw [e0] at HB;clear ha hb e0
 go_enter Tryz.func8, Tryz.ntmps8
 (go_wp2_with fail);refine HB.out.mono ?_;rintro e w1 ⟨rfl, hb1⟩;clear HB
 go_wp2_with (at_make; refine wpMakeN (rwE Int) tyRows ⟨none, 0, []⟩ zero_row rfl _ _ rfl a.length rfl rfl (by unfold big; omega) ?_; intro w2 hown2 hb2)
 have hG0 := hb1.size;have hb02 := hb1.trans (hb2.mono hG0);have hGlt : w1.heap.size < w2.heap.size := Own.lt hown2 w1.heap.size rfl |>.2
 generalize w1.heap.size = G at *;clear hb1 hb2
 go_loopw [8, 9, 10, 11, 13, 25] (fun _ _ _ _ _ v wr => ∃ (i : Nat) (rs : List (Rw Int)), i ≤ a.length ∧ v = iv i ∧ Hid (rs.length = a.length) ∧ Hid (Own (rwE Int) 31 G wr (.slice (some ⟨G, 0, none⟩) a.length a.length) rs) ∧ Hid (RowsL a b G wr i rs) ∧ Below w.heap.size w wr ∧ G < wr.heap.size) (fun _ _ _ _ _ v _ => a.length - (intOf v).toNat)
 case atStart => exact ⟨0, List.replicate a.length ⟨none, 0, []⟩, by omega, rfl, by rw [Hid]; exact List.length_replicate, hown2, fun k r hk => absurd hk (by omega), hb02, hGlt⟩
 case round =>
  obtain ⟨i, rs, hi, rfl, HRL, HO, HR, hbr, hGr⟩ := hrel
  by_cases hlt : i < a.length
  ·have hii : (i : Int) < (a.length : Int) := (by omega);obtain ⟨ba, oa, sa, rfl, hba, hxa, hca⟩ := Sl.atS (hsa.below hbr) hlt;have HXA := lH hxa;clear hxa hown2 hb02 hGlt
   have hcb0 : ∀ W, Below w.heap.size w W → W.cell? ⟨ba, oa + i, none⟩ = some (.string sa) := fun W h => by
    obtain ⟨_, _, s2, hA', _, hx2, hc2⟩ := Sl.atS (hsa.below h) hlt;injection hA' with hA';injection hA' with e1 e2 _;subst e1; subst e2;rw [HXA.out] at hx2;rw [hc2, Option.some.inj hx2]
   have hiR : i < rs.length := by rw [HRL.out]; exact hlt
   go_wp2_with (at_make; refine wpMakeN intE tyInts 0 zero_int rfl _ _ rfl b.length rfl rfl (by unfold big; omega) ?_; intro w4 hown4 hb4; obtain ⟨r0, hr0, hcG, hfG, hGl, hGG, csG, hBG⟩ := ownRw (HO.out.below hb4) hiR)
   have hO5 := setRw (HO.out.below hb4) hiR (⟨some ⟨wr.heap.size, 0, none⟩, b.length, File.rowL a b i⟩ : Rw Int);simp only [rwv, File.rowL_len] at hO5
   have hown5 : Own intE 3 wr.heap.size (w4.setCell ⟨G, i, none⟩ (.slice (some ⟨wr.heap.size, 0, none⟩) b.length b.length)) (.slice (some ⟨wr.heap.size, 0, none⟩) b.length b.length) (List.replicate b.length 0) := hown4.keep (by simp [World.setCell]) fun bq hbq => Below.heap_setCell _ _ _ _ (by
    have : wr.heap.size = bq := by simpa [Value.ownBlock] using hbq
    show bq ≠ G; omega)
   have HR5 : Hid (∀ k r, k < i → rs[k]? = some r → Own intE 3 G (w4.setCell ⟨G, i, none⟩ (.slice (some ⟨wr.heap.size, 0, none⟩) b.length b.length)) (.slice r.A r.xs.length r.c) r.xs ∧ r.xs = File.rowL a b k ∧ r.xs.length ≤ r.c ∧ (Value.slice r.A r.xs.length r.c).ownBlock ≠ some wr.heap.size) := lH fun k r hk hr => by
    obtain ⟨q1, q2, q3⟩ := HR.out k r hk hr;refine ⟨(q1.below hb4).keep (by simp [World.setCell]) fun bq hbq => Below.heap_setCell _ _ _ _ fun e => ?_, q2, q3, fun e => ?_⟩
    ·have e : bq = G := e;subst e;exact ownNeBlk (q1.below hb4) hBG (by decide) hbq
    ·exact absurd (q1.lt _ e).2 (by omega)
   have hb5 : Below w.heap.size w (w4.setCell ⟨G, i, none⟩ (.slice (some ⟨wr.heap.size, 0, none⟩) b.length b.length)) := (hbr.trans (hb4.mono hbr.size)).setCell (p := ⟨G, i, none⟩) hG0 _;have hsz5 : wr.heap.size < (w4.setCell ⟨G, i, none⟩ (.slice (some ⟨wr.heap.size, 0, none⟩) b.length b.length)).heap.size := Own.lt hown5 wr.heap.size rfl |>.2
   generalize w4.setCell ⟨G, i, none⟩ (.slice (some ⟨wr.heap.size, 0, none⟩) b.length b.length) = w5 at *;generalize wr.heap.size = g at *;clear hca hcG hfG hGl hGG hBG hr0 hown4 hb4 hba;have HO5 := lH hO5;clear hO5;generalize wr = w3 at *
   go_loopw [10, 11, 13, 38] (fun _ _ _ v wx => ∃ (j : Nat) (ys : List Int), j ≤ b.length ∧ v = iv j ∧ Hid (Cur a b i j 0 ys) ∧ Hid (Own intE 3 g wx (.slice (some ⟨g, 0, none⟩) b.length b.length) ys) ∧ Only g w5 wx) (fun _ _ _ v _ => b.length - (intOf v).toNat)
   case atStart => exact ⟨0, _, by omega, rfl, lH (Cur.start a b i), hown5, Only.refl _ _⟩
   case round =>
    obtain ⟨j, ys, hj, rfl, HC, HY, hon⟩ := hrel
    by_cases hjl : j < b.length
    ·have hjj : (j : Int) < (b.length : Int) := (by omega);have hbx : Below w.heap.size w wr := hb5.trans (hon.below.mono (by omega));obtain ⟨bb, ob, sb, rfl, hbb, hxb, hcb⟩ := Sl.atS (hsb.below hbx) hjl;have HXB := lH hxb;clear hxb;have hsq := str_eq sa sb;have HAB : Hid (a[i]? = some sa ∧ b[j]? = some sb) := lH ⟨HXA.out, HXB.out⟩;have hsx := hon.below.size;have hGx : G < wr.heap.size := (by omega);have hcax : wr.cell? ⟨ba, oa + i, none⟩ = some (.string sa) := hcb0 wr hbx
     by_cases hsab : sa = sb
     ·have heq : (sa.toList == sb.toList) = true := by rw [hsq]; simpa using hsab
      have HEQ := lH hsab;clear hsq hsab;have RC := run_cutTo (rwE Int) tyRows (some ⟨G, 0, none⟩) a.length a.length i (by omega);(go_wp2_with fail);have hconx := hon;have HY0 := HY;have HCW := lH HC.out;clear hcax hcb hon;generalize wr = wx at *
      go_loopw [13, 50] (fun _ v wy => ∃ (r : Nat) (ys' : List Int), r ≤ i ∧ v = iv r ∧ Hid (Cur a b i j ((File.pre a b r j : Nat) : Int) ys') ∧ Hid (Own intE 3 g wy (.slice (some ⟨g, 0, none⟩) b.length b.length) ys') ∧ Only g w5 wy) (fun _ v _ => i - (intOf v).toNat)
      case atStart => exact ⟨0, ys, by omega, rfl, HCW, HY0, hconx⟩
      case round =>
       clear HY0 HCW HC HY;obtain ⟨r, ys', hr, rfl, HC, HY, hon⟩ := hrel;have hsx2 := hon.below.size;have hOr := Only.own hon HO5.out (by simp [Value.ownBlock]; omega);obtain ⟨ri, hri, hci, hfi, hGi, _, _⟩ := ownRw hOr (k := i) (by rw [List.length_set]; exact hiR);rw [List.getElem?_set_self hiR] at hri;have hri := (Option.some.inj hri).symm;subst hri;simp only [rwv, File.rowL_len] at hci;obtain ⟨c0, hc0⟩ : ∃ c0, c0 = File.pre a b r j := ⟨_, rfl⟩;have hylen : ys'.length = b.length := HC.out.1;have hyj : ys'[j]? = some (c0 : Int) := by rw [hc0]; exact HC.out.2.2.1 hjl
       obtain ⟨g', cg, xg, hAg, _, hgl, hxg, hcg, hfg⟩ := ownI HY.out (k := j) (by rw [hylen]; exact hjl);injection hAg with e1 _ _;injection e1 with e1;injection e1 with e1 _ _;subst e1;rw [hyj] at hxg;have hxg := (Option.some.inj hxg).symm;subst hxg;have HFG := lH hfg;clear hfg hylen hyj
       by_cases hrl : r < i
       ·have hrr : (r : Int) < (i : Int) := (by omega);obtain ⟨rr, hrx, hcr, _, _, _, _⟩ := ownRw hOr (k := r) (by rw [List.length_set]; omega);rw [List.getElem?_set_ne (by omega)] at hrx;obtain ⟨ho5, hx5, hc5, hne5⟩ := HR5.out r rr hrl hrx;have hxl : rr.xs.length = b.length := by rw [hx5, File.rowL_len]
        have hor := Only.own hon ho5 hne5;obtain ⟨gr, hgr, hgrl⟩ := some_of_len hor (by rw [hxl]; omega);obtain ⟨rA, cr, xr⟩ := rr;simp only [rwv] at hgr hxl hcr hor hx5 hc5;subst hgr;rw [hxl] at hcr hor hc5;have HXR : Hid (∀ x, Below wr.heap.size wr x → Sl intE x (some ⟨gr, 0, none⟩) xr) := lH fun x h => hor.sl.below h
        have HOC : Hid (∀ x, Below wr.heap.size wr x → x.cell? ⟨G, i, none⟩ = some (.slice (some ⟨g, 0, none⟩) b.length b.length)) := lH fun x h => (h.cell (p := ⟨G, i, none⟩) hGi).trans hci
        have HCC : Hid (∀ x, Below wr.heap.size wr x → x.cell? ⟨g, j, none⟩ = some (iv (c0 : Int))) := lH fun x h => (h.cell (p := ⟨g, j, none⟩) hgl).trans hcg
        have HTJ : Hid ((xr.take j).length = j) := lH (by rw [List.length_take, hxl]; omega);obtain ⟨c1, hc1⟩ : ∃ c1, c1 = File.pre a b (r + 1) j := ⟨_, rfl⟩;have HTL : Hid ((xr.take j ++ [(c0 : Int)]).length = j + 1) := lH (by rw [List.length_append, HTJ.out]; rfl)
        have HGR : Hid (∀ A3 c3 x, Sl intE x A3 (xr.take j ++ [(c0 : Int)]) → Calls Tryz.prog 28 #[.slice A3 (j + 1) c3] x fun e x' => e = .returned (iv (c1 : Int)) ∧ x = x') := lH fun A3 c3 x h => by
         have := greatest_spec A3 (xr.take j ++ [(c0 : Int)]) c3 x (by rw [HTL.out]; unfold big; omega) h;rw [HTL.out, File.great_snoc, hx5] at this;have e := File.pre_row (a := a) (b := b) (r := r) (by omega) (j := j) (by omega);rw [← hc0, ← hc1] at e;rw [Int.max_comm, ← e] at this;exact this
        have HC0 := lH hc0;have HC1 := lH hc1;have hG' : Hid (Own intE 3 g wr (.slice (some ⟨g, 0, none⟩) b.length b.length) ys') := HY;clear hxl hor hx5 ho5 hne5 hci hcg hrx hc0 hc1 hOr hfi
        go_upto_region 16 with fail
        refine wp_free_lit (by kernel_rfl) 20 (by kernel_rfl) (by kernel_rfl) (by decide) (fun _ x => Below wr.heap.size wr x) (fun x x' => Below x.heap.size x x')
         [fun _ u _ => u = .slice (some ⟨G, 0, none⟩) a.length a.length,
          fun _ u _ => u = iv (i : Int),
          fun _ u _ => u = .pointer (some ⟨G, i, none⟩),
          fun _ u _ => u = .slice (some ⟨g, 0, none⟩) b.length b.length,
          fun _ u _ => u = iv (j : Int),
          fun _ u _ => u = .slice (some ⟨gr, 0, none⟩) b.length cr,
          fun _ u _ => u = iv (j : Int),
          fun _ u _ => u = iv (j : Int),
          fun _ u _ => u = .slice (some ⟨gr, 0, none⟩) j j,
          fun _ u _ => u = .slice (some ⟨G, 0, none⟩) a.length a.length,
          fun _ u _ => u = iv (i : Int),
          fun _ u _ => u = .pointer (some ⟨G, i, none⟩),
          fun _ u _ => u = .slice (some ⟨g, 0, none⟩) b.length b.length,
          fun _ u _ => u = iv (j : Int),
          fun _ u _ => u = .pointer (some ⟨g, j, none⟩),
          fun _ u _ => u = iv (c0 : Int),
          fun _ u x => ∃ A3 c3, u = .slice A3 1 c3 ∧ (∃ g3, A3 = some ⟨g3, 0, none⟩) ∧ Sl intE x A3 [(c0 : Int)],
          fun _ u x => ∃ A3 c3, u = .slice A3 (j + 1) c3 ∧ Sl intE x A3 (xr.take j ++ [(c0 : Int)]),
          fun _ u _ => u = iv (c1 : Int),
          fun _ u _ => u = .pointer (some ⟨g, j, none⟩)]
         (Below.refl _ wr).drew ?_ ?_
        ·simp only [List.take_succ_cons, List.take_zero, HopL];refine ⟨?_, ?_, ?_, ?_, ?_, ?_, ?_, ?_, ?_, ?_, ?_, ?_, ?_, ?_, ?_, ?_, ?_, ?_, ?_, ?_, trivial⟩
         ·refine fv fun v n x hn hR hk => ?_
          exact tV
         ·refine fv fun v n x hn hR hk => ?_
          exact tV
         ·refine fv fun v n x hn hR hk => ?_
          have h0 : v 0 = .slice (some ⟨G, 0, none⟩) a.length a.length := hk.at 0;have h1 : v 1 = iv (i : Int) := hk.at 1;exact tV
         ·refine fv fun v n x hn hR hk => ?_
          have h2 : v 2 = .pointer (some ⟨G, i, none⟩) := hk.at 2;have g1 := HOC.out x hR;exact tV
         ·refine fv fun v n x hn hR hk => ?_
          exact tV
         ·refine fv fun v n x hn hR hk => ?_
          exact tV
         ·refine fv fun v n x hn hR hk => ?_
          exact tV
         ·refine fv fun v n x hn hR hk => ?_
          exact tV
         ·refine fv fun v n x hn hR hk => ?_
          have h5 : v 5 = .slice (some ⟨gr, 0, none⟩) b.length cr := hk.at 5;have h6 : v 6 = iv (j : Int) := hk.at 6;have h7 : v 7 = iv (j : Int) := hk.at 7;exact tV
         ·refine fv fun v n x hn hR hk => ?_
          exact tV
         ·refine fv fun v n x hn hR hk => ?_
          exact tV
         ·refine fv fun v n x hn hR hk => ?_
          have h9 : v 9 = .slice (some ⟨G, 0, none⟩) a.length a.length := hk.at 9;have h10 : v 10 = iv (i : Int) := hk.at 10;exact tV
         ·refine fv fun v n x hn hR hk => ?_
          have h11 : v 11 = .pointer (some ⟨G, i, none⟩) := hk.at 11;have g1 := HOC.out x hR;exact tV
         ·refine fv fun v n x hn hR hk => ?_
          exact tV
         ·refine fv fun v n x hn hR hk => ?_
          have h12 : v 12 = .slice (some ⟨g, 0, none⟩) b.length b.length := hk.at 12;have h13 : v 13 = iv (j : Int) := hk.at 13;exact tV
         ·refine fv fun v n x hn hR hk => ?_
          have h14 : v 14 = .pointer (some ⟨g, j, none⟩) := hk.at 14;have g2 := HCC.out x hR;exact tV
         ·refine ⟨fun _ _ _ _ _ h => h, fun _ _ _ _ h hS => (by obtain ⟨A3, c3, e1, e2, o1⟩ := h; exact ⟨A3, c3, e1, e2, o1.below hS⟩), fun v n x hn hR hk => ?_⟩;have h15 : v 15 = iv (c0 : Int) := hk 15 (by kernel_rfl);simp only [List.take_succ_cons, List.take_zero, frameF, Act.put, List.setIfInBounds_toArray, List.set_cons_zero, List.set_cons_succ];exact stepF_new (u := .slice (some ⟨x.heap.size, 0, none⟩) 1 1) (w' := x.alloc (.cells #[iv (c0 : Int)] 3)) (by rfl) (by go_simp) ⟨⟨_, _, rfl, ⟨x.heap.size, rfl⟩, Sl.fresh intE x 3 #[iv (c0 : Int)] [(c0 : Int)] rfl (by simp [maxLen])⟩, rB.alloc nL _, hR.alloc hR.size _⟩
         ·refine ⟨fun _ _ _ _ _ h => h, fun _ _ _ _ h hS => (by obtain ⟨A3, c3, e1, o1⟩ := h; exact ⟨A3, c3, e1, o1.below hS⟩), fun v n x hn hR hk => ?_⟩;have h8 : v 8 = .slice (some ⟨gr, 0, none⟩) j j := hk 8 (by kernel_rfl);have h16 := hk 16 (by kernel_rfl);obtain ⟨A3, c3, h16, ⟨g3, rfl⟩, o16⟩ := h16;have g4 := HXR.out x hR;simp only [List.take_succ_cons, List.take_zero, frameF, Act.put, List.setIfInBounds_toArray, List.set_cons_zero, List.set_cons_succ];refine stepF_grow (n0 := j) (cap := j) (n := 1) (c := c3) intE tyInts (by rfl) _ _ rfl (Sl.take g4 j) HTJ.out.symm o16 rfl (by simpa [go_sem] using h8) (by simpa [go_sem] using h16) (by omega) (by unfold big; omega) ?_;intro v' w' ho hb;obtain ⟨A4, c4, rfl, _, _⟩ := ho.form;refine ⟨⟨A4, c4, by rw [HTL.out], ho.sl⟩, hb, hR.next hb nL⟩
         ·refine ⟨fun _ _ _ _ _ h => h, fun _ _ _ _ h hS => h, fun v n x hn hR hk => ?_⟩;have h17 := hk 17 (by kernel_rfl);obtain ⟨A3, c3, h17, o17⟩ := h17;have g5 := HGR.out _ c3 x o17;simp only [List.take_succ_cons, List.take_zero, frameF, Act.put, List.setIfInBounds_toArray, List.set_cons_zero, List.set_cons_succ];refine stepF_call (by first | rfl | simp [Region.wanted, yielded, *]) (by go_simp) g5 ?_;rintro e x' ⟨rfl, rfl⟩;exact ⟨_, rfl, rfl, rB, hR⟩
         ·refine fv fun v n x hn hR hk => ?_
          have h3 : v 3 = .slice (some ⟨g, 0, none⟩) b.length b.length := hk.at 3;have h4 : v 4 = iv (j : Int) := hk.at 4;exact tV
        ·intro v n x1 hn hR hall;have h18 : v 18 = iv (c1 : Int) := hall 18 (by decide);have h19 : v 19 = .pointer (some ⟨g, j, none⟩) := hall 19 (by decide);clear hall hn;simp only [List.drop_succ_cons, List.drop_zero, List.take_succ_cons, List.take_zero, frameF, Act.put, List.setIfInBounds_toArray, List.set_cons_zero, List.set_cons_succ, Nat.zero_add, Nat.reduceAdd, h18, h19];have y1 := HCC.out x1 hR
         have y2 : ∀ o, x1.frozen? ⟨g, o, none⟩ = false := fun o => by
          have := hR.block g hgl;have h2 := HFG.out o;unfold World.frozen? at h2 ⊢;simp only [this];exact h2
         have y3 : g < x1.heap.size := Nat.lt_of_lt_of_le hgl hR.size;have hY2 := setI (hG'.out.below hR) (k := j) (by rw [HC.out.1]; exact hjl) (c1 : Int);have HC2 : Hid (Cur a b i j ((File.pre a b (r + 1) j : Nat) : Int) (ys'.set j (c1 : Int))) := lH (by rw [← HC1.out]; exact HC.out.set_ hjl _);have hon2 : Only g w5 (x1.setCell ⟨g, j, none⟩ (iv (c1 : Int))) := (hon.next hR (by omega)).trans (Only.set_ g j _ _);have HY2 := lH hY2;clear hY2;(go_wp2_with fail);go_roundw
         case rel => exact ⟨r + 1, _, by omega, by go_num, HC2, HY2, hon2⟩
         case measure => simp [intOf]; omega
       ·have hrr : ¬ (r : Int) < (i : Int) := (by omega);have hre : r = i := (by omega);have HPR : Hid (c0 = File.pre a b i j) := lH (by rw [hc0, hre]);have hcl : c0 ≤ 24 := by rw [HPR.out]; exact Nat.le_trans (File.pre_le a b i j) (by omega)
        have e3 : IntKind.i64.wrap ((c0 : Int) + 1) = (c0 : Int) + 1 := IntWalk.i64_in _ (by omega);have hY2 := setI HY.out (k := j) (by rw [HC.out.1]; exact hjl) ((c0 : Int) + 1)
        have HC2 : Hid (Cur a b i (j + 1) 0 (ys'.set j ((c0 : Int) + 1))) := lH (Cur.next (by
         have hl : File.lev a b i j = (c0 : Int) + 1 := by unfold File.lev; rw [HAB.out.1, HAB.out.2, if_pos (by rw [HEQ.out]), HPR.out]
         rw [hl];exact HC.out.set_ hjl _) hjl)
        have hon2 : Only g w5 (wr.setCell ⟨g, j, none⟩ (iv ((c0 : Int) + 1))) := hon.trans (Only.set_ g j _ _);have HY2 := lH hY2;have hfg := HFG.out;clear hY2 hc0 hre hr hOr hfi;(go_wp2_with fail);go_roundw
        case rel => exact ⟨j + 1, _, by omega, by go_num, HC2, HY2, hon2⟩
        case measure => simp [intOf]; omega
     ·have heq : (sa.toList == sb.toList) = false := by rw [hsq]; simpa using hsab
      have hcur : Cur a b i (j + 1) 0 ys := by
       refine Cur.next (?_) hjl;have : File.lev a b i j = 0 := by unfold File.lev; rw [HAB.out.1, HAB.out.2, if_neg (fun e => hsab (Option.some.inj e))]
       rw [this]; exact HC.out
      have HC2 := lH hcur;clear hsq hsab hcur;(go_wp2_with fail);go_roundw
      case rel => exact ⟨j + 1, ys, by omega, by go_num, HC2, HY, hon⟩
      case measure => simp [intOf]; omega
    ·have hjj : ¬ (j : Int) < (b.length : Int) := (by omega);have hje : j = b.length := (by omega)
     have hyr : ys = File.rowL a b i := by
      have := HC.out;rw [hje] at this;exact this.full
     have hY := HY.out;rw [hyr] at hY;have HY2 := lH hY;have HO2 := lH (Only.own hon HO5.out (by simp [Value.ownBlock]; omega));have hsx := hon.below.size
     have HRN : Hid (RowsL a b G wr (i + 1) (rs.set i ⟨some ⟨g, 0, none⟩, b.length, File.rowL a b i⟩)) := lH fun k r hk hr => by
      by_cases he : k = i
      ·subst he;rw [List.getElem?_set_self hiR] at hr;have hr := (Option.some.inj hr).symm;subst hr;simp only [File.rowL_len];exact ⟨HY2.out.base (by omega), True.intro, Nat.le_refl _⟩
      ·rw [List.getElem?_set_ne (by omega)] at hr;obtain ⟨q1, q2, q3, q4⟩ := HR5.out k r (by omega) hr;exact ⟨Only.own hon q1 q4, q2, q3⟩
     have HL2 : Hid ((rs.set i (⟨some ⟨g, 0, none⟩, b.length, File.rowL a b i⟩ : Rw Int)).length = a.length) := lH (by rw [List.length_set]; exact HRL.out);have hbx : Below w.heap.size w wr := hb5.trans (hon.below.mono (by omega));have hGx : G < wr.heap.size := (by omega);clear hY hyr HC HY;(go_wp2_with fail);go_roundw
     case rel => exact ⟨i + 1, _, by omega, by go_num, HL2, HO2, HRN, hbx, hGx⟩
     case measure => simp [intOf]; omega
  ·have hii : ¬ (i : Int) < (a.length : Int) := (by omega);have hie : i = a.length := (by omega)
   have HM : Hid (rs.map Rw.xs = File.levs a b) := lH (by
    apply List.ext_getElem?;intro k;rw [List.getElem?_map]
    by_cases hk : k < a.length
    ·obtain ⟨r, hr⟩ : ∃ r, rs[k]? = some r := ⟨_, List.getElem?_eq_getElem (by rw [HRL.out]; exact hk)⟩;rw [hr, File.levs_at a b hk, Option.map_some, (HR.out k r (by omega) hr).2.1]
    ·rw [List.getElem?_eq_none (by rw [HRL.out]; omega), List.getElem?_eq_none (by rw [File.levs_len]; omega)]; rfl)
   have HA : Hid (∀ r ∈ rs, Own intE 3 w.heap.size wr (.slice r.A r.xs.length r.c) r.xs ∧ r.xs.length ≤ r.c) := lH fun r hm => by
    obtain ⟨k, hk⟩ := List.getElem?_of_mem hm;have hkl := (List.getElem?_eq_some_iff.1 hk).1;rw [HRL.out] at hkl;obtain ⟨q1, q2, q3⟩ := HR.out k r (by omega) hk;exact ⟨q1.base hG0, q3⟩
   have HOB := lH (HO.out.base hG0);clear hie HR HO hown2;(go_wp2_with fail);go_ret2;exact ⟨_, rfl, rs, HOB.out, HA.out, HM.out, hbr⟩
end Fl
end Go.Proofs.YtblgkmdadholmabGreatDoor
end
namespace Go.Proofs.YtblgkmdadholmabGreatDoor
section
namespace Fl
open Go.RowKit Go.Shelf
def byteE : Enc Int := ⟨fun x => [.int .u8 x], 1, fun _ => rfl, fun _ u h => by simp at h; subst h; rfl, by decide⟩
theorem Only.setCell {g : Nat} {w w' : World} (h : Only g w w') {p : Addr} (hg : g ≤ p.block) (hp : w.heap.size ≤ p.block) (v : Value) : Only g w (w'.setCell p v) :=
 ⟨h.below.setCell hg v, fun b hb hne => (Below.heap_setCell w' p v b (by omega)).trans (h.other b hb hne)⟩
theorem Only.nextB {g B : Nat} {w w1 w2 : World} (h : Only g w w1) (hb : Below B w1 w2) (hg : g ≤ B) (hB : w.heap.size ≤ B) : Only g w w2 :=
 ⟨h.below.trans (hb.mono hg), fun b hl hne => (hb.block b (by omega)).trans (h.other b hl hne)⟩
end Fl
end
end Go.Proofs.YtblgkmdadholmabGreatDoor
section
namespace Go.Proofs.YtblgkmdadholmabGreatDoor
namespace Fl
open Go.RowKit Go.Shelf
theorem conv_run {w : World} {A : Option Addr} {xs : List Int} {c : Nat} (h : Sl byteE w A xs) : (convert 111 9 (.slice A xs.length c)).run Tryz.prog w = .ok (.string (strOfNums xs)) w := by
 cases A with
 | none =>
  have hx : xs = [] := by
   by_cases h0 : xs = []
   ·exact h0
   ·obtain ⟨b, off, hA, _⟩ := h h0
    cases hA
  subst hx;exact run_convert_bytes_nil w _ 5 Tryz.underlying111 Tryz.underlying5 _ _ _ Tryz.underlying9
 | some a =>
  by_cases h0 : xs = []
  ·subst h0;exact run_convert_bytes_back w _ _ 5 a c [] Tryz.underlying111 Tryz.underlying5 Tryz.underlying9 (fun j hj => absurd hj (by simp))
  ·obtain ⟨b, off, hA, hb, hc⟩ := h h0;injection hA with hA;subst hA;refine run_convert_bytes_arg w _ 5 Tryz.underlying111 Tryz.underlying5 b off _ c xs rfl (fun i hi => ?_) _ Tryz.underlying9;have := hc i xs[i] (List.getElem?_eq_getElem hi) 0 (.int .u8 xs[i]) rfl
   simpa [byteE, List.getD, List.getElem?_eq_getElem hi] using this
end Fl
end Go.Proofs.YtblgkmdadholmabGreatDoor
namespace Go.Proofs.YtblgkmdadholmabGreatDoor
namespace Fl
open Go.RowKit Go.Shelf
theorem zeroStr : ∀ w, (zeroValue 9).run Tryz.prog w = .ok (.string ⟨#[]⟩) w := fun w => by kernel_rfl
end Fl
end Go.Proofs.YtblgkmdadholmabGreatDoor
namespace Go.Proofs.YtblgkmdadholmabGreatDoor
namespace Fl
open Go.RowKit Go.Shelf
abbrev LnOk (s : ByteArray) : Prop := File.okLine s = true ∧ s.size ≤ 40
end Fl
end Go.Proofs.YtblgkmdadholmabGreatDoor
end
namespace Go.Proofs.YtblgkmdadholmabGreatDoor
section
open Go.RowKit
theorem buildVals {P : Program} {ops : Array Oper} {rest : List Oper} {o : Oper} {a : Act} {w : World} {Q : Exit → Act → World → Prop} (hg : o.guard = none) (t e : TypeId) (len : Nat) (parts : Array (Nat × Operand)) (ho : o.op = .buildSlice t len parts)
  (vs : List Value) (hu : P.underlying t = some (.slice e)) (hsz : (P.info? e).map (·.size) = some 1) (hz : ((P.info? e).bind (·.zero)).isSome = true) (hlen : len = vs.length) (hpos : 0 < len) (hsmall : len ≤ 2 ^ 24) (hone : ∀ v ∈ vs, v.cells = #[v])
  (hparts : (parts.map fun (i, x) => (i, a.eval x)).toList = (vs.zipIdx 0).map fun x => (x.2, x.1))
  (h : wpList P ops Q rest (a.put o.dst (.slice (some ⟨w.heap.size, 0, none⟩) len len)) (w.alloc (.cells vs.toArray e))) : wpList P ops Q (o :: rest) a w := by
 cases hie : P.info? e with
 | none => simp [hie] at hsz
 | some ie =>
  simp only [hie, Option.map_some, Option.some.injEq, Option.bind_some] at hsz hz;obtain ⟨z, hzz⟩ := Option.isSome_iff_exists.1 hz;refine wpList_buildSlice hg t e len parts ho _ ie z hu hie hzz (by rw [hsz]; omega) (by rw [hsz]; omega) ?_ h;rw [hparts, hsz];exact Great.fill_flat _ _ hone (by simp [hlen])
end
section
namespace Fl
open Go.RowKit Go.Shelf
def lays105_ren : Go.Shelf.Ren := ⟨fun x => match x with | 99 => 69 | 105 => 15 | 165 => 70 | 166 => 71 | 169 => 73 | 170 => 72 | 206 => 122 | 212 => 68 | 240 => 123 | 241 => 124 | 263 => 120 | 264 => 121 | 276 => 141 | 277 => 142 | n => n, fun x => match x with | 0 => 0 | 3 => 3 | 4 => 4 | 5 => 5 | 9 => 9 | 20 => 20 | 37 => 111 | 46 => 106 | 51 => 167 | 53 => 170 | 70 => 110 | 72 => 113 | 75 => 116 | 76 => 117 | 80 => 49 | 109 => 107 | 127 => 173 | 146 => 168 | 148 => 171 | 164 => 187 | n => n, fun n => n⟩
theorem lays105 : Go.Proofs.Lays.n105 Tryz.prog lays105_ren := {
 mixed := by kernel_rfl
 f99 := by kernel_rfl
 f105 := by kernel_rfl
 f165 := by kernel_rfl
 f166 := by kernel_rfl
 f169 := by kernel_rfl
 f170 := by kernel_rfl
 f206 := by kernel_rfl
 f212 := by kernel_rfl
 f240 := by kernel_rfl
 f241 := by kernel_rfl
 f263 := by kernel_rfl
 f264 := by kernel_rfl
 f276 := by kernel_rfl
 f277 := by kernel_rfl
 t0 := by kernel_rfl
 a0 := fun _ => by kernel_rfl
 z0 := fun _ => by kernel_rfl
 v0 := fun _ => by kernel_rfl
 t3 := by kernel_rfl
 a3 := fun _ => by kernel_rfl
 z3 := fun _ => by kernel_rfl
 v3 := fun _ => by kernel_rfl
 t4 := by kernel_rfl
 a4 := fun _ => by kernel_rfl
 z4 := fun _ => by kernel_rfl
 v4 := fun _ => by kernel_rfl
 t5 := by kernel_rfl
 a5 := fun _ => by kernel_rfl
 z5 := fun _ => by kernel_rfl
 v5 := fun _ => by kernel_rfl
 t9 := by kernel_rfl
 a9 := fun _ => by kernel_rfl
 z9 := fun _ => by kernel_rfl
 v9 := fun _ => by kernel_rfl
 t20 := by kernel_rfl
 a20 := fun _ => by kernel_rfl
 z20 := fun _ => by kernel_rfl
 v20 := fun _ => by kernel_rfl
 t37 := by kernel_rfl
 a37 := fun _ => by kernel_rfl
 z37 := fun _ => by kernel_rfl
 v37 := fun _ => by kernel_rfl
 t46 := by kernel_rfl
 a46 := fun _ => by kernel_rfl
 z46 := fun _ => by kernel_rfl
 v46 := fun _ => by kernel_rfl
 t51 := by kernel_rfl
 a51 := fun _ => by kernel_rfl
 z51 := fun _ => by kernel_rfl
 v51 := fun _ => by kernel_rfl
 t53 := by kernel_rfl
 a53 := fun _ => by kernel_rfl
 z53 := fun _ => by kernel_rfl
 v53 := fun _ => by kernel_rfl
 t70 := by kernel_rfl
 a70 := fun _ => by kernel_rfl
 z70 := fun _ => by kernel_rfl
 v70 := fun _ => by kernel_rfl
 t72 := by kernel_rfl
 a72 := fun _ => by kernel_rfl
 z72 := fun _ => by kernel_rfl
 v72 := fun _ => by kernel_rfl
 t75 := by kernel_rfl
 a75 := fun _ => by kernel_rfl
 z75 := fun _ => by kernel_rfl
 v75 := fun _ => by kernel_rfl
 t76 := by kernel_rfl
 a76 := fun _ => by kernel_rfl
 z76 := fun _ => by kernel_rfl
 v76 := fun _ => by kernel_rfl
 t109 := by kernel_rfl
 a109 := fun _ => by kernel_rfl
 z109 := fun _ => by kernel_rfl
 v109 := fun _ => by kernel_rfl
 t127 := by kernel_rfl
 a127 := fun _ => by kernel_rfl
 z127 := fun _ => by kernel_rfl
 v127 := fun _ => by kernel_rfl
 t146 := by kernel_rfl
 a146 := fun _ => by kernel_rfl
 z146 := fun _ => by kernel_rfl
 v146 := fun _ => by kernel_rfl
 t148 := by kernel_rfl
 a148 := fun _ => by kernel_rfl
 z148 := fun _ => by kernel_rfl
 v148 := fun _ => by kernel_rfl
 t164 := by kernel_rfl
 a164 := fun _ => by kernel_rfl
 z164 := fun _ => by kernel_rfl
 v164 := fun _ => by kernel_rfl }
theorem extra105 : Builder.Extra Tryz.prog lays105_ren := {
 sizeBuilder := by kernel_rfl
 liesBuilder := by kernel_rfl
 t5 := by kernel_rfl
 a5 := fun _ => by kernel_rfl
 z5 := fun _ => by kernel_rfl
 v5 := fun _ => by kernel_rfl
 infoByte := by kernel_rfl
 cellsByte := by kernel_rfl
 sizeByte := by kernel_rfl
 neB5 := by decide }
theorem repeatL_len (s : List UInt8) : ∀ c, (Lib.repeatL s c).length = s.length * c
 | 0 => rfl
 | c + 1 => by
  show (s ++ Lib.repeatL s c).length = _
  rw [List.length_append, repeatL_len s c, Nat.mul_succ, Nat.add_comm]
theorem strRep_spec (s : ByteArray) (c : Nat) (w : World) (hs : s.size ≤ 10) (hc : c ≤ 100) :
  Calls Tryz.prog 15 #[.string s, iv c] w fun e w' => ∃ t, e = .returned (.string t) ∧ t.size ≤ 1000 ∧ Below w.heap.size w w' := by
 have h1 : s.size * c ≤ 10 * 100 := Nat.mul_le_mul hs hc;refine (Any.strings_Repeat lays105 extra105 s c w (by omega) (by omega)).mono ?_;rintro e w' ⟨rfl, hb⟩;refine ⟨_, rfl, ?_, hb⟩
 show (Lib.repeatL s.data.toList c).toArray.size ≤ 1000
 rw [List.size_toArray, repeatL_len];exact h1
theorem cut_to (s : ByteArray) (i : Nat) (hi : i ≤ s.size) : ∃ t : ByteArray, t.size = i ∧ ∀ W : World, (Instr.slice 9 (.string s) none (some (iv (i : Int))) none).run Tryz.prog W = .ok (.string t) W := by
 refine ⟨s.extract 0 (i : Int).toNat, ?_, fun W => ?_⟩
 ·rw [ByteArray.size_extract, Int.toNat_natCast]; omega
 ·rw [run_slice_string_to_if W 9 s .i64 i Tryz.underlying9, if_pos ⟨by omega, by omega⟩]
theorem cut_on (s : ByteArray) (i : Nat) (hi : i ≤ s.size) : ∃ t : ByteArray, t.size ≤ s.size ∧ ∀ W : World, (Instr.slice 9 (.string s) (some (iv (i : Int))) none none).run Tryz.prog W = .ok (.string t) W := by
 refine ⟨s.extract (i : Int).toNat s.size, ?_, fun W => ?_⟩
 ·rw [ByteArray.size_extract]; omega
 ·rw [run_slice_string_from_if W 9 s .i64 i Tryz.underlying9, if_pos ⟨by omega, by omega⟩]
theorem mod5 (v : Int) (w : World) (h0 : 0 ≤ v) (h9 : v ≤ 100000) : Calls Tryz.prog 30 #[iv v, iv 5] w fun e w' => e = .returned (iv (v % 5)) ∧ w = w' := by
 have h1 : Int.tmod v 5 = v % 5 := Int.tmod_eq_emod_of_nonneg h0;have h2 : IntKind.i64.wrap (v % 5) = v % 5 := IntWalk.i64_in _ (by omega);have h3 : IntKind.i64.wrap (v % 5 + 5) = v % 5 + 5 := IntWalk.i64_in _ (by omega);have h4 : Int.tmod (v % 5 + 5) 5 = v % 5 := by rw [Int.tmod_eq_emod_of_nonneg (by omega)]; omega
 go_enter Tryz.func30, Tryz.ntmps30
 (go_wp2_with fail);go_ret;exact ⟨by simp [h1, h2, h3, h4], rfl⟩
def lns5 : List ByteArray := [⟨#[97]⟩, ⟨#[98]⟩, ⟨#[97, 98]⟩, ⟨#[]⟩, ⟨#[99, 32, 49]⟩]
theorem lns5_ok : ∀ s ∈ lns5, LnOk s := by decide +kernel
set_option maxHeartbeats 2000000 in
theorem line_spec5 (n : Nat) (w : World) (hn : n ≤ 10000) : Calls Tryz.prog 10 #[iv n] w fun e w' => ∃ s, e = .returned (.string s) ∧ LnOk s ∧ Below w.heap.size w w' := by
 have HS := Sl.fresh strE w 9 #[.string ⟨#[97]⟩, .string ⟨#[98]⟩, .string ⟨#[97, 98]⟩, .string ⟨#[]⟩, .string ⟨#[99, 32, 49]⟩] lns5 rfl (by decide);have hb : Below w.heap.size w (w.alloc (.cells #[.string ⟨#[97]⟩, .string ⟨#[98]⟩, .string ⟨#[97, 98]⟩, .string ⟨#[]⟩, .string ⟨#[99, 32, 49]⟩] 9)) := rB.alloc nL _;obtain ⟨m, hm⟩ : ∃ m : Nat, (m : Int) = (n : Int) % 5 := ⟨n % 5, by omega⟩;have hm5 : m < lns5.length := by show m < 5; omega
 obtain ⟨b, off, s, hA, hb2, hs, hc⟩ := Sl.atS HS hm5;injection hA with hA;injection hA with h1 h2;subst h1 h2;have HM := lH fun W => mod5 (n : Int) W (by omega) (by omega)
 rw [← hm] at HM;have hmi : (m : Int) < 5 := by have : m < 5 := hm5; omega
 have HOK := lH (lns5_ok s (mem_at hs));clear hm HS hm5 hs;simp only [Nat.zero_add] at hc
 go_enter Tryz.func10, Tryz.ntmps10
 (go_wp2_with fail);generalize w.alloc (.cells #[.string ⟨#[97]⟩, .string ⟨#[98]⟩, .string ⟨#[97, 98]⟩, .string ⟨#[]⟩, .string ⟨#[99, 32, 49]⟩] 9) = wA at *;refine (HM.out _).mono ?_;rintro e w2 ⟨rfl, rfl⟩;(go_wp2_with fail);go_ret;exact ⟨s, rfl, HOK.out, hb⟩
set_option maxHeartbeats 4000000 in
theorem lines_spec (m n : Nat) (w : World) (hm : m ≤ 6) (hn : n ≤ 100) : Calls Tryz.prog 7 #[iv m, iv n] w fun e w' => ∃ (v : Value) (xs : List ByteArray), e = .returned v ∧ Own strE 9 w.heap.size w' v xs ∧ xs.length = m ∧ (∀ s ∈ xs, LnOk s) ∧ Below w.heap.size w w' := by
 go_enter Tryz.func7, Tryz.ntmps7
 (go_wp2_with fail)
 go_loopw [5, 6, 8] (fun v _ i wr => ∃ (k : Nat) (xs : List ByteArray), k ≤ m ∧ i = iv (k : Int) ∧ Hid (Own strE 9 w.heap.size wr v xs) ∧ Hid (xs.length = k) ∧ Hid (∀ s ∈ xs, LnOk s) ∧ Below w.heap.size w wr) (fun _ _ i _ => m - (intOf i).toNat)
 case atStart => exact ⟨0, [], Nat.zero_le _, rfl, lH Own.nil, lH rfl, (fun _ h => by cases h), rB⟩
 case round =>
  obtain ⟨k, xs, hk, rfl, HO, HL, HX, hbr⟩ := hrel
  by_cases hlt : k < m
  ·have hki : (k : Int) < (m : Int) := (by omega);have e1 : IntKind.i64.wrap ((k : Int) + 1) = (k : Int) + 1 := IntWalk.i64_in _ (by omega);obtain ⟨d, hd⟩ : ∃ d : Nat, (d : Int) = (n : Int) / ((k : Int) + 1) := ⟨n / (k + 1), by rw [Int.natCast_ediv]; push_cast; rfl⟩
   have hdn : d ≤ n := by
    have h1 : (d : Int) ≤ (n : Int) := by rw [hd]; exact Int.ediv_le_self _ (by omega)
    omega
   have e2 : Int.tdiv (n : Int) ((k : Int) + 1) = (d : Int) := by rw [Int.tdiv_eq_ediv_of_nonneg (by omega), hd]
   have e3 : IntKind.i64.wrap (d : Int) = (d : Int) := IntWalk.i64_in _ (by omega);obtain ⟨p, hp⟩ : ∃ p : Nat, (p : Int) = (n : Int) * (k : Int) := ⟨n * k, by push_cast; rfl⟩
   have hpn : p ≤ 600 := by
    have h1 : n * k ≤ 100 * 6 := Nat.mul_le_mul hn (by omega);have h2 : (p : Int) = ((n * k : Nat) : Int) := by rw [hp]; push_cast; rfl
    omega
   have e4 : IntKind.i64.wrap ((n : Int) * (k : Int)) = (p : Int) := by rw [← hp]; exact IntWalk.i64_in _ (by omega)
   obtain ⟨q, hq⟩ : ∃ q : Nat, (q : Int) = (p : Int) % 7 := ⟨p % 7, by omega⟩;have e5 : Int.tmod (p : Int) 7 = (q : Int) := by rw [Int.tmod_eq_emod_of_nonneg (by omega), hq]
   have e5w : IntKind.i64.wrap (q : Int) = (q : Int) := IntWalk.i64_in _ (by omega);have hq7 : q < 7 := (by omega);have e6 : IntKind.i64.wrap ((d : Int) + (q : Int)) = ((d + q : Nat) : Int) := by rw [← Int.natCast_add]; exact IntWalk.i64_in _ (by omega)
   have hk1 : ¬ ((k : Int) + 1 = 0) := (by omega);have HLN := lH (line_spec5 (d + q) wr (by omega));generalize d + q = z at *;have hO := HO.out;have hsz := hbr.size;have hlen : xs.length + 1 ≤ big := by have := HL.out; unfold big; omega
   clear hd hp hq;(go_wp2_with fail);refine HLN.out.mono ?_;rintro e w2 ⟨s, rfl, hs, hb2⟩;have hO2 := hO.below hb2;have hb02 := hbr.next hb2 nL;have hsz2 := hb02.size;have HS := lH hs;clear hO hs HLN
   go_wp2_with (at_builtin; refine wpApp1 strE tyStrs rfl _ _ rfl hO2 s rfl rfl rfl hsz2 hlen ?_; intro v5 w5 hown5 hb5 hk5)
   clear hk5;go_roundw
   case rel => exact ⟨k + 1, xs ++ [s], by omega, by go_num, lH hown5, lH (by rw [List.length_append, HL.out]; rfl), lH (fun x hx => by
    rcases List.mem_append.1 hx with h | h
    ·exact HX.out x h
    ·rw [List.mem_singleton.1 h]; exact HS.out), hb02.trans hb5⟩
   case measure => simp [intOf]; omega
  ·have hki : ¬ (k : Int) < (m : Int) := (by omega);obtain rfl : k = m := by omega
   (go_wp2_with fail);go_ret;exact ⟨_, rfl, _, HO.out, HL.out, HX.out, hbr⟩
theorem run_copyV {P : Program} {t e : TypeId} {ty : TypeId} (ht : P.underlying t = some (.slice e)) (hsz : (P.info? e).map (·.size) = some 1) {w : World} {g : Nat} {zs ys : List Value} (hB : Blk w g e zs.toArray) (k : Nat)
  {b off : Nat} (dl dc sl sc : Nat) (hn : ys.length = Nat.min sl dl) (hs : ∀ j y, ys[j]? = some y → w.cell? ⟨b, off + j, none⟩ = some y) (hfit : k + ys.length ≤ zs.length) (h1 : ∀ v ∈ ys, v.oneCell' = true) :
  ∃ w2, (Builtin.copy_ #[t, t] ty #[.slice (some ⟨g, k, none⟩) dl dc, .slice (some ⟨b, off, none⟩) sl sc]).run P w = .ok (iv ys.length) w2 ∧ Blk w2 g e (zs.take k ++ ys ++ zs.drop (k + ys.length)).toArray ∧ Below g w w2 := by
 refine ⟨_, run_copy_row (P := P) w t t ty e g k dl dc ⟨b, off, none⟩ sl sc zs.toArray e ys ht hsz hB hn ?_ (by simpa using hfit) h1 |>.trans ?_, ?_, below_setRow (Below.refl g w) nL (zs.take k ++ ys ++ zs.drop (k + ys.length)).toArray⟩
 ·intro j v hv;have hadd : (⟨b, off, none⟩ : Addr).add j = ⟨b, off + j, none⟩ := by unfold Addr.add; split <;> simp_all
  rw [hadd];exact hs j v hv
 ·simp [goInt]
 ·exact setRow_heap w g _ _ e _ hB
theorem rep_spliceV (x z : Value) (n k m : Nat) (h : k + m ≤ n) : (List.replicate k x ++ List.replicate (n - k) z).take k ++ List.replicate m x ++ (List.replicate k x ++ List.replicate (n - k) z).drop (k + (List.replicate m x).length) = List.replicate (k + m) x ++ List.replicate (n - (k + m)) z := by
 rw [List.take_append_of_le_length (by simp), List.take_of_length_le (by simp), List.drop_append, List.drop_of_length_le (by simp), List.drop_replicate, List.nil_append, List.length_replicate, List.length_replicate, List.replicate_append_replicate]
 congr 2
 omega
theorem rep_atV (x z : Value) (n k j : Nat) (y : Value) (m : Nat) (hm : m ≤ k) (h : (List.replicate m x)[j]? = some y) : (List.replicate k x ++ List.replicate (n - k) z).toArray[j]? = some y := by
 have hj : j < m := by have := (List.getElem?_eq_some_iff.1 h).1; simpa using this
 rw [List.getElem?_replicate, if_pos hj] at h;injection h with h;subst h;simp [List.getElem?_append_left, List.getElem?_replicate, show j < k by omega]
theorem zeroS : ∃ i z, (Tryz.prog).info? 9 = some i ∧ i.zero = some z ∧ z.cells.toList = strE.cells ⟨#[]⟩ := by
 obtain ⟨i, h1, h2, _⟩ := info_parts (P := Tryz.prog) (e := 9) (z := .string ⟨#[]⟩) (size := 1) (bytes := 16) (by kernel_rfl);exact ⟨i, .string ⟨#[]⟩, h1, h2, rfl⟩
theorem flatS (xs : List ByteArray) : xs.flatMap strE.cells = xs.map Value.string := by
 induction xs with
 | nil => rfl
 | cons x xs ih => rw [List.flatMap_cons, ih]; rfl
theorem one_rep (x : ByteArray) (m : Nat) : ∀ v ∈ List.replicate m (Value.string x), v.oneCell' = true := fun v hv => by rw [(List.mem_replicate.1 hv).2]; rfl
set_option maxHeartbeats 4000000 in
theorem repeatS_at (x : ByteArray) (n : Nat) (w : World) (h1n : 1 ≤ n) (hn : n ≤ 1000) (g : Nat) (hg : g < w.heap.size) (hx0 : w.cell? ⟨g, 0, none⟩ = some (.string x)) : Calls Tryz.prog 17 #[.slice (some ⟨g, 0, none⟩) 1 1, iv n] w fun e w' =>
  ∃ A, e = .returned (.slice A n n) ∧ Own strE 9 w.heap.size w' (.slice A n n) (List.replicate n x) ∧ Below w.heap.size w w' := by
 have hsz : ((Tryz.prog).info? 9).map (·.size) = some 1 := by kernel_rfl
 go_enter Tryz.func17, Tryz.ntmps17
 go_wp2_with (first
  | (go_at_call 68; refine (mul_spec n hn _).mono ?_; rintro e w1 ⟨rfl, rfl⟩)
  | (at_make; refine wpMakeN strE tyStrs ⟨#[]⟩ zeroS rfl _ _ rfl n rfl rfl (by unfold big; omega) ?_; intro w1 hown1 hb1; have hfull := hown1.full; rw [flatS, List.map_replicate] at hfull; obtain ⟨hB1, hB1'⟩ := hfull; obtain ⟨w2, hcp, hB2, hb2⟩ := run_copyV (ty := 3) (ys := [.string x]) Tryz.underlying23 hsz hB1 0 n n 1 1 ((Nat.min_eq_left (show 1 ≤ n by omega)).symm) (b := g) (off := 0) (fun j y h => by
     match j, h with
     | 0, h => (injection h with h; subst h; exact (hb1.cell (p := ⟨g, 0, none⟩) hg).trans hx0)) (by simp; omega) (one_rep x 1)))
 have hB2' : Blk w2 w.heap.size 9 (List.replicate 1 (Value.string x) ++ List.replicate (n - 1) (Value.string ⟨#[]⟩)).toArray := by
  have := rep_spliceV (.string x) (.string ⟨#[]⟩) n 0 1 (by omega);simp only [Nat.zero_add, List.replicate_zero, List.nil_append, Nat.sub_zero] at this;rw [← this];exact hB2
 have hbA := hb1.trans hb2;clear hB2 hcp hown1 hB1 hb1 hb2 hB1'
 go_loopw [8] (fun k wr => ∃ i : Nat, k = iv i ∧ 1 ≤ i ∧ i ≤ n ∧ Blk wr w.heap.size 9 (List.replicate i (Value.string x) ++ List.replicate (n - i) (Value.string ⟨#[]⟩)).toArray ∧ Below w.heap.size w wr) (fun k _ => n - (intOf k).toNat)
 case atStart => exact ⟨1, rfl, by omega, by omega, hB2', hbA⟩
 case round =>
  obtain ⟨i, rfl, hi1, hin, hB, hb⟩ := hrel
  by_cases hlt : i < n
  ·obtain ⟨m, hm⟩ : ∃ m, m = Nat.min i (n - i) := ⟨_, rfl⟩;have hm1 : 1 ≤ m := by rw [hm]; exact Nat.le_min.2 ⟨by omega, by omega⟩
   have hm2 : m ≤ i := by rw [hm]; exact Nat.min_le_left _ _
   have hm3 : m ≤ n - i := by rw [hm]; exact Nat.min_le_right _ _
   obtain ⟨w3, hcp, hB3, hb3⟩ := run_copyV (P := Tryz.prog) (ty := 3) (w := wr.drew) (ys := List.replicate m (Value.string x)) Tryz.underlying23 hsz (show Blk wr.drew w.heap.size _ _ from hB) i (n - i) (n - i) i n (by rw [List.length_replicate]; exact hm) (b := w.heap.size) (off := 0) (fun j y h => by
    rw [Nat.zero_add, (show Blk wr.drew w.heap.size _ _ from hB).cell j];exact rep_atV (.string x) (.string ⟨#[]⟩) n i j y m hm2 h) (by simp; omega) (one_rep x m)
   rw [rep_spliceV (.string x) (.string ⟨#[]⟩) n i m (by omega)] at hB3;rw [List.length_replicate] at hcp;have HB3 := lH hB3;clear hB3
   go_wp2
   have ha1 : IntKind.i64.wrap ((i : Int) + (m : Int)) = ((i + m : Nat) : Int) := IntWalk.i64_in _ (by omega);clear hm
   go_region
   clear hcp ha1;go_roundw
   case rel => exact ⟨_, _, _, _, _, _, _, _, _, _, _, _, _, _, ⟨i + m, rfl, by omega, by omega, HB3.out, hb.drew.trans hb3⟩, by push_cast; rfl⟩
   case measure => simp [intOf]; omega
  ·obtain rfl : i = n := by omega
   go_wp2
   go_ret;refine ⟨_, rfl, ?_, hb⟩;have := Own.ofBlk (E := strE) (B := w.heap.size) (xs := List.replicate i x) (by rw [flatS, List.map_replicate]; simpa using hB) nL (by simp [maxLen]; omega)
   simpa using this
end Fl
end
end Go.Proofs.YtblgkmdadholmabGreatDoor
section
namespace Go.Proofs.YtblgkmdadholmabGreatDoor
open Go.RowKit
structure InvOp (P : Program) (ops : Array Oper) (a₀ : Act) (I : (Nat → Bool) → (Nat → Value) → World → Prop) (i : Nat) (o : Oper) : Prop where
 step : ∀ T v w, I T v w → T i = false → (∀ j, ((masks ops.toList).getD i 0).testBit j = true → T j = true) → (∀ j, T j = true → ∀ k, ((masks ops.toList).getD j 0).testBit k = true → T k = true) →
  StepF P ops o (frameF (ops.toList.take i) 0 v a₀) w fun u w' => I (fun k => decide (k = i) || T k) (fun k => if k = i then u else v k) w'
section
variable {ops : Array Oper}
theorem inv_any (h : drawOk ops = true) {m : Nat} (ht : tailOk ops m = true) (hm : m ≤ ops.size) {P : Program} {Q : Exit → Act → World → Prop} {a₀ : Act} {I : (Nat → Bool) → (Nat → Value) → World → Prop}
  (hop : ∀ i o, ops.toList[i]? = some o → i < m → InvOp P ops a₀ I i o)
  (hend : ∀ T v w, (∀ j, j < m → T j = true) → I T v w → wpList P ops Q (ops.toList.drop m) (frameF (ops.toList.take m) 0 v a₀) w) :
  ∀ (fuel : Nat) (listed : Array Bool) (a : Act) (w : World) (v : Nat → Value), listed.size = ops.size → (∀ j, listed.getD j false = true → j < m) → Shut ops (fun i => listed.getD i false = true) → listed.toList.count false ≤ fuel →
   Agrees ops a₀ v (fun i => listed.getD i false = true) a → I (fun j => listed.getD j false) v w → wpAny P .any ops Q fuel listed a w := by
 have hall : ∀ (fuel : Nat) (listed : Array Bool) (a : Act) (w : World) (v : Nat → Value), listed.size = ops.size → (∀ j, listed.getD j false = true ↔ j < m) → listed.toList.count false ≤ fuel →
   Agrees ops a₀ v (fun i => listed.getD i false = true) a → I (fun j => listed.getD j false) v w → wpAny P .any ops Q fuel listed a w := by
  intro fuel listed a w v hsz hl hf ha hI
  have hc : listed.toList.count false = listed.toList.length - m := count_split _ m (by simp; omega) fun j hj => by
   rw [← hl j];have hb : j < listed.size := by simpa using hj
   simp [Array.getD, hb]
  have hEq : a = frameF (ops.toList.take m) 0 v a₀ := by
   have hcN := frameF_agrees h a₀ v m hm;have h1 : a.tmps = (frameF (ops.toList.take m) 0 v a₀).tmps := Array.ext_getElem? fun d => ha.same h hcN d fun i oi _ _ => hl i
   have h2 : a.defers = (frameF (ops.toList.take m) 0 v a₀).defers := ha.defers.trans hcN.defers.symm
   cases a; cases hcc : frameF (ops.toList.take m) 0 v a₀; rw [hcc] at h1 h2; simp_all
  refine tail_any h ht fuel m listed a w hsz nL hm hl (by rw [hc] at hf; simp at hf; omega) ?_;rw [hEq];exact hend _ v w (fun j hj => (hl j).2 hj) hI
 intro fuel
 induction fuel with
 | zero =>
  intro listed a w v hsz hlm hshut hfuel ha hI;refine hall 0 listed a w v hsz (fun j => ⟨hlm j, fun hj => ?_⟩) hfuel ha hI;have hb : j < listed.size := (by omega);have h0 : listed.toList.count false = 0 := (by omega)
  have hne : listed[j] ≠ false := fun e => by
   have : 0 < listed.toList.count false := List.count_pos_iff.2 (by rw [← e]; simp);omega
  simp [Array.getD, hb]
  simpa using hne
 | succ fuel ih =>
  intro listed a w v hsz hlm hshut hfuel ha hI
  by_cases hdone : ∀ j, j < m → listed.getD j false = true
  ·exact hall _ listed a w v hsz (fun j => ⟨hlm j, hdone j⟩) hfuel ha hI
  ·obtain ⟨j0, hj0, hjl⟩ : ∃ j, j < m ∧ ¬ listed.getD j false = true := by
    false_or_by_contra
    rename_i hno
    exact hdone fun j hj => Decidable.byContradiction fun hn => hno ⟨j, hj, hn⟩
   have hmask : ∀ i oi, ops.toList[i]? = some oi → (∀ e ∈ oi.after.toList, Region.binds .any e = true → listed.getD e.on false = true) → ∀ j, ((masks ops.toList).getD i 0).testBit j = true → listed.getD j false = true :=
    fun i oi hoi hafter j hb => mask_in h hshut (i + 1) i oi (by omega) hoi hafter j hb
   refine ⟨fun hr => ?_, fun i hi => ?_⟩
   ·exfalso
    have : ∀ k j, j < k → j < m → listed.getD j false = true := by
     intro k
     induction k with
     | zero => intro j hj; omega
     | succ k ihk =>
      intro j hjk hjm
      by_cases hl : listed.getD j false = true
      ·exact hl
      ·exfalso
       have hjs : j < ops.size := (by omega)
       have hmem : j ∈ Region.ready .any ops listed := by
        simp only [Region.ready, List.mem_filter, List.mem_range, Bool.and_eq_true, Bool.not_eq_true'];refine ⟨hjs, ?_, ?_⟩
        ·have hb : j < listed.size := (by omega);simp [Array.getD, hb] at hl ⊢;exact hl
        ·rw [Array.getElem?_eq_getElem hjs];simp only [Option.map_some, Option.getD_some, Array.all_eq_true_iff_forall_mem];intro e he
         by_cases hb : Region.binds .any e = true
         ·have hlt := (drawOk_spec h).2.1 j ops[j] (by simp [hjs]) e (by simpa using he) hb;simp [ihk e.on (by omega) (by omega)]
         ·simp [hb]
       rw [hr] at hmem
       cases hmem
    exact hjl (this (j0 + 1) j0 (by omega) hj0)
   ·obtain ⟨oi, hoi, hl, hafter⟩ := ready_mem hi;have hio : i < ops.size := by have := (List.getElem?_eq_some_iff.1 hoi).1; omega
    have hil : i < listed.size := (by omega)
    have hunl : ¬ listed.getD i false = true := by
     simp [Array.getD, hil] at hl ⊢;exact hl
    have him : i < m := by
     false_or_by_contra
     rename_i hno
     exact hjl (hmask i oi hoi hafter j0 (tailOk_spec ht hio (by omega) (by omega)))
    have hset := fun k => getD_set listed i k hil
    have hshut' : Shut ops (fun j => (listed.setIfInBounds i true).getD j false = true) := by
     intro j oj hj hTj e he hb
     rcases (hset j).1 hTj with hTj | rfl
     ·exact (hset _).2 (.inl (hshut j oj hj hTj e he hb))
     ·rw [hoi] at hj; injection hj with hj; subst hj;exact (hset _).2 (.inl (hafter e he hb))
    have hcount : (listed.setIfInBounds i true).toList.count false ≤ fuel := by
     have hli : listed.toList[i]'(by simpa using hil) = false := by
      have : listed[i] = false := by simpa [Array.getD, hil] using hl
      simpa using this
     have hm : 0 < listed.toList.count false := List.count_pos_iff.2 (by rw [← hli]; simp);rw [Array.toList_setIfInBounds, List.count_set (by simpa using hil), hli];simp only [beq_self_eq_true, if_true, show (true == false) = false from rfl, Bool.false_eq_true, if_false];omega
    have hlooks : ∀ d ∈ oi.looksAt ops, ∀ j oj, ops.toList[j]? = some oj → oj.dst = some d → (listed.getD j false = true ↔ j < i) := by
     intro d hd j oj hj hjd
     by_cases hji : j = i
     ·subst hji;exact ⟨fun h => absurd h hunl, fun h => absurd h (Nat.lt_irrefl _)⟩
     ·have := ((drawOk_spec h).2.2 i j oi oj d hoi hj hji hjd).2 hd
      by_cases hlt : j < i
      ·rw [if_pos hlt] at this;exact ⟨fun _ => hlt, fun _ => hmask i oi hoi hafter j this⟩
      ·rw [if_neg hlt] at this;exact ⟨fun hTj => absurd (mask_in h hshut (j + 1) j oj (by omega) hj (fun e he hb => hshut j oj hj hTj e he hb) i this) hunl, fun h => absurd h hlt⟩
    obtain ⟨he, hwn⟩ := step_alike h ha (frameF_agrees h a₀ v i (by omega)) hoi hlooks;have hF := hop i oi hoi him
    have hs := (hF.step (fun j => listed.getD j false) v w hI (by simpa using hunl) (fun j hb => hmask i oi hoi hafter j hb) (fun j hj k hb => by
     have hjs : j < ops.size := Nat.lt_of_lt_of_le (hlm j hj) hm;have hoj : ops.toList[j]? = some ops[j] := by simp [hjs]
     exact hmask j _ hoj (fun e he hb => hshut j _ hoj hj e he hb) k hb)).out
    have hnext : ∀ u w', I (fun k => decide (k = i) || listed.getD k false) (fun k => if k = i then u else v k) w' → wpAny P .any ops Q fuel (listed.setIfInBounds i true) (a.put oi.dst u) w' := by
     rintro u w' h1
     have hv : ∀ j, listed.getD j false = true → v j = (fun k => if k = i then u else v k) j := fun j hj => by
      have : j ≠ i := fun e => hunl (e ▸ hj)
      simp [this]
     have hput := (ha.swap hv).put h hoi hset;rw [if_pos (rfl : i = i)] at hput
     have hT : (fun k => (listed.setIfInBounds i true).getD k false) = fun k => decide (k = i) || listed.getD k false := by
      funext k
      have := hset k
      cases h1 : (listed.setIfInBounds i true).getD k false <;> cases h2 : listed.getD k false <;> by_cases h3 : k = i <;> simp_all
     refine ih _ _ w' (fun k => if k = i then u else v k) (by simpa using hsz) (fun j hj => ?_) hshut' hcount hput (by rw [hT]; exact h1)
     rcases (hset j).1 hj with hj | rfl
     ·exact hlm j hj
     ·exact him
    unfold wpOp;rw [show ops[i]? = some oi by simpa using hoi]
    simp only;unfold StepG at hs;rw [← hwn] at hs
    split
    ·rename_i hwt
     rw [if_pos hwt, ← he] at hs;exact .inl (givesF_wp hs hnext)
    ·rename_i hwt
     rw [if_neg hwt] at hs;exact hnext _ _ hs
theorem wp_inv {P : Program} {Q : Exit → Act → World → Prop} {id : Nat} {a : Act} {w : World} (hmx : P.follows .mixedOrders = true) (h : drawOk ops = true) (m : Nat) (ht : tailOk ops m = true) (hm : m ≤ ops.size) (I : (Nat → Bool) → (Nat → Value) → World → Prop)
  (h0 : ∀ v, I (fun _ => false) v w.drew) (hop : ∀ i o, ops.toList[i]? = some o → i < m → InvOp P ops a I i o)
  (hend : ∀ T v w, (∀ j, j < m → T j = true) → I T v w → wpList P ops Q (ops.toList.drop m) (frameF (ops.toList.take m) 0 v a) w) : (Code.region id ops true).wp P Q a w := by
 refine wp_region_any hmx ?_;refine inv_any h ht hm hop hend ops.size _ a _ (fun _ => undef) (by simp) ?_ ?_ (by simp) ?_ ?_
 ·intro j hj; simp [Array.getD] at hj
 ·intro i oi hi hT; simp [Array.getD] at hT
 ·refine ⟨rfl, rfl, fun i oi d hi hd hT => ?_, fun _ _ => rfl⟩;simp [Array.getD] at hT
 ·have : (fun j => (Array.replicate ops.size false).getD j false) = fun _ => false := by funext j; simp [Array.getD]
  rw [this];exact h0 _
def InvL (P : Program) (ops : Array Oper) (a₀ : Act) (I : (Nat → Bool) → (Nat → Value) → World → Prop) : Nat → List Oper → Prop
 | _, [] => True
 | i, o :: l => InvOp P ops a₀ I i o ∧ InvL P ops a₀ I (i + 1) l
theorem inv_from {P : Program} {a₀ : Act} {I : (Nat → Bool) → (Nat → Value) → World → Prop} : ∀ (l : List Oper) (k : Nat), InvL P ops a₀ I k l → ∀ i o, l[i]? = some o → InvOp P ops a₀ I (k + i) o := by
 intro l
 induction l with
 | nil => intro k _ i o h; simp at h
 | cons x l ih =>
  rintro k ⟨h1, h2⟩ i o h
  cases i with
  | zero => simp at h; subst h; exact h1
  | succ i => rw [show k + (i + 1) = k + 1 + i by omega]; exact ih _ h2 i o (by simpa using h)
theorem wp_inv_lit {P : Program} {Q : Exit → Act → World → Prop} {id : Nat} {a : Act} {w : World} {l : List Oper} (hmx : P.follows .mixedOrders = true) (m : Nat) (h : drawOk l.toArray = true) (ht : tailOk l.toArray m = true) (hm : m ≤ l.length) (I : (Nat → Bool) → (Nat → Value) → World → Prop)
  (h0 : ∀ v, I (fun _ => false) v w.drew) (hop : InvL P l.toArray a I 0 (l.take m))
  (hend : ∀ T v w, (∀ j, j < m → T j = true) → I T v w → wpList P l.toArray Q (l.drop m) (frameF (l.take m) 0 v a) w) : (Code.region id l.toArray true).wp P Q a w :=
 wp_inv hmx h m ht (by simpa using hm) I h0 (fun i o hi him => by
  have := inv_from (l.take m) 0 hop i o (by rw [List.getElem?_take_of_lt him]; simpa using hi)
  rwa [Nat.zero_add] at this) (by simpa using hend)
end
end Go.Proofs.YtblgkmdadholmabGreatDoor
namespace Go.Proofs.YtblgkmdadholmabGreatDoor
open Go.RowKit
structure OneOp (P : Program) (ops : Array Oper) (a₀ : Act) (s : Nat) (G : World → Prop) (c : List Value) (Pre : World → Prop) (Post : Value → World → Prop) (i : Nat) (o : Oper) : Prop where
 plain : i ≠ s → ∀ v w, G w → (∀ j, ((masks ops.toList).getD i 0).testBit j = true → j ≠ s → v j = c.getD j undef) → StepF P ops o (frameF (ops.toList.take i) 0 v a₀) w fun u w' => u = c.getD i undef ∧ w' = w
 special : i = s → ∀ v w, G w → Pre w → (∀ j, ((masks ops.toList).getD i 0).testBit j = true → j ≠ s → v j = c.getD j undef) → StepF P ops o (frameF (ops.toList.take i) 0 v a₀) w fun u w' => Post u w' ∧ G w'
section
variable {P : Program} {ops : Array Oper} {a₀ : Act} {s : Nat} {G : World → Prop} {c : List Value} {Pre : World → Prop} {Post : Value → World → Prop} {i : Nat} {o : Oper}
theorem one_plain (hi : i ≠ s) (h : ∀ v w, G w → (∀ j, ((masks ops.toList).getD i 0).testBit j = true → j ≠ s → v j = c.getD j undef) → StepF P ops o (frameF (ops.toList.take i) 0 v a₀) w fun u w' => u = c.getD i undef ∧ w' = w) : OneOp P ops a₀ s G c Pre Post i o := ⟨fun _ => h, fun e => absurd e hi⟩
theorem one_special (hi : i = s) (h : ∀ v w, G w → Pre w → (∀ j, ((masks ops.toList).getD i 0).testBit j = true → j ≠ s → v j = c.getD j undef) → StepF P ops o (frameF (ops.toList.take i) 0 v a₀) w fun u w' => Post u w' ∧ G w') : OneOp P ops a₀ s G c Pre Post i o := ⟨fun e => absurd hi e, fun _ => h⟩
end
def OneL (P : Program) (ops : Array Oper) (a₀ : Act) (s : Nat) (G : World → Prop) (c : List Value) (Pre : World → Prop) (Post : Value → World → Prop) : Nat → List Oper → Prop
 | _, [] => True
 | i, o :: l => OneOp P ops a₀ s G c Pre Post i o ∧ OneL P ops a₀ s G c Pre Post (i + 1) l
theorem StepF.mono {P : Program} {ops : Array Oper} {o : Oper} {a : Act} {w : World} {K K' : Value → World → Prop} (h : StepF P ops o a w K) (hk : ∀ u w', K u w' → K' u w') : StepF P ops o a w K' := by
 obtain ⟨h⟩ := h;refine ⟨?_⟩;unfold StepG at *
 split
 ·rename_i hw
  rw [if_pos hw] at h;unfold GivesF at *
  split <;> simp_all
  exact h.mono fun e w' ⟨u, h1, h2⟩ => ⟨u, h1, hk _ _ h2⟩
 ·rename_i hw
  rw [if_neg hw] at h;exact hk _ _ h
theorem wp_one_lit {P : Program} {Q : Exit → Act → World → Prop} {id : Nat} {a : Act} {w : World} {l : List Oper} (hmx : P.follows .mixedOrders = true) (m : Nat) (h : drawOk l.toArray = true) (ht : tailOk l.toArray m = true) (hm : m ≤ l.length) (s : Nat) (hs : s < m) (G : World → Prop) (c : List Value) (Pre : World → Prop) (Post : Value → World → Prop)
  (hG : G w.drew) (hP : Pre w.drew) (hop : OneL P l.toArray a s G c Pre Post 0 (l.take m))
  (hend : ∀ v w, G w → Post (v s) w → (∀ j, j < m → j ≠ s → v j = c.getD j undef) → wpList P l.toArray Q (l.drop m) (frameF (l.take m) 0 v a) w) : (Code.region id l.toArray true).wp P Q a w := by
 refine wp_inv_lit hmx m h ht hm (fun T v w => G w ∧ (T s = false → Pre w) ∧ (T s = true → Post (v s) w) ∧ ∀ j, T j = true → j ≠ s → v j = c.getD j undef) (fun v => ⟨hG, fun _ => hP, fun e => (by cases e), fun j e => (by cases e)⟩) ?_ ?_
 ·have key : ∀ (ls : List Oper) (k : Nat), OneL P l.toArray a s G c Pre Post k ls → InvL P l.toArray a (fun T v w => G w ∧ (T s = false → Pre w) ∧ (T s = true → Post (v s) w) ∧ ∀ j, T j = true → j ≠ s → v j = c.getD j undef) k ls := by
   intro ls
   induction ls with
   | nil => intro k _; trivial
   | cons o ls ih =>
    rintro k ⟨h1, h2⟩;refine ⟨⟨fun T v w hI hT hmk _ => ?_⟩, ih (k + 1) h2⟩;obtain ⟨i1, i2, i3, i4⟩ := hI
    by_cases hk : k = s
    ·refine (h1.special hk v w i1 (i2 (by rw [← hk]; exact hT)) fun j hj hne => i4 j (hmk j hj) hne).mono fun u w' ⟨p1, p2⟩ => ?_
     subst hk;refine ⟨p2, fun e => by simp at e, fun _ => by simpa using p1, fun j hj hne => ?_⟩;have hj' : T j = true := by simpa [hne] using hj
     show (if j = k then u else v j) = _
     rw [if_neg hne];exact i4 j hj' hne
    ·refine (h1.plain hk v w i1 fun j hj hne => i4 j (hmk j hj) hne).mono fun u w' ⟨p1, p2⟩ => ?_
     subst p2;have hsk : decide (s = k) = false := by simp; omega
     refine ⟨i1, fun e => i2 (by simpa [hsk] using e), fun e => ?_, fun j hj hne => ?_⟩
     ·show Post (if s = k then u else v s) w'
      rw [if_neg (fun e => hk e.symm)];exact i3 (by simpa [hsk] using e)
     ·show (if j = k then u else v j) = _
      by_cases hjk : j = k
      ·rw [if_pos hjk, hjk]; exact p1
      ·rw [if_neg hjk];exact i4 j (by simpa [hjk] using hj) hne
  exact key _ 0 hop
 ·intro T v w hT ⟨i1, _, i3, i4⟩;exact hend v w i1 (i3 (hT s hs)) fun j hj hne => i4 j (hT j hj) hne
theorem stepF_appA {α : Type} (E : Enc α) {P : Program} {t e : TypeId} (hT : SlTy P t e E.sz) {ops : Array Oper} {o : Oper} {a : Act} {K : Value → World → Prop} {w : World}
  (hw : Region.wanted o (yielded ops a.tmps) = true) (s x : Operand) (ho : o.op = .call { callee := .builtin .append, args := #[s, x], argTypes := #[t, t] })
  {B : Nat} {v : Value} {xs : List α} (hown : Own E e B w v xs) {A : Option Addr} {n c : Nat} {ys : List α} (hy : Sl E w A ys) (hyn : n = ys.length) (hs : a.eval s = v) (hx : a.eval x = .slice A n c)
  (hB : B ≤ w.heap.size) (hn : xs.length + ys.length ≤ big)
  (h : ∀ v' w', Own E e B w' v' (xs ++ ys) → Below B w w' → (∀ b, b < w.heap.size → v.ownBlock ≠ some b → w'.heap[b]? = w.heap[b]?) → K v' w') : StepF P ops o a w K := by
 subst hyn;obtain ⟨i, z, hi, hz, hsz, hby, hzc⟩ := hT.info;unfold big at hn
 cases A with
 | none =>
  have hys : ys = [] := by
   by_cases h0 : ys = []
   ·exact h0
   ·obtain ⟨b, off, hA, _⟩ := hy h0
    cases hA
  subst hys
  have hrun : (Builtin.append_ #[t, t] o.type #[v, .slice none 0 c]).run P w = .ok v w := by
   rcases hown.2 with ⟨rfl, hn'⟩ | ⟨g, cap, cur, rfl, _, _, hnc, _⟩
   ·simp [Builtin.append_, run_underlying hT.ht, sizeOf, typeInfo, hi, Builtin.lenOf, Builtin.firstCells]
   ·simp [Builtin.append_, run_underlying hT.ht, sizeOf, typeInfo, hi, Builtin.lenOf, Builtin.firstCells, hnc, storeCells]
  simp only [List.length_nil] at hx;refine stepF_new hw ?_ (h v w (by simpa using hown) rB fun _ _ _ => rfl);simp [execOp, ho, resolve, invoke, builtin, hs, hx, hrun, Result.andThen]
 | some ad =>
  obtain ⟨v', w', hr, h2, h3, _⟩ := run_append_own (P := P) w B t o.type e i z E.sz i.bytes hT.ht hi hz hsz rfl hzc E.pos v xs.length (xs.flatMap E.cells) hown
   ad ys.length c (ys.flatMap E.cells) (flat_length E ys) (fun j u hu => by
    obtain ⟨k, y, k', rfl, hk, hu⟩ := flat_inv E ys j u hu;obtain ⟨b, off', hA, _, hc⟩ := hy (by intro e; subst e; simp at hk);injection hA with hA;subst hA;rw [Addr.add_lit];have := hc k y hk k' u hu;rw [show off' + k * E.sz + k' = off' + (k * E.sz + k') from by omega] at this;exact this) (fun u hu => by
    obtain ⟨y, _, hu⟩ := List.mem_flatMap.1 hu;exact E.one y u hu) (by unfold maxLen; omega) (by have := Nat.mul_le_mul hn hby; omega) hB
  refine stepF_new hw ?_ (h v' w' (by unfold Own; simpa using h2) ((Below.refl B w).grown h3 hB fun k hk => (Own.lt hown k hk).1) fun b hb hv => h3.block b hb (fun e => hv e.symm));unfold execOp;simp only [ho, resolve, invoke, builtin, Sem.run_bind, Sem.run_pure, Result.andThen_ok, List.map_toArray, List.map_cons, List.map_nil, hs, hx, hr]
end Go.Proofs.YtblgkmdadholmabGreatDoor
namespace Go.Proofs.YtblgkmdadholmabGreatDoor
open Go.RowKit
structure MidOp (P : Program) (ops : Array Oper) (a₀ : Act) (s : Nat) (C R0 : World → Prop) (R1 : (Nat → Value) → World → Prop) (S S1 : World → World → Prop) (sp : Nat → Spec) (i : Nat) (o : Oper) : Prop where
 congr : i ≠ s → ∀ v v' u w, (∀ j, ((masks ops.toList).getD i 0).testBit j = true → v j = v' j) → sp i v u w → sp i v' u w
 stable : i ≠ s → ∀ v u w w', sp i v u w → S w w' → sp i v u w'
 stable1 : i ≠ s → ∀ v u w w', sp i v u w → S1 w w' → sp i v u w'
 plain : i ≠ s → ∀ v w, C w → (∀ j, ((masks ops.toList).getD i 0).testBit j = true → j ≠ s → sp j v (v j) w) → StepF P ops o (frameF (ops.toList.take i) 0 v a₀) w fun u w' => sp i v u w' ∧ S w w'
 special : i = s → ∀ v w, R0 w → (∀ j, ((masks ops.toList).getD i 0).testBit j = true → j ≠ s → sp j v (v j) w) → StepF P ops o (frameF (ops.toList.take i) 0 v a₀) w fun _ w' => R1 v w' ∧ S1 w w'
section
variable {P : Program} {ops : Array Oper} {a₀ : Act} {s : Nat} {C R0 : World → Prop} {R1 : (Nat → Value) → World → Prop} {S S1 : World → World → Prop} {sp : Nat → Spec} {i : Nat} {o : Oper}
theorem mid_plain (hi : i ≠ s) (h1 : ∀ v v' u w, (∀ j, ((masks ops.toList).getD i 0).testBit j = true → v j = v' j) → sp i v u w → sp i v' u w) (h2 : ∀ v u w w', sp i v u w → S w w' → sp i v u w') (h3 : ∀ v u w w', sp i v u w → S1 w w' → sp i v u w')
  (h : ∀ v w, C w → (∀ j, ((masks ops.toList).getD i 0).testBit j = true → j ≠ s → sp j v (v j) w) → StepF P ops o (frameF (ops.toList.take i) 0 v a₀) w fun u w' => sp i v u w' ∧ S w w') : MidOp P ops a₀ s C R0 R1 S S1 sp i o := ⟨fun _ => h1, fun _ => h2, fun _ => h3, fun _ => h, fun e => absurd e hi⟩
theorem mid_special (hi : i = s) (h : ∀ v w, R0 w → (∀ j, ((masks ops.toList).getD i 0).testBit j = true → j ≠ s → sp j v (v j) w) → StepF P ops o (frameF (ops.toList.take i) 0 v a₀) w fun _ w' => R1 v w' ∧ S1 w w') : MidOp P ops a₀ s C R0 R1 S S1 sp i o := ⟨fun e => absurd hi e, fun e => absurd hi e, fun e => absurd hi e, fun e => absurd hi e, fun _ => h⟩
end
def MidL (P : Program) (ops : Array Oper) (a₀ : Act) (s : Nat) (C R0 : World → Prop) (R1 : (Nat → Value) → World → Prop) (S S1 : World → World → Prop) (sp : Nat → Spec) : Nat → List Oper → Prop
 | _, [] => True
 | i, o :: l => MidOp P ops a₀ s C R0 R1 S S1 sp i o ∧ MidL P ops a₀ s C R0 R1 S S1 sp (i + 1) l
theorem mid_at {P : Program} {ops : Array Oper} {a₀ : Act} {s : Nat} {C R0 : World → Prop} {R1 : (Nat → Value) → World → Prop} {S S1 : World → World → Prop} {sp : Nat → Spec} : ∀ (l : List Oper) (k : Nat), MidL P ops a₀ s C R0 R1 S S1 sp k l → ∀ i o, l[i]? = some o → MidOp P ops a₀ s C R0 R1 S S1 sp (k + i) o := by
 intro l
 induction l with
 | nil => intro k _ i o h; simp at h
 | cons x l ih =>
  rintro k ⟨h1, h2⟩ i o h
  cases i with
  | zero => simp at h; subst h; exact h1
  | succ i => rw [show k + (i + 1) = k + 1 + i by omega]; exact ih _ h2 i o (by simpa using h)
theorem mid_inv {P : Program} {ops : Array Oper} {a₀ : Act} {s m : Nat} {C R0 : World → Prop} {R1 : (Nat → Value) → World → Prop} {S S1 : World → World → Prop} {sp : Nat → Spec} (hm : m ≤ ops.size)
  (hC0 : ∀ w, R0 w → C w) (hC1 : ∀ v w, R1 v w → C w) (hS0 : ∀ w w', R0 w → S w w' → R0 w') (hS1 : ∀ v w w', R1 v w → S w w' → R1 v w') (hcg : ∀ v v' w, (∀ j, ((masks ops.toList).getD s 0).testBit j = true → v j = v' j) → R1 v w → R1 v' w)
  (hall : ∀ i o, ops.toList[i]? = some o → i < m → MidOp P ops a₀ s C R0 R1 S S1 sp i o) {i : Nat} {o : Oper} (hi : ops.toList[i]? = some o) (him : i < m) :
  InvOp P ops a₀ (fun T v w => (T s = false → R0 w) ∧ (T s = true → R1 v w) ∧ (∀ j, j < m → T j = true → j ≠ s → sp j v (v j) w) ∧ ∀ j, T j = true → j < m) i o := by
 refine ⟨fun T v w hI hT hmk hcl => ?_⟩;obtain ⟨i1, i2, i3, i4⟩ := hI;have hlow : ∀ j, ((masks ops.toList).getD i 0).testBit j = true → j < m := fun j hj => i4 j (hmk j hj)
 have hlo2 : ∀ j, (decide (j = i) || T j) = true → j < m := fun j hj => by
  by_cases e : j = i
  ·rw [e]; exact him
  ·exact i4 j (by simpa [e] using hj)
 have ho := hall i o hi him;have hkn : ∀ j, ((masks ops.toList).getD i 0).testBit j = true → j ≠ s → sp j v (v j) w := fun j hj hne => i3 j (hlow j hj) (hmk j hj) hne
 have hag : ∀ (u : Value) (j : Nat), T j = true → ∀ k, ((masks ops.toList).getD j 0).testBit k = true → v k = (fun k => if k = i then u else v k) k := fun u j hj k hk => by
  have := hcl j hj k hk
  show v k = if k = i then u else v k
  rw [if_neg (fun e => by rw [e, hT] at this; cases this)]
 by_cases hk : i = s
 ·refine (ho.special hk v w (i1 (by rw [← hk]; exact hT)) hkn).mono fun u w' ⟨p1, p2⟩ => ?_
  refine ⟨fun e => by simp [hk] at e, fun _ => ?_, fun j hjm hj hne => ?_, hlo2⟩
  ·refine hcg v _ w' (fun j hj => ?_) p1;have hj' : T j = true := hmk j (by rw [hk]; exact hj)
   show v j = if j = i then u else v j
   rw [if_neg (fun e => by rw [e, hT] at hj'; cases hj')]
  ·have hji : j ≠ i := fun e => hne (e.trans hk)
   have hj' : T j = true := by simpa [hji] using hj
   show sp j _ (if j = i then u else v j) w'
   rw [if_neg hji];obtain ⟨oj, hoj⟩ : ∃ oj, ops.toList[j]? = some oj := ⟨_, List.getElem?_eq_getElem (by simp; omega)⟩;have hj2 := hall j oj hoj hjm;exact hj2.congr hne _ _ _ _ (hag u j hj') (hj2.stable1 hne _ _ _ _ (i3 j hjm hj' hne) p2)
 ·have hsi : decide (s = i) = false := by simp; omega
  have hCw : C w := by
   cases hTs : T s with
   | false => exact hC0 w (i1 hTs)
   | true => exact hC1 v w (i2 hTs)
  refine (ho.plain hk v w hCw hkn).mono fun u w' ⟨p1, p2⟩ => ?_
  refine ⟨fun e => hS0 _ _ (i1 (by simpa [hsi] using e)) p2, fun e => ?_, fun j hjm hj hne => ?_, hlo2⟩
  ·have e' : T s = true := by simpa [hsi] using e
   exact hcg v _ w' (hag u s e') (hS1 _ _ _ (i2 e') p2)
  ·show sp j _ (if j = i then u else v j) w'
   by_cases hji : j = i
   ·rw [if_pos hji, hji];refine ho.congr hk v _ _ _ (fun k hk' => ?_) p1;have := hmk k hk'
    show v k = if k = i then u else v k
    rw [if_neg (fun e => by rw [e, hT] at this; cases this)]
   ·have hj' : T j = true := by simpa [hji] using hj
    rw [if_neg hji];obtain ⟨oj, hoj⟩ : ∃ oj, ops.toList[j]? = some oj := ⟨_, List.getElem?_eq_getElem (by simp; omega)⟩;have hj2 := hall j oj hoj hjm;exact hj2.congr hne _ _ _ _ (hag u j hj') (hj2.stable hne _ _ _ _ (i3 j hjm hj' hne) p2)
theorem wp_mid_lit {P : Program} {Q : Exit → Act → World → Prop} {id : Nat} {a : Act} {w : World} {l : List Oper} (hmx : P.follows .mixedOrders = true) (m : Nat) (h : drawOk l.toArray = true) (ht : tailOk l.toArray m = true) (hm : m ≤ l.length) (s : Nat) (hs : s < m) (C R0 : World → Prop) (R1 : (Nat → Value) → World → Prop) (S S1 : World → World → Prop) (sps : List Spec)
  (hR : R0 w.drew) (hC0 : ∀ w, R0 w → C w) (hC1 : ∀ v w, R1 v w → C w) (hS0 : ∀ w w', R0 w → S w w' → R0 w') (hS1 : ∀ v w w', R1 v w → S w w' → R1 v w') (hcg : ∀ v v' w, (∀ j, ((masks l).getD s 0).testBit j = true → v j = v' j) → R1 v w → R1 v' w)
  (hop : MidL P l.toArray a s C R0 R1 S S1 (fun i => sps.getD i fun _ _ _ => True) 0 (l.take m))
  (hend : ∀ v w, R1 v w → (∀ j, j < m → j ≠ s → (sps.getD j fun _ _ _ => True) v (v j) w) → wpList P l.toArray Q (l.drop m) (frameF (l.take m) 0 v a) w) : (Code.region id l.toArray true).wp P Q a w := by
 have hall : ∀ i o, l.toArray.toList[i]? = some o → i < m → MidOp P l.toArray a s C R0 R1 S S1 (fun i => sps.getD i fun _ _ _ => True) i o := fun i o hi him => by
  have := mid_at (l.take m) 0 hop i o (by rw [List.getElem?_take_of_lt him]; simpa using hi)
  rwa [Nat.zero_add] at this
 refine wp_inv hmx h m ht (by simpa using hm) (fun T v w => (T s = false → R0 w) ∧ (T s = true → R1 v w) ∧ (∀ j, j < m → T j = true → j ≠ s → (sps.getD j fun _ _ _ => True) v (v j) w) ∧ ∀ j, T j = true → j < m) (fun v => ⟨fun _ => hR, fun e => (by cases e), fun j _ e => (by cases e), fun j e => (by cases e)⟩) (fun i o hi him => mid_inv (by simpa using hm) hC0 hC1 hS0 hS1 (by simpa using hcg) hall hi him) ?_;intro T v w hT ⟨_, i2, i3, _⟩
 simpa using hend v w (i2 (hT s hs)) fun j hj hne => i3 j hj (hT j hj) hne
theorem stepF_store {P : Program} {ops : Array Oper} {o : Oper} {a : Act} {w w' : World} {K : Value → World → Prop} (hw : Region.wanted o (yielded ops a.tmps) = true) (hr : (execOp a.eval o).run P w = .ok .skip w') (hK : K undef w') : StepF P ops o a w K := by
 refine ⟨?_⟩; unfold StepG; rw [hw, if_pos rfl, hr]; exact hK
end Go.Proofs.YtblgkmdadholmabGreatDoor
end
namespace Go.Proofs.YtblgkmdadholmabGreatDoor
section
namespace Fl
open Go.RowKit Go.ChangeShapes
def three : List ByteArray := [⟨#[114, 101, 100, 32, 51]⟩, ⟨#[98, 108, 117, 101, 32, 50]⟩, ⟨#[103, 111, 108, 100]⟩]
def gold : List ByteArray := [⟨#[98, 108, 117, 101, 32, 50]⟩, ⟨#[103, 111, 108, 100]⟩, ⟨#[103, 111, 108, 100]⟩]
def mineJ : List ByteArray := [⟨#[114, 101, 100, 32, 52]⟩, ⟨#[98, 108, 117, 101, 32, 50]⟩, ⟨#[103, 111, 108, 100]⟩]
def yourJ : List ByteArray := [⟨#[114, 101, 100, 32, 51]⟩, ⟨#[103, 114, 101, 121]⟩, ⟨#[98, 108, 117, 101, 32, 50]⟩, ⟨#[103, 111, 108, 100]⟩]
def textF : List UInt8 := [53, 58, 114, 101, 100, 32, 51, 10, 54, 58, 98, 108, 117, 101, 32, 50, 10, 52, 58, 103, 111, 108, 100, 10, 61, 50, 54, 55, 55, 10]
def textT : List UInt8 := [53, 58, 114, 101, 100, 32, 51, 10, 54, 58, 98, 108, 117, 101, 32, 50, 10, 52, 58, 103, 111, 108, 100, 10, 61, 50, 54, 55, 54, 10]
def rows0 : List (List Int) := [[0, 0, 0], [1, 0, 0], [0, 2, 2]]
theorem aw_check : File.check three = 0 := by kernel_rfl
theorem aw_text : File.text three = textT := by kernel_rfl
theorem aw_parse : File.parse textF = ([], 28, 8) := by kernel_rfl
theorem aw_err : errOf three gold = 0 := by kernel_rfl
theorem aw_diff : File.diff three gold = [⟨0, [⟨#[114, 101, 100, 32, 51]⟩], []⟩, ⟨3, [], [⟨#[103, 111, 108, 100]⟩]⟩] := by kernel_rfl
theorem aw_bound : boundOf three gold rows0 = (2, 0) := by kernel_rfl
theorem aw_alike : alikeOf three gold = (2, 3, 0) := by kernel_rfl
theorem aw_join : File.joinAns three mineJ yourJ = (0, three, [(0, 1)]) := by kernel_rfl
theorem three_spec (w : World) : Calls Tryz.prog 6 #[] w fun e w' => ∃ A, e = .returned (.slice A 3 3) ∧ Sl strE w' A three ∧ Below w.heap.size w w' := by
 go_enter Tryz.func6, Tryz.ntmps6
 go_wp2
 go_ret;exact ⟨_, rfl, Sl.fresh strE w 9 _ three rfl (by decide), rB.alloc nL _⟩
theorem gold_spec (w : World) : Calls Tryz.prog 16 #[] w fun e w' => ∃ A, e = .returned (.slice A 3 3) ∧ Sl strE w' A gold ∧ Below w.heap.size w w' := by
 go_enter Tryz.func16, Tryz.ntmps16
 go_wp2
 go_ret;exact ⟨_, rfl, Sl.fresh strE w 9 _ gold rfl (by decide), rB.alloc nL _⟩
theorem print3 (A : Option Addr) (w : World) (hs : Sl strE w A three) (ht : Tab w) : Calls Tryz.prog 18 #[.slice A 3 3] w fun e w' => e = .returned (.tuple #[.string ⟨#[53, 58, 114, 101, 100, 32, 51, 10, 54, 58, 98, 108, 117, 101, 32, 50, 10, 52, 58, 103, 111, 108, 100, 10, 61, 50, 54, 55, 54, 10]⟩, iv 0]) ∧ Below w.heap.size w w' := by
 have := print_spec A three 3 w (by decide) hs ht;rw [aw_check, if_pos rfl, aw_text] at this;exact this
theorem parse28 (w : World) (ht : Tab w) : Calls Tryz.prog 25 #[.string ⟨#[53, 58, 114, 101, 100, 32, 51, 10, 54, 58, 98, 108, 117, 101, 32, 50, 10, 52, 58, 103, 111, 108, 100, 10, 61, 50, 54, 55, 55, 10]⟩] w fun e w' => ∃ v, e = .returned (.tuple #[v, iv 28, iv 8]) ∧ Below w.heap.size w w' := by
 refine (parse_spec textF w (by decide) ht).mono ?_;rintro e w' ⟨⟨v, rfl, _, _⟩, hb⟩;rw [aw_parse];exact ⟨v, rfl, hb⟩
theorem diffTG (A A' : Option Addr) (w : World) (hs : Sl strE w A three) (hs' : Sl strE w A' gold) : Calls Tryz.prog 9 #[.slice A 3 3, .slice A' 3 3] w fun e w' => ∃ C d, ∃ vs : List EdV, e = .returned (.tuple #[.slice C vs.length d, iv 0]) ∧ Sl edE w' C vs ∧ (∀ r ∈ vs, EdOk w' r ∧ r.old.length ≤ big ∧ r.new.length ≤ big) ∧ vs.map EdV.ed = [⟨0, [⟨#[114, 101, 100, 32, 51]⟩], []⟩, ⟨3, [], [⟨#[103, 111, 108, 100]⟩]⟩] ∧ Below w.heap.size w w' := by
 refine (Diff_spec A three 3 A' gold 3 w (by decide) (by decide) (by decide) (by decide) hs hs').mono ?_;rintro e w' ⟨v, rs, rfl, hv, hr, hb⟩;rw [aw_err, if_pos rfl, aw_diff] at hr;obtain ⟨vs, h1, h2, h3, h4⟩ := eds_of hr;have ho := own_eds hv h3 h4;obtain ⟨C, d, rfl, _, _⟩ := ho.form;refine ⟨C, d, vs, by rw [aw_err], ho.sl, fun r hr => ?_, h1, hb⟩;have hm : r.ed ∈ vs.map EdV.ed := List.mem_map_of_mem hr;have hb : ∀ x ∈ vs.map EdV.ed, x.old.length ≤ big ∧ x.new.length ≤ big := by rw [h1]; decide
 exact ⟨h2 r hr, (hb _ hm).1, (hb _ hm).2⟩
theorem boundTG (A A' B : Option Addr) (rs : List (Rw Int)) (w : World) (hs : Sl strE w A three) (hs' : Sl strE w A' gold) (hb : Sl (rwE Int) w B rs) (hr : RowsR intE w rs) (hx : rs.map Rw.xs = rows0) : Calls Tryz.prog 44 #[.slice A 3 3, .slice A' 3 3, .slice B 3 3] w fun e w' => e = .returned (.tuple #[iv 2, iv 0]) ∧ Below w.heap.size w w' := by
 have hl : rs.length = 3 := by have := congrArg List.length hx; rwa [List.length_map] at this
 have := Bound_spec A three 3 A' gold 3 B rs 3 w (by decide) (by decide) (by rw [hl]; decide) (fun r hr => ?_) (by decide) (by decide) (by rw [hl]; decide) hs hs' hb hr
 ·rw [hx, aw_bound, hl] at this;exact this
 ·have hm : r.xs ∈ rs.map Rw.xs := List.mem_map_of_mem hr;have hb : ∀ x ∈ rs.map Rw.xs, x.length ≤ big := by rw [hx]; decide
  exact hb _ hm
theorem alikeTG (A A' : Option Addr) (w : World) (hs : Sl strE w A three) (hs' : Sl strE w A' gold) : Calls Tryz.prog 43 #[.slice A 3 3, .slice A' 3 3] w fun e w' => e = .returned (.tuple #[.agg #[iv 2, iv 3], iv 0]) ∧ Below w.heap.size w w' := by
 have := Alike_spec A three 3 A' gold 3 w (by decide) (by decide) hs hs';rw [aw_alike] at this;exact this
theorem joinTG (Ab A A' : Option Addr) (w : World) (hB : Sl strE w Ab three) (hs : Sl strE w A mineJ) (hs' : Sl strE w A' yourJ) : Calls Tryz.prog 63 #[.slice Ab 3 3, .slice A 3 3, .slice A' 4 4] w fun e w' => ∃ C d C' d', e = .returned (.tuple #[.slice C 3 d, .slice C' 1 d', iv 0]) ∧ Sl strE w' C three ∧ Sl pairE w' C' [(0, 1)] ∧ Below w.heap.size w w' := by
 refine (Join_spec Ab three 3 A mineJ 3 A' yourJ 4 w (by decide) (by decide) (by decide) (by decide) (by decide) (by decide) hB hs hs').mono ?_;rintro e w' ⟨v0, v1, rfl, h0, h1, hb⟩;rw [aw_join] at h0 h1 ⊢;obtain ⟨C, d, rfl, _, _⟩ := h0.form;obtain ⟨C', d', rfl, _, _⟩ := h1.form;exact ⟨C, d, C', d', rfl, h0.sl, h1.sl, hb⟩
end Fl
end
end Go.Proofs.YtblgkmdadholmabGreatDoor
