/- What the proof of the claim's theorem uses, part 7. The conditions stand in each statement. -/
import Derived.Test.YtblgkmdadholmabGreatDoorSmp6
set_option linter.unusedVariables false
set_option linter.unusedSimpArgs false
set_option maxRecDepth 100000
namespace Go.Proofs.YtblgkmdadholmabGreatDoor
section
namespace Fl
open Go.RowKit Go.Shelf
theorem tySS3 : SlTy Tryz.prog 42 23 1 := slTy_of (z := .slice none 0 0) (bytes := 24) Tryz.underlying42 (by kernel_rfl) rfl (by decide)
def txt3 : List ByteArray := [⟨#[114, 101, 100, 32, 51]⟩, ⟨#[]⟩, ⟨#[116, 119, 101, 108, 118, 101, 32, 98, 121, 116, 101, 115]⟩]
def v11 : List Int := [-9223372036854775808, -1, 0, 1, 2, 3, 4, 23, 24, 25, 9223372036854775807]
def bs13 : List ByteArray := [⟨#[]⟩, ⟨#[48]⟩, ⟨#[49]⟩, ⟨#[52]⟩, ⟨#[57]⟩, ⟨#[58]⟩, ⟨#[61]⟩, ⟨#[10]⟩, ⟨#[32]⟩, ⟨#[97]⟩, ⟨#[0]⟩, ⟨#[127]⟩, ⟨#[255]⟩]
theorem bs13_size : ∀ s ∈ bs13, s.size ≤ 1 := by decide +kernel
theorem good3 : Good txt3 := good_of_check (by decide +kernel)
theorem text3 : (File.text txt3).length ≤ 1000 := by decide +kernel
theorem textT3 : 1 ≤ (File.text three).length ∧ (File.text three).length ≤ 1000 := by decide +kernel
theorem ba_len (l : List UInt8) : (File.ba l).size = l.length := by simp [File.ba, ByteArray.size]
abbrev RT (W : World) (e : Ending) (w' : World) : Prop := e = .returned (.bool true) ∧ Below W.heap.size W w'
structure Asked (w : World) : Prop where
 parses : ∀ (W : World) (s : ByteArray), Below w.heap.size w W → Calls Tryz.prog 5 #[.string s] W (RT W)
 texts : ∀ (W : World) (A : Option Addr) (f : List ByteArray) (c : Nat), Below w.heap.size w W → f.length ≤ c → Sl strE W A f → Calls Tryz.prog 11 #[.slice A f.length c] W (RT W)
 pairs : ∀ (W : World) (A : Option Addr) (a : List ByteArray) (c : Nat) (A' : Option Addr) (b : List ByteArray) (c' : Nat) (B : Option Addr) (rs : List (Rw Int)) (d : Nat), Below w.heap.size w W → a.length ≤ c → b.length ≤ c' → Sl strE W A a → Sl strE W A' b → Sl (rwE Int) W B rs → RowsR intE W rs → Calls Tryz.prog 12 #[.slice A a.length c, .slice A' b.length c', .slice B rs.length d] W (RT W)
 changes : ∀ (W : World) (A : Option Addr) (a : List ByteArray) (c : Nat) (A' : Option Addr) (b : List ByteArray) (c' : Nat) (V : Option Addr) (vs : List EdV) (d : Nat), Below w.heap.size w W → a.length ≤ c → b.length ≤ c' → Sl strE W A a → Sl strE W A' b → Sl edE W V vs → (∀ r ∈ vs, EdOk W r) → Calls Tryz.prog 13 #[.slice A a.length c, .slice A' b.length c', .slice V vs.length d] W (RT W)
 copies : ∀ (W : World) (A : Option Addr) (base : List ByteArray) (c : Nat) (A1 : Option Addr) (a : List ByteArray) (c1 : Nat) (A2 : Option Addr) (b : List ByteArray) (c2 : Nat) (V : Option Addr) (rs : List (Rw ByteArray)) (d : Nat), Below w.heap.size w W → base.length ≤ c → a.length ≤ c1 → b.length ≤ c2 → rs.length ≤ d → Sl strE W A base → Sl strE W A1 a → Sl strE W A2 b → Sl (rwE ByteArray) W V rs → RowsR strE W rs → Calls Tryz.prog 14 #[.slice A base.length c, .slice A1 a.length c1, .slice A2 b.length c2, .slice V rs.length d] W (RT W)
theorem Asked.ch1 {w x : World} (hq : Asked w) (hx : Below w.heap.size w x) {A : Option Addr} {a : List ByteArray} {n c : Nat} (ha : a.length = n) (hc : n ≤ c) (hs : Sl strE x A a) {A' : Option Addr} {b : List ByteArray} {n' c' : Nat} (hb : b.length = n') (hc' : n' ≤ c') (hs' : Sl strE x A' b)
  {g : Nat} {p : Int} {A1 : Option Addr} {k c1 : Nat} {xs : List ByteArray} (hg : Blk x g 36 #[iv p, .slice none 0 0, .slice A1 k c1]) (hk : xs.length = k) (hkc : k ≤ c1) (hxs : Sl strE x A1 xs) :
  Calls Tryz.prog 13 #[.slice A n c, .slice A' n' c', .slice (some ⟨g, 0, none⟩) 1 1] x (RT x) := by
 subst ha hb hk
 exact hq.changes x A a c A' b c' (some ⟨g, 0, none⟩) [⟨p, none, 0, [], A1, c1, xs⟩] 1 hx hc hc' hs hs' (sl_blk hg rfl (by simp [maxLen])) (fun r hr => by
  obtain rfl := List.mem_singleton.1 hr;exact ⟨Sl.nil, hxs, Nat.le_refl _, hkc⟩)
theorem Asked.cp {w x : World} (hq : Asked w) (hx : Below w.heap.size w x) {A0 : Option Addr} {a0 : List ByteArray} {n0 c0 : Nat} (h0 : a0.length = n0) (k0 : n0 ≤ c0) (s0 : Sl strE x A0 a0) {A1 : Option Addr} {a1 : List ByteArray} {n1 c1 : Nat} (h1 : a1.length = n1) (k1 : n1 ≤ c1) (s1 : Sl strE x A1 a1)
  {A2 : Option Addr} {a2 : List ByteArray} {n2 c2 : Nat} (h2 : a2.length = n2) (k2 : n2 ≤ c2) (s2 : Sl strE x A2 a2) {V : Option Addr} {rs : List (Rw ByteArray)} {m d : Nat} (hr : rs.length = m) (hd : m ≤ d) (hv : Sl (rwE ByteArray) x V rs) (hrr : RowsR strE x rs) :
  Calls Tryz.prog 14 #[.slice A0 n0 c0, .slice A1 n1 c1, .slice A2 n2 c2, .slice V m d] x (RT x) := by
 subst h0 h1 h2 hr;exact hq.copies x A0 a0 c0 A1 a1 c1 A2 a2 c2 V rs d hx k0 k1 k2 hd s0 s1 s2 hv hrr
theorem text_x : ∀ n : Fin 3, 3 ≤ (File.text (List.replicate (22 + n.val) ⟨#[120]⟩)).length ∧ (File.text (List.replicate (22 + n.val) ⟨#[120]⟩)).length ≤ 2000 := by decide +kernel
theorem text_xs (n : Nat) (h1 : 22 ≤ n) (h2 : n ≤ 24) : 3 ≤ (File.text (List.replicate n ⟨#[120]⟩)).length ∧ (File.text (List.replicate n ⟨#[120]⟩)).length ≤ 2000 := by
 have := text_x ⟨n - 22, by omega⟩;have e : 22 + (n - 22) = n := (by omega);simp only [e] at this;exact this
theorem check_xs (n : Nat) (h2 : n ≤ 24) : File.check (List.replicate n (⟨#[120]⟩ : ByteArray)) = 0 :=
 check_of_good ⟨by rw [List.length_replicate]; exact h2, fun s hs => by rw [(List.mem_replicate.1 hs).2]; decide, fun s hs => by rw [(List.mem_replicate.1 hs).2]; decide⟩
set_option maxHeartbeats 16000000 in
theorem small_law (w : World) (ht : Tab w) (hq : Asked w) : Calls Tryz.prog 3 #[] w (RT w) := by
 have HT := lH ht;have HQ := lH hq;clear ht hq;have hb1 : Below w.heap.size w (w.alloc (.cells #[.string ⟨#[114, 101, 100, 32, 51]⟩, .string ⟨#[]⟩, .string ⟨#[116, 119, 101, 108, 118, 101, 32, 98, 121, 116, 101, 115]⟩] 9)) := rB.alloc nL _;have hs1 := Sl.fresh strE w 9 #[.string ⟨#[114, 101, 100, 32, 51]⟩, .string ⟨#[]⟩, .string ⟨#[116, 119, 101, 108, 118, 101, 32, 98, 121, 116, 101, 115]⟩] txt3 rfl (by decide)
 go_enter Tryz.func3, Tryz.ntmps3
 (go_wp2_with fail);generalize w.alloc (.cells #[.string ⟨#[114, 101, 100, 32, 51]⟩, .string ⟨#[]⟩, .string ⟨#[116, 119, 101, 108, 118, 101, 32, 98, 121, 116, 101, 115]⟩] 9) = w1 at *;have HR1 : Hid (Calls Tryz.prog 4 #[.slice (some ⟨w.heap.size, 0, none⟩) 3 3] w1 fun e w' => e = .returned (.string (File.ba (File.text txt3))) ∧ Below w1.heap.size w1 w') := lH (rprint_spec _ txt3 3 w1 good3 hs1);clear hs1;refine HR1.out.mono ?_;rintro e w2 ⟨rfl, hb2⟩;have hb02 := hb1.next hb2 nL;have hTs : (File.ba (File.text txt3)).size ≤ 1000 := by rw [ba_len]; exact text3
 generalize File.ba (File.text txt3) = T at *;have hb3 : Below w2.heap.size w2 (w2.alloc (.cells #[.string T, .string ⟨#[61, 48, 10]⟩, .string ⟨#[49, 58, 97, 10, 61, 57, 55, 10]⟩] 9)) := rB.alloc nL _;have hs3 := Sl.fresh strE w2 9 #[.string T, .string ⟨#[61, 48, 10]⟩, .string ⟨#[49, 58, 97, 10, 61, 57, 55, 10]⟩] [T, ⟨#[61, 48, 10]⟩, ⟨#[49, 58, 97, 10, 61, 57, 55, 10]⟩] rfl (by simp [maxLen])
 have HM3 : Hid (∀ s ∈ [T, ⟨#[61, 48, 10]⟩, ⟨#[49, 58, 97, 10, 61, 57, 55, 10]⟩], s.size ≤ 1000) := lH fun s hs => by
  simp only [List.mem_cons, List.not_mem_nil, or_false] at hs
  rcases hs with rfl | rfl | rfl
  ·exact hTs
  ·exact (by decide : (⟨#[61, 48, 10]⟩ : ByteArray).size ≤ 1000)
  ·exact (by decide : (⟨#[49, 58, 97, 10, 61, 57, 55, 10]⟩ : ByteArray).size ≤ 1000)
 clear HR1 hb1 hb2;(go_wp2_with fail);generalize w2.alloc (.cells #[.string T, .string ⟨#[61, 48, 10]⟩, .string ⟨#[49, 58, 97, 10, 61, 57, 55, 10]⟩] 9) = w3 at *;have HS3 : Hid (∀ W, Below w3.heap.size w3 W → Sl strE W (some ⟨w2.heap.size, 0, none⟩) [T, ⟨#[61, 48, 10]⟩, ⟨#[49, 58, 97, 10, 61, 57, 55, 10]⟩]) := lH fun W h => hs3.below h
 have hb03 := hb02.next hb3 nL;have HB03 := lH hb03;clear hs3 hb02 hb3 hTs hb03
 go_loopw [2, 3, 5, 27] (fun _ _ _ i wr => ∃ k : Nat, k ≤ 3 ∧ i = iv (k : Int) ∧ Below w3.heap.size w3 wr) (fun _ _ _ i _ => 3 - (intOf i).toNat)
 case atStart => exact ⟨0, by omega, rfl, rB⟩
 case round =>
  obtain ⟨k, hk, rfl, hbr⟩ := hrel
  by_cases hlt : k < 3
  ·as_aux_lemma =>
   have hki : (k : Int) < 3 := (by omega);obtain ⟨b, off, s, hA, hb, hs, hc⟩ := Sl.atS (HS3.out wr hbr) (show k < _ from hlt);injection hA with hA;injection hA with h1 h2;subst h1 h2;simp only [Nat.zero_add] at hc;have hsz := HM3.out s (mem_at hs);have e1 : IntKind.i64.wrap ((s.size : Int) + 1) = (s.size : Int) + 1 := IntWalk.i64_in _ (by omega);clear hs;(go_wp2_with fail);obtain ⟨w4, rfl⟩ : ∃ w4 : World, w4 = wr := ⟨_, rfl⟩;have HB04 := lH (HB03.out.next hbr nL);clear hc hb
   go_loopw [3, 5, 34] (fun _ _ i wx => ∃ j : Nat, j ≤ s.size + 1 ∧ i = iv (j : Int) ∧ Below w4.heap.size w4 wx) (fun _ _ i _ => s.size + 1 - (intOf i).toNat)
   case atStart => exact ⟨0, by omega, rfl, rB⟩
   case round =>
    obtain ⟨j, hj, rfl, hbx⟩ := hrel
    by_cases hlt2 : j < s.size + 1
    ·have hji : (j : Int) < (s.size : Int) + 1 := (by omega);have e2 : IntKind.i64.wrap ((j : Int) + 1) = (j : Int) + 1 := IntWalk.i64_in _ (by omega);obtain ⟨P1, hP1, r1⟩ := cut_to s j (by omega);obtain ⟨P3, hP3, r3⟩ := cut_on s j (by omega);obtain ⟨m, hm⟩ : ∃ m : Nat, (m : Int) = if (s.size : Int) < (j : Int) + 1 then (s.size : Int) else (j : Int) + 1 := ⟨if s.size < j + 1 then s.size else j + 1, by split <;> split <;> omega⟩
     have hms : m ≤ s.size := by split at hm <;> omega
     obtain ⟨P2, hP2, r2⟩ := cut_on s m hms;have R1 := lH r1;have R2 := lH r2;have R3 := lH r3;have HMM := lH hm;have hP1 : P1.size ≤ 1000 := (by omega);clear r1 r2 r3 hm;have hbA : Below wr.heap.size wr (wr.alloc (.cells (bs13.map Value.string).toArray 9)) := rB.alloc nL _;have hsA := Sl.fresh strE wr 9 (bs13.map Value.string).toArray bs13 (by rw [flatS]) (by decide)
     go_upto_region 7 with fail
     apply wp_region_lit;refine buildVals rfl 23 9 13 _ rfl (bs13.map Value.string) Tryz.underlying23 (by kernel_rfl) (by kernel_rfl) rfl (by decide) (by decide) (fun v hv => by obtain ⟨n, _, rfl⟩ := List.mem_map.1 hv; rfl) (by kernel_rfl) ?_;generalize hwa : wr.alloc (.cells (bs13.map Value.string).toArray 9) = w5 at *;clear hwa;(go_wp2_with fail);have HS5 : Hid (∀ W, Below w5.heap.size w5 W → Sl strE W (some ⟨wr.heap.size, 0, none⟩) bs13) := lH fun W h => hsA.below h
     have hb45 := hbx.next hbA nL;have HB05 := lH (HB04.out.next hb45 nL);clear hsA hbA hbx
     go_loopw [5, 39] (fun _ i wx => ∃ q : Nat, q ≤ 13 ∧ i = iv (q : Int) ∧ Below w5.heap.size w5 wx) (fun _ i _ => 13 - (intOf i).toNat)
     case atStart => exact ⟨0, by omega, rfl, rB⟩
     case round =>
      obtain ⟨q, hq, rfl, hbz⟩ := hrel
      by_cases hlt3 : q < 13
      ·have hqi : (q : Int) < 13 := (by omega);obtain ⟨b, off, B, hA, hb, hs, hc⟩ := Sl.atS (HS5.out _ hbz) (show q < _ from hlt3);injection hA with hA;injection hA with h1 h2;subst h1 h2;simp only [Nat.zero_add] at hc;have hB1 := bs13_size B (mem_at hs);have HBz := lH (HB05.out.next hbz nL);have z1 : (P1 ++ B).size ≤ 1001 := by rw [ByteArray.size_append]; omega
       have HZ : Hid (∀ x : World, Below wr.heap.size wr x → Below w.heap.size w x) := lH fun x h => HBz.out.next h nL
       have r1 := R1.out;have r2 := R2.out;have r3 := R3.out;have hm := HMM.out;have z2 : ((P1 ++ B) ++ P2).size ≤ 3000 := by rw [ByteArray.size_append]; omega
       have z3 : ((P1 ++ B) ++ P3).size ≤ 3000 := by rw [ByteArray.size_append]; omega
       have hP2 : P2.size ≤ 1000 := (by omega);have hP3 : P3.size ≤ 1000 := (by omega);have hsz1 : s.size ≤ 1000 := hsz;have hmm : ∀ (ts : Array TypeId) (t : TypeId) (W : World), (Builtin.min_ ts t #[iv ((j : Int) + 1), iv (s.size : Int)]).run Tryz.prog W = .ok (iv (m : Int)) W := fun ts t W => by rw [run_min_int2, ← hm]
       clear hs hm
       go_upto_region 10 with fail
       refine wfl 28 (fun nR x => Below wr.heap.size wr x) (fun x x' => Below x.heap.size x x')
        [eqv (.string s),
         eqv (iv (j : Int)),
         eqv (.string P1),
         eqv (.string B),
         eqv (.string (P1 ++ B)),
         eqv (.string s),
         eqv (iv (j : Int)),
         eqv (iv ((j : Int) + 1)),
         eqv (.string s),
         eqv (iv (s.size : Int)),
         eqv (iv (m : Int)),
         eqv (.string P2),
         eqv (.string ((P1 ++ B) ++ P2)),
         eqv (.bool true),
         eqv (.bool false),
         eqv (.bool false),
         eqv (.string s),
         eqv (iv (j : Int)),
         eqv (.string P1),
         eqv (.string B),
         eqv (.string (P1 ++ B)),
         eqv (.string s),
         eqv (iv (j : Int)),
         eqv (.string P3),
         eqv (.string ((P1 ++ B) ++ P3)),
         eqv (.bool true),
         eqv (.bool false),
         eqv (.bool false)]
        (Below.refl _ wr).drew ?_ ?_
       ·simp only [List.take_succ_cons, List.take_zero, HopL]
        repeat' apply And.intro
        ·refine fvr fun x hR kk rr _ => ?_
         have := rho0 rr 2;clear rr kk;exact ev0
        ·refine fvr fun x hR kk rr _ => ?_
         have := rho0 rr 3;clear rr kk;exact ev0
        ·refine fvr fun x hR kk rr _ => ?_
         have := rho rr 43 (kk.at 0);have := rho rr 44 (kk.at 1);clear rr kk;exact ev0
        ·refine fvr fun x hR kk rr _ => ?_
         have := rho0 rr 5;clear rr kk;exact ev0
        ·refine fvr fun x hR kk rr _ => ?_
         have := rho rr 45 (kk.at 2);have := rho rr 46 (kk.at 3);clear rr kk;exact ev0
        ·refine fvr fun x hR kk rr _ => ?_
         have := rho0 rr 2;clear rr kk;exact ev0
        ·refine fvr fun x hR kk rr _ => ?_
         have := rho0 rr 3;clear rr kk;exact ev0
        ·refine fvr fun x hR kk rr _ => ?_
         have := rho rr 49 (kk.at 6);clear rr kk;exact ev0
        ·refine fvr fun x hR kk rr _ => ?_
         have := rho0 rr 2;clear rr kk;exact ev0
        ·refine fvr fun x hR kk rr _ => ?_
         have := rho rr 51 (kk.at 8);clear rr kk;exact ev0
        ·refine fvr fun x hR kk rr _ => ?_
         have := rho rr 50 (kk.at 7);have := rho rr 52 (kk.at 9);clear rr kk;exact ev0
        ·refine fvr fun x hR kk rr _ => ?_
         have := rho rr 48 (kk.at 5);have := rho rr 53 (kk.at 10);clear rr kk;exact ev0
        ·refine fvr fun x hR kk rr _ => ?_
         have := rho rr 47 (kk.at 4);have := rho rr 54 (kk.at 11);clear rr kk;exact ev0
        ·refine fvr fun x hR kk rr _ => ?_
         have := rho rr 55 (kk.at 12);clear rr kk;exact ec (hc := HQ.out.parses x ((P1 ++ B) ++ P2) (HZ.out x hR))
        ·refine fvr fun x hR kk rr _ => ?_
         have := rho rr 56 (kk.at 13);clear rr kk;exact ev0
        ·refine fvr fun x hR kk rr _ => ?_
         have := rho rr 57 (kk.at 14);clear rr kk;exact ev0
        ·refine fvr fun x hR kk rr _ => ?_
         have := rho0 rr 2;clear rr;exact ev0 (wat (kk.at 15))
        ·refine fvr fun x hR kk rr _ => ?_
         have := rho0 rr 3;clear rr;exact ev0 (wat (kk.at 15))
        ·refine fvr fun x hR kk rr _ => ?_
         have := rho rr 59 (kk.at 16);have := rho rr 60 (kk.at 17);clear rr;exact ev0 (wat (kk.at 15))
        ·refine fvr fun x hR kk rr _ => ?_
         have := rho0 rr 5;clear rr;exact ev0 (wat (kk.at 15))
        ·refine fvr fun x hR kk rr _ => ?_
         have := rho rr 61 (kk.at 18);have := rho rr 62 (kk.at 19);clear rr;exact ev0 (wat (kk.at 15))
        ·refine fvr fun x hR kk rr _ => ?_
         have := rho0 rr 2;clear rr;exact ev0 (wat (kk.at 15))
        ·refine fvr fun x hR kk rr _ => ?_
         have := rho0 rr 3;clear rr;exact ev0 (wat (kk.at 15))
        ·refine fvr fun x hR kk rr _ => ?_
         have := rho rr 64 (kk.at 21);have := rho rr 65 (kk.at 22);clear rr;exact ev0 (wat (kk.at 15))
        ·refine fvr fun x hR kk rr _ => ?_
         have := rho rr 63 (kk.at 20);have := rho rr 66 (kk.at 23);clear rr;exact ev0 (wat (kk.at 15))
        ·refine fvr fun x hR kk rr _ => ?_
         have := rho rr 67 (kk.at 24);clear rr;exact ec (hc := HQ.out.parses x ((P1 ++ B) ++ P3) (HZ.out x hR)) (hw := (wat (kk.at 15)))
        ·refine fvr fun x hR kk rr _ => ?_
         have := rho rr 68 (kk.at 25);clear rr;exact ev0 (wat (kk.at 15))
        ·refine fvr fun x hR kk rr _ => ?_
         have := rho rr 58 (kk.at 15);have := rho rr 69 (kk.at 26);clear rr kk;exact ev0
        ·trivial
       ·intro v nR x1 hnR hR hall;have h27 : v 27 = .bool false := hall 27 (by decide);clear hall hnR;simp only [List.drop_succ_cons, List.drop_zero, List.take_succ_cons, List.take_zero, frameF, Act.put, List.setIfInBounds_toArray, List.set_cons_zero, List.set_cons_succ, Nat.zero_add, Nat.reduceAdd, h27];have hb5x := hbz.next hR nL;(go_wp2_with fail);go_roundw
        case rel => exact ⟨q + 1, by omega, by go_num, hb5x⟩
        case measure => simp [intOf]; omega
      ·have hqi : ¬ (q : Int) < 13 := (by omega);have HBz := lH (HB05.out.next hbz nL);have hb4z := hb45.next hbz nL;(go_wp2_with fail);refine (HQ.out.parses _ _ HBz.out).mono ?_;rintro e w9 ⟨rfl, hb9⟩;have hb49 := hb4z.next hb9 nL;(go_wp2_with fail);go_roundw
       case rel => exact ⟨j + 1, by omega, by go_num, hb49⟩
       case measure => simp [intOf]; omega
    ·have hji : ¬ (j : Int) < (s.size : Int) + 1 := (by omega);have hb3x := hbr.next hbx nL;(go_wp2_with fail);go_roundw
     case rel => exact ⟨k + 1, by omega, by go_num, hb3x⟩
     case measure => simp [intOf]; omega
  ·as_aux_lemma =>
   have hki : ¬ (k : Int) < 3 := (by omega);have hb03 := HB03.out.next hbr nL;clear HB03 hbr HM3 HS3;(go_wp2_with fail);refine (three_spec _).mono ?_;rintro e w4 ⟨A4, rfl, hs4, hb4⟩;have hb04 := hb03.next hb4 nL;have HR2 : Hid (Calls Tryz.prog 4 #[.slice A4 3 3] w4 fun e w' => e = .returned (.string (File.ba (File.text three))) ∧ Below w4.heap.size w4 w') := lH (rprint_spec _ three 3 w4 (good_of_check (by decide +kernel)) hs4);clear hs4 hb03 hb4;(go_wp2_with fail);refine HR2.out.mono ?_;rintro e w5 ⟨rfl, hb5⟩;have hb05 := hb04.next hb5 nL;have hT1 : 1 ≤ (File.ba (File.text three)).size ∧ (File.ba (File.text three)).size ≤ 1000 := by rw [ba_len]; exact textT3
   generalize File.ba (File.text three) = T2 at *;obtain ⟨T3, hT3, rt⟩ := cut_to T2 (T2.size - 1) (by omega);have RT3 := lH rt
   have ew : IntKind.i64.wrap ((T2.size : Int) - 1) = ((T2.size - 1 : Nat) : Int) := by
    rw [show (T2.size : Int) - 1 = ((T2.size - 1 : Nat) : Int) by omega];exact IntWalk.i64_in _ (by omega)
   have zx : (⟨#[120]⟩ : ByteArray).size = 1 := rfl;obtain ⟨hT11, hT12⟩ := hT1;clear HR2 hb04 hb5 rt hT3;(go_wp2_with fail);refine (HQ.out.parses _ _ hb05).mono ?_;rintro e w6 ⟨rfl, hb6⟩;have hb06 := hb05.next hb6 nL;clear hb05 hb6;(go_wp2_with fail);refine (HQ.out.parses _ _ hb06).mono ?_;rintro e w7 ⟨rfl, hb7⟩;have hb07 := hb06.next hb7 nL;have rt := RT3.out;clear hb06 hb7 RT3;(go_wp2_with fail);refine (HQ.out.parses _ _ hb07).mono ?_;rintro e w8 ⟨rfl, hb8⟩;have hb08 := hb07.next hb8 nL;clear hb07 hb8 rt;(go_wp2_with fail)
   go_loopw [7, 8, 9, 10, 11, 12, 13, 14, 99] (fun _ _ _ _ _ _ _ _ i wr => ∃ n : Nat, n ≤ 60 ∧ i = iv (n : Int) ∧ Below w8.heap.size w8 wr) (fun _ _ _ _ _ _ _ _ i _ => 60 - (intOf i).toNat)
   case atStart => exact ⟨0, by omega, rfl, rB⟩
   case round =>
    obtain ⟨n, hn, rfl, hbr⟩ := hrel
    by_cases hlt : n < 60
    ·as_aux_lemma =>
     have hni : (n : Int) < 60 := (by omega);obtain ⟨a6, ha6_⟩ : ∃ z : Nat, (z : Int) = (n : Int) % 6 := ⟨n % 6, by omega⟩;have ea6a : Int.tmod (n : Int) 6 = (a6 : Int) := by rw [Int.tmod_eq_emod_of_nonneg (by omega), ha6_]
     have ea6b : (n : Int) % 6 = (a6 : Int) := ha6_.symm;have ea6c : IntKind.i64.wrap (a6 : Int) = (a6 : Int) := IntWalk.i64_in _ (by omega);obtain ⟨d2, hd2_⟩ : ∃ z : Nat, (z : Int) = (n : Int) / 2 := ⟨n / 2, by omega⟩;have ed2a : Int.tdiv (n : Int) 2 = (d2 : Int) := by rw [Int.tdiv_eq_ediv_of_nonneg (by omega), hd2_]
     have ed2b : (n : Int) / 2 = (d2 : Int) := hd2_.symm;have ed2c : IntKind.i64.wrap (d2 : Int) = (d2 : Int) := IntWalk.i64_in _ (by omega);obtain ⟨b6, hb6_⟩ : ∃ z : Nat, (z : Int) = (d2 : Int) % 6 := ⟨d2 % 6, by omega⟩;have eb6a : Int.tmod (d2 : Int) 6 = (b6 : Int) := by rw [Int.tmod_eq_emod_of_nonneg (by omega), hb6_]
     have eb6b : (d2 : Int) % 6 = (b6 : Int) := hb6_.symm;have eb6c : IntKind.i64.wrap (b6 : Int) = (b6 : Int) := IntWalk.i64_in _ (by omega);obtain ⟨d7, hd7_⟩ : ∃ z : Nat, (z : Int) = (n : Int) / 7 := ⟨n / 7, by omega⟩;have ed7a : Int.tdiv (n : Int) 7 = (d7 : Int) := by rw [Int.tdiv_eq_ediv_of_nonneg (by omega), hd7_]
     have ed7b : (n : Int) / 7 = (d7 : Int) := hd7_.symm;have ed7c : IntKind.i64.wrap (d7 : Int) = (d7 : Int) := IntWalk.i64_in _ (by omega);obtain ⟨d3, hd3_⟩ : ∃ z : Nat, (z : Int) = (n : Int) / 3 := ⟨n / 3, by omega⟩;have ed3a : Int.tdiv (n : Int) 3 = (d3 : Int) := by rw [Int.tdiv_eq_ediv_of_nonneg (by omega), hd3_]
     have ed3b : (n : Int) / 3 = (d3 : Int) := hd3_.symm;have ed3c : IntKind.i64.wrap (d3 : Int) = (d3 : Int) := IntWalk.i64_in _ (by omega);obtain ⟨c6, hc6_⟩ : ∃ z : Nat, (z : Int) = (d3 : Int) % 6 := ⟨d3 % 6, by omega⟩;have ec6a : Int.tmod (d3 : Int) 6 = (c6 : Int) := by rw [Int.tmod_eq_emod_of_nonneg (by omega), hc6_]
     have ec6b : (d3 : Int) % 6 = (c6 : Int) := hc6_.symm;have ec6c : IntKind.i64.wrap (c6 : Int) = (c6 : Int) := IntWalk.i64_in _ (by omega);obtain ⟨m3, hm3_⟩ : ∃ z : Nat, (z : Int) = (n : Int) % 3 := ⟨n % 3, by omega⟩;have em3a : Int.tmod (n : Int) 3 = (m3 : Int) := by rw [Int.tmod_eq_emod_of_nonneg (by omega), hm3_]
     have em3b : (n : Int) % 3 = (m3 : Int) := hm3_.symm;have em3c : IntKind.i64.wrap (m3 : Int) = (m3 : Int) := IntWalk.i64_in _ (by omega);obtain ⟨m4, hm4_⟩ : ∃ z : Nat, (z : Int) = (n : Int) % 4 := ⟨n % 4, by omega⟩;have em4a : Int.tmod (n : Int) 4 = (m4 : Int) := by rw [Int.tmod_eq_emod_of_nonneg (by omega), hm4_]
     have em4b : (n : Int) % 4 = (m4 : Int) := hm4_.symm;have em4c : IntKind.i64.wrap (m4 : Int) = (m4 : Int) := IntWalk.i64_in _ (by omega);obtain ⟨m5, hm5_⟩ : ∃ z : Nat, (z : Int) = (n : Int) % 5 := ⟨n % 5, by omega⟩;have em5a : Int.tmod (n : Int) 5 = (m5 : Int) := by rw [Int.tmod_eq_emod_of_nonneg (by omega), hm5_]
     have em5b : (n : Int) % 5 = (m5 : Int) := hm5_.symm;have em5c : IntKind.i64.wrap (m5 : Int) = (m5 : Int) := IntWalk.i64_in _ (by omega);have hd7 : n + d7 ≤ 80 := (by omega);have e7 : IntKind.i64.wrap ((n : Int) + (d7 : Int)) = ((n + d7 : Nat) : Int) := by rw [← Int.natCast_add]; exact IntWalk.i64_in _ (by omega)
     obtain ⟨z7, hz7⟩ : ∃ z, z = n + d7 := ⟨_, rfl⟩;rw [← hz7] at e7 hd7;have hd2 : d2 ≤ 60 := (by omega);have hm5 : m5 ≤ 4 := (by omega);have ha6 : a6 ≤ 5 := (by omega);have hb6 : b6 ≤ 5 := (by omega);have hc6 : c6 ≤ 5 := (by omega);obtain ⟨w9, rfl⟩ : ∃ w9 : World, w9 = wr := ⟨_, rfl⟩;have HB09 := lH (hb08.next hbr nL);clear hz7 ha6_ hd2_ hb6_ hd7_ hd3_ hc6_ hm3_ hm4_ hm5_;(go_wp2_with fail);refine (lines_spec a6 n _ (by omega) (by omega)).mono ?_;rintro e w10 ⟨v, f0, rfl, ho0, hl0, hx0, hb10⟩;obtain ⟨A0, c0, rfl, hc0, _⟩ := ho0.form;have g0 : Good f0 := ⟨by omega, fun s hs => (hx0 s hs).2, fun s hs => (hx0 s hs).1⟩;have hf0 : f0.length ≤ 5 := (by omega);have hs0 := ho0.sl;clear ho0 hl0 hx0;(go_wp2_with fail);refine (lines_spec b6 z7 _ (by omega) (by omega)).mono ?_;rintro e w11 ⟨v, f1, rfl, ho1, hl1, hx1, hb11⟩;obtain ⟨A1, c1, rfl, hc1, _⟩ := ho1.form;have g1 : Good f1 := ⟨by omega, fun s hs => (hx1 s hs).2, fun s hs => (hx1 s hs).1⟩
     have hf1 : f1.length ≤ 5 := (by omega);have hs1 := ho1.sl;clear ho1 hl1 hx1;(go_wp2_with fail);refine (lines_spec c6 d2 _ (by omega) (by omega)).mono ?_;rintro e w12 ⟨v, f2, rfl, ho2, hl2, hx2, hb12⟩;obtain ⟨A2, c2, rfl, hc2, _⟩ := ho2.form;have g2 : Good f2 := ⟨by omega, fun s hs => (hx2 s hs).2, fun s hs => (hx2 s hs).1⟩;have hf2 : f2.length ≤ 5 := (by omega);have hs2 := ho2.sl;have hb912 := (hb10.next hb11 nL).next hb12 nL;have HS0 : Hid (∀ W, Below w12.heap.size w12 W → Sl strE W A0 f0) := lH fun W h => ((hs0.below hb11).below hb12).below h
     have HS1 : Hid (∀ W, Below w12.heap.size w12 W → Sl strE W A1 f1) := lH fun W h => (hs1.below hb12).below h
     have HS2 : Hid (∀ W, Below w12.heap.size w12 W → Sl strE W A2 f2) := lH fun W h => hs2.below h
     have HB012 := lH (HB09.out.next hb912 nL);have HLV := lH (levels_good A1 f1 c1 A2 f2 c2 w12 g1 g2 (HS1.out _ rB) (HS2.out _ rB));have HE0 : Hid (errOf f0 f1 = 0) := lH (by unfold errOf; rw [if_pos (check_of_good g0)]; exact check_of_good g1);have hb812 := hbr.next hb912 nL;clear ho2 hl2 hx2 hs0 hs1 hs2 hb10 hb11 hb12 g0 g1 g2 hb912;(go_wp2_with fail);refine HLV.out.mono ?_;rintro e w13 ⟨v, rs, rfl, hv, hr, _, hb13⟩;obtain ⟨AL, cL, rfl, hcL, _⟩ := hv.form;have HSL := lH hv.sl;have HRO : Hid (∀ r ∈ rs, Own intE 3 w12.heap.size w13 (.slice r.A r.xs.length r.c) r.xs ∧ r.xs.length ≤ r.c) := lH hr;have HRW : Hid (RowsR intE w13 rs) := lH fun r h => ⟨(hr r h).1.sl, (hr r h).2⟩
     clear HLV hv hr
     go_upto_region 25 with fail
     go_cut [140] from 126 to 140 (fun v wx => ∃ z : Bool, v = .bool z ∧ Hid (z = true → ∃ r, rs[0]? = some r ∧ 0 < r.xs.length) ∧ wx = w13)
     case first => as_aux_lemma =>
      by_cases h0 : 0 < rs.length
      ·have h0i : (0 : Int) < (rs.length : Int) := (by omega);obtain ⟨b, off, r, rfl, hb, hr0, hc⟩ := Sl.atRw HSL.out h0;simp only [Nat.add_zero] at hc
       by_cases h1 : 0 < r.xs.length
       ·have h1i : (0 : Int) < (r.xs.length : Int) := (by omega);have HR0 := lH hr0;obtain ⟨z, hz⟩ : ∃ z, ((m3 : Int) == 0) = z := ⟨_, rfl⟩;clear hr0;(go_wp2_with fail);go_meet;exact ⟨z, rfl, fun _ => ⟨r, HR0.out, h1⟩, rfl⟩
       ·have h1i : ¬ (0 : Int) < (r.xs.length : Int) := (by omega);clear hr0;(go_wp2_with fail);go_meet;exact ⟨false, rfl, (fun h => by cases h), rfl⟩
      ·have h0i : ¬ (0 : Int) < (rs.length : Int) := (by omega);(go_wp2_with fail);go_meet;exact ⟨false, rfl, (fun h => by cases h), rfl⟩
     case rest =>
     obtain ⟨z, rfl, HZ, rfl⟩ := hcut;generalize wc = w13 at *
     go_upto_if 140 with fail
     go_cut [] from 141 to 150 (fun wx => (∃ rs' : List (Rw Int), rs'.length = rs.length ∧ Hid (Sl (rwE Int) wx AL rs') ∧ Hid (RowsR intE wx rs')) ∧ Below w12.heap.size w12 wx)
     case first => as_aux_lemma =>
      cases z
      ·(go_wp2_with fail);go_meet;exact ⟨⟨rs, rfl, HSL, HRW⟩, hb13⟩
      ·obtain ⟨r, hr0, hrl⟩ := HZ.out rfl;obtain ⟨hro, hrc⟩ := HRO.out r (mem_at hr0);obtain ⟨g, cur, hA, hBg, hgb⟩ := Own.blk hro (by intro e; rw [e] at hrl; simp at hrl);have h0 : 0 < rs.length := (List.getElem?_eq_some_iff.1 hr0).1;have h0i : (0 : Int) < (rs.length : Int) := (by omega);obtain ⟨b, off, r', hAL, hb, hr0', hc⟩ := Sl.atRw HSL.out h0;rw [hr0] at hr0';obtain rfl := Option.some.inj hr0';obtain ⟨bx, ox, x, hA2, hbx, hx, hcx⟩ := Sl.atI hro.sl hrl;rw [hA] at hA2;injection hA2 with hA2;injection hA2 with i1 i2;subst i1 i2 hAL;simp only [Nat.add_zero] at hc hcx;obtain ⟨rA, rc, rx⟩ := r;simp only at hA hrl hc hrc;subst hA;have hrli : (0 : Int) < (rx.length : Int) := (by omega);have hfz := hgb.frozen 0;have hgl := hgb.lt;obtain ⟨q, hq⟩ : ∃ q, IntKind.i64.wrap ((m4 : Int) - 1) = q := ⟨_, rfl⟩;obtain ⟨zz, hzz⟩ : ∃ zz, IntKind.i64.wrap (x + q) = zz := ⟨_, rfl⟩;have hK := KeepI.set (z' := zz) hcx
       have HK := lH (hK.rowsI HRW.out _ HSL.out);have HBB := lH (hb13.setCell (p := ⟨g, 0, none⟩) hBg (iv zz));clear hK hr0 hr0' hro hx hgb;(go_wp2_with fail);go_meet;exact ⟨HK.out, HBB.out⟩
     case rest =>
     obtain ⟨⟨rs', hrsl, HSL', HRW'⟩, hb1214⟩ := hcut;generalize wc = w14 at *;have HRL := lH hrsl;have HDI := Diff_spec A0 f0 c0 A1 f1 c1 w14 (by unfold big; omega) (by unfold big; omega) hc0 hc1 (HS0.out _ hb1214) (HS1.out _ hb1214);rw [HE0.out, if_pos rfl] at HDI;have HDI := lH HDI;have HDM : Hid (∀ x ∈ File.diff f0 f1, x.old.length ≤ 10) := lH fun x hx => by have := File.diff_mem hx; omega
     clear HZ HSL HRO HRW hb13 hrsl;(go_wp2_with fail);refine HDI.out.mono ?_;rintro e w15 ⟨v, rse, rfl, hv, hr, hb15⟩;obtain ⟨vs, k1, k2, fc, ln⟩ := eds_ofO hr;have HOL0 : Hid (∀ r ∈ vs, r.old.length ≤ 10) := lH fun r h => HDM.out r.ed (by rw [← k1]; exact List.mem_map_of_mem h)
     have ho := own_eds hv fc ln;obtain ⟨AV, dV, rfl, _, _⟩ := ho.form;have HOE := lH ho;have HKE := lH k2;clear HDI HDM hv hr k1 k2 fc ln ho
     go_upto_region 28 with fail
     go_cut [164] from 157 to 164 (fun v wx => ∃ z : Bool, v = .bool z ∧ Hid (z = true → 0 < vs.length) ∧ wx = w15)
     case first => as_aux_lemma =>
      by_cases h0 : 0 < vs.length
      ·have h0i : (0 : Int) < (vs.length : Int) := (by omega);obtain ⟨z, hz⟩ : ∃ z, ((m4 : Int) == 0) = z := ⟨_, rfl⟩;(go_wp2_with fail);go_meet;exact ⟨z, rfl, fun _ => h0, rfl⟩
      ·have h0i : ¬ (0 : Int) < (vs.length : Int) := (by omega);(go_wp2_with fail);go_meet;exact ⟨false, rfl, (fun h => by cases h), rfl⟩
     case rest =>
     obtain ⟨z, rfl, HZ, rfl⟩ := hcut;generalize wc = w15 at *
     go_upto_if 164 with fail
     go_cut [] from 165 to 174 (fun wx => (∃ vs' : List EdV, vs'.length = vs.length ∧ Hid (Own edE 36 w14.heap.size wx (.slice AV vs'.length dV) vs') ∧ Hid (∀ r ∈ vs', EdO w14.heap.size wx r) ∧ Hid (∀ r ∈ vs', r.old.length ≤ 10)) ∧ Below w14.heap.size w14 wx)
     case first => as_aux_lemma =>
      cases z
      ·(go_wp2_with fail);go_meet;exact ⟨⟨vs, rfl, HOE, HKE, HOL0⟩, hb15⟩
      ·have h0 := HZ.out rfl;have h0i : (0 : Int) < (vs.length : Int) := (by omega);obtain ⟨g, cur, hA, hBg, hgb⟩ := Own.blk HOE.out (by intro e; rw [e] at h0; simp at h0);obtain ⟨b, off, x, hA2, hb, hx, hc0', hc1', hc2'⟩ := Sl.atEd HOE.out.sl h0;rw [hA] at hA2;injection hA2 with hA2;injection hA2 with i1 i2;subst i1 i2;simp only [Nat.zero_mul, Nat.add_zero] at hc0';have hfz := hgb.frozen 0;have hgl := hgb.lt;obtain ⟨q, hq⟩ : ∃ q, IntKind.i64.wrap ((m3 : Int) - 1) = q := ⟨_, rfl⟩;obtain ⟨zz, hzz⟩ : ∃ zz, IntKind.i64.wrap (x.at_ + q) = zz := ⟨_, rfl⟩;have HK := lH (eds_at HOE.out HKE.out HOL0.out hA hgb hx zz);have HBB := lH (hb15.setCell (p := ⟨g, 0, none⟩) hBg (iv zz));subst hA;clear hgb hx hc1' hc2';(go_wp2_with fail);go_meet;obtain ⟨vs', e1, e2, e3, e4⟩ := HK.out;exact ⟨⟨vs', e1, e2, e3, e4⟩, HBB.out⟩
     case rest =>
     obtain ⟨⟨vs', hvl, HOE', HKE', HOL⟩, hb1416⟩ := hcut;generalize wc = w16 at *;have HVL := lH hvl;clear HZ HOE HKE HOL0 hb15 hvl
     go_upto_region 30 with fail
     go_cut [182] from 175 to 182 (fun v wx => ∃ z : Bool, v = .bool z ∧ Hid (z = true → 1 < vs.length) ∧ wx = w16)
     case first => as_aux_lemma =>
      by_cases h0 : 1 < vs.length
      ·have h0i : (1 : Int) < (vs.length : Int) := (by omega);obtain ⟨z, hz⟩ : ∃ z, ((m5 : Int) == 0) = z := ⟨_, rfl⟩;(go_wp2_with fail);go_meet;exact ⟨z, rfl, fun _ => h0, rfl⟩
      ·have h0i : ¬ (1 : Int) < (vs.length : Int) := (by omega);(go_wp2_with fail);go_meet;exact ⟨false, rfl, (fun h => by cases h), rfl⟩
     case rest =>
     obtain ⟨z, rfl, HZ, rfl⟩ := hcut;generalize wc = w16 at *
     go_upto_if 182 with fail
     go_cut [] from 183 to 193 (fun wx => (∃ vs3 : List EdV, vs3.length = vs.length ∧ Hid (Sl edE wx AV vs3) ∧ Hid (∀ r ∈ vs3, EdOk wx r)) ∧ Below w14.heap.size w14 wx)
     case first => as_aux_lemma =>
      cases z
      ·(go_wp2_with fail);go_meet;exact ⟨⟨vs', HVL.out, lH HOE'.out.sl, lH fun r h => (HKE'.out r h).ok⟩, hb1416⟩
      ·have h1v : 1 < vs.length := HZ.out rfl;have h1 : 1 < vs'.length := by have := HVL.out; omega
       have h1i : (1 : Int) < (vs.length : Int) := (by omega);obtain ⟨g, cur, hA, hBg, hgb⟩ := Own.blk HOE'.out (by intro e; rw [e] at h1; simp at h1);obtain ⟨b, off, x1, hA2, hb, hx, hc0', hc1', hc2'⟩ := Sl.atEd HOE'.out.sl h1;rw [hA] at hA2;injection hA2 with hA2;injection hA2 with i1 i2;subst i1 i2;have hc4 : w16.cell? ⟨g, 4, none⟩ = some (.slice x1.A x1.old.length x1.c) := by simpa using hc1'
       have hO1 := (HKE'.out x1 (mem_at hx)).old;obtain ⟨xa, xA, xc, xo, xA', xc', xn⟩ := x1;simp only at hc4 hO1;have hol : xo.length + 1 ≤ 100000 := by have : xo.length ≤ 10 := HOL.out _ (mem_at hx); omega
       subst hA;have HOE2 := lH HOE'.out;have HGB := lH hgb;have hz14 := hb1416.size;have HLN := lH fun W => line_spec5 n W (by omega)
       have hEc : (cur[4]? : Option Value) = some (.slice xA xo.length xc) := by rw [← hgb.cell 4]; exact hc4
       clear hc0' hc1' hc2' hx hgb hb
       go_upto_region 31 with fail
       refine wp_inv_lit (by kernel_rfl) 9 (by kernel_rfl) (by kernel_rfl) (by decide) (EI w14.heap.size g w16 (.slice (some ⟨g, 0, none⟩) vs.length dV) (n : Int) (.slice xA xo.length xc) (xo.length + 1)) (fun v => ⟨fun _ => (Below.refl _ w16).drew, (fun e => by cases e), (fun e => by cases e), (fun e => by cases e), (fun e => by cases e), (fun e => by cases e), (fun e => by cases e), (fun e => by cases e), (fun e => by cases e), (fun e => by cases e)⟩) ?_ ?_
       ·simp only [List.take_succ_cons, List.take_zero, InvL];refine ⟨?_, ?_, ?_, ?_, ?_, ?_, ?_, ?_, ?_, trivial⟩
        ·refine ⟨fun T v x hI hT hk hcl => ?_⟩;simp only [List.take_succ_cons, List.take_zero, frameF, Act.put, List.setIfInBounds_toArray, List.set_cons_zero, List.set_cons_succ];exact stepF_val (by rfl) (by go_simp) (hI.s0 rfl)
        ·refine ⟨fun T v x hI hT hk hcl => ?_⟩;simp only [List.take_succ_cons, List.take_zero, frameF, Act.put, List.setIfInBounds_toArray, List.set_cons_zero, List.set_cons_succ];exact stepF_val (by rfl) (by go_simp) (hI.s1 rfl)
        ·refine ⟨fun T v x hI hT hk hcl => ?_⟩;simp only [List.take_succ_cons, List.take_zero, frameF, Act.put, List.setIfInBounds_toArray, List.set_cons_zero, List.set_cons_succ];have h0 := hI.f1 (hk 1 (by kernel_rfl));exact stepF_val (by rfl) (by go_simp) (hI.s2 rfl)
        ·refine ⟨fun T v x hI hT hk hcl => ?_⟩;simp only [List.take_succ_cons, List.take_zero, frameF, Act.put, List.setIfInBounds_toArray, List.set_cons_zero, List.set_cons_succ];have h0 := hI.f2 (hk 2 (by kernel_rfl))
         have h8 : T 8 = false := by
          cases e : T 8 with
          | false => rfl
          | true => exact absurd (hcl 8 e 3 (by kernel_rfl)) (by rw [hT]; decide)
         have hgx : g < x.heap.size := Nat.lt_of_lt_of_le HGB.out.lt (hI.pre h8).size;exact stepF_val (by rfl) (by go_simp) (hI.s3 rfl)
        ·refine ⟨fun T v x hI hT hk hcl => ?_⟩;simp only [List.take_succ_cons, List.take_zero, frameF, Act.put, List.setIfInBounds_toArray, List.set_cons_zero, List.set_cons_succ];have h0 := hI.f3 (hk 3 (by kernel_rfl))
         have h8 : T 8 = false := by
          cases e : T 8 with
          | false => rfl
          | true => exact absurd (hcl 8 e 4 (by kernel_rfl)) (by rw [hT]; decide)
         have hcx := ((HGB.out.under (hI.pre h8)).cell 4).trans hEc;exact stepF_val (by rfl) (by go_simp) (hI.s4 rfl)
        ·refine ⟨fun T v x hI hT hk hcl => ?_⟩;simp only [List.take_succ_cons, List.take_zero, frameF, Act.put, List.setIfInBounds_toArray, List.set_cons_zero, List.set_cons_succ];exact stepF_val (by rfl) (by go_simp) (hI.s5 rfl)
        ·refine ⟨fun T v x hI hT hk hcl => ?_⟩;simp only [List.take_succ_cons, List.take_zero, frameF, Act.put, List.setIfInBounds_toArray, List.set_cons_zero, List.set_cons_succ];have h0 := hI.f5 (hk 5 (by kernel_rfl));refine stepF_call (by rfl) (by go_simp) (HLN.out x) ?_;rintro e x' ⟨s, rfl, _, hb⟩;exact ⟨_, rfl, hI.s6 hb (fun e => by have := hcl 8 e 6 (by kernel_rfl); rw [hT] at this; cases this) ⟨s, rfl⟩⟩
        ·refine ⟨fun T v x hI hT hk hcl => ?_⟩;simp only [List.take_succ_cons, List.take_zero, frameF, Act.put, List.setIfInBounds_toArray, List.set_cons_zero, List.set_cons_succ];obtain ⟨s, h0⟩ := hI.f6 (hk 6 (by kernel_rfl));exact stepF_new (u := .slice (some ⟨x.heap.size, 0, none⟩) 1 1) (w' := x.alloc (.cells #[.string s] 9)) (by rfl) (by go_simp) (hI.s7 (rB.alloc nL _) (fun e => by have := hcl 8 e 7 (by kernel_rfl); rw [hT] at this; cases this) ⟨x.heap.size, s, rfl, by simp, (Blk.new x 9 #[.string s]).cell 0⟩)
        ·refine ⟨fun T v x hI hT hk hcl => ?_⟩;simp only [List.take_succ_cons, List.take_zero, frameF, Act.put, List.setIfInBounds_toArray, List.set_cons_zero, List.set_cons_succ];have h4 := hI.f4 (hk 4 (by kernel_rfl));obtain ⟨ga, s, h7, hga, hgc⟩ := hI.f7 (hk 7 (by kernel_rfl)) hT;obtain ⟨A', c', x', ys, hrun, e1, e2, e3, e4⟩ := app_str (hO1.below (hI.pre hT)) (Nat.le_trans hz14 (hI.pre hT).size) hgc hol 23;exact stepF_appRun (by rfl) _ _ (by rfl) _ _ (by first | exact h4 | rfl) (by first | exact h7 | rfl) hrun (hI.s8 hT e4 hz14 ⟨A', c', ys, rfl, e1, e2, e3⟩)
       ·intro T v2 x hT hI;have h0 := hI.f0 (hT 0 (by decide));obtain ⟨hK, A', c', ys, h8, e1, e2, e3⟩ := hI.f8 (hT 8 (by decide));have hGx := hK.other g cur 36 (by decide) HGB.out;have hc4x := (hGx.cell 4).trans hEc;have hfz := hGx.frozen 4;have hgl := hGx.lt;have HK := lH (eds_app HOE2.out HKE'.out hK HGB.out h1 e2 e1 e3);have HBB := lH ((hb1416.trans hK.below).setCell (p := ⟨g, 4, none⟩) hBg (.slice A' (xo.length + 1) c'));clear hI hT hK e3 hGx;simp only [List.drop_succ_cons, List.drop_zero, List.take_succ_cons, List.take_zero, frameF, Act.put, List.setIfInBounds_toArray, List.set_cons_zero, List.set_cons_succ, Nat.zero_add, Nat.reduceAdd, h0, h8];(go_wp2_with fail);go_meet;obtain ⟨vs3, k1, k2, k3⟩ := HK.out;exact ⟨⟨vs3, by rw [k1]; exact HVL.out, k2, k3⟩, HBB.out⟩
     case rest =>
     obtain ⟨⟨vs3, hvl, HSV, HKV⟩, hb1417⟩ := hcut;generalize wc = w17 at *;have HVL3 := lH hvl;clear HZ HOE' HKE' hb1416 HVL hvl;have hb1217 := hb1214.next hb1417 nL;have HSLR := lH (HSL'.out.below hb1417);have HRWR := lH (HRW'.out.below hb1417);have HB17 := lH (HB012.out.next hb1217 nL);clear hb1214 hb1417;(go_wp2_with fail);refine (HQ.out.texts w17 A1 f1 c1 HB17.out hc1 (HS1.out _ hb1217)).mono ?_;rintro e w18 ⟨rfl, hb18⟩;have hb1218 := hb1217.next hb18 nL;have HB18 := lH (HB17.out.next hb18 nL);have q2 := HQ.out.pairs w18 A1 f1 c1 A2 f2 c2 AL rs' cL HB18.out hc1 hc2 (HS1.out _ hb1218) (HS2.out _ hb1218) (HSLR.out.below hb18) (HRWR.out.below hb18);rw [HRL.out] at q2;have Q2 := lH q2;clear q2 hb1217 HB17;(go_wp2_with fail);refine Q2.out.mono ?_;rintro e w19 ⟨rfl, hb19⟩;have hb1219 := hb1218.next hb19 nL
     have hb1719 := hb18.next hb19 nL;have HB19 := lH (HB18.out.next hb19 nL);have q3 := HQ.out.changes w19 A0 f0 c0 A2 f2 c2 AV vs3 dV HB19.out hc0 hc2 (HS0.out _ hb1219) (HS2.out _ hb1219) (HSV.out.below hb1719) (fun r hr => (HKV.out r hr).below hb1719);rw [HVL3.out] at q3;have Q3 := lH q3;clear q3 hb1218 HB18 Q2 hb18 hb19;(go_wp2_with fail);refine Q3.out.mono ?_;rintro e w20 ⟨rfl, hb20⟩;have hb1220 := hb1219.next hb20 nL;have hb1720 := hb1719.next hb20 nL;have HB20 := lH (HB19.out.next hb20 nL);have q4 := HQ.out.changes w20 A1 f1 c1 A2 f2 c2 AV vs3 dV HB20.out hc1 hc2 (HS1.out _ hb1220) (HS2.out _ hb1220) (HSV.out.below hb1720) (fun r hr => (HKV.out r hr).below hb1720);rw [HVL3.out] at q4;have Q4 := lH q4;clear q4 hb1219 HB19 Q3 hb20 hb1719;(go_wp2_with fail);refine Q4.out.mono ?_;rintro e w21 ⟨rfl, hb21⟩
     have hb1221 := hb1220.next hb21 nL;have HB21 := lH (HB20.out.next hb21 nL);have hsq := Sl.fresh (rwE ByteArray) w21 23 #[.slice A0 f0.length c0, .slice A1 f1.length c1, .slice A2 f2.length c2, .slice A1 f1.length c1] [⟨A0, c0, f0⟩, ⟨A1, c1, f1⟩, ⟨A2, c2, f2⟩, ⟨A1, c1, f1⟩] rfl (by simp [maxLen]);have hb22 : Below w21.heap.size w21 (w21.alloc (.cells #[.slice A0 f0.length c0, .slice A1 f1.length c1, .slice A2 f2.length c2, .slice A1 f1.length c1] 23)) := rB.alloc nL _;have hct := run_cutTo (rwE ByteArray) (t := 42) (e := 23) tySS3 (some ⟨w21.heap.size, 0, none⟩) 4 4 m5 hm5;have hb1222 := hb1221.next hb22 nL
     have q5 := HQ.out.copies _ A0 f0 c0 A1 f1 c1 A2 f2 c2 (some ⟨w21.heap.size, 0, none⟩) (([⟨A0, c0, f0⟩, ⟨A1, c1, f1⟩, ⟨A2, c2, f2⟩, ⟨A1, c1, f1⟩] : List (Rw ByteArray)).take m5) 4 (HB21.out.next hb22 nL) hc0 hc1 hc2 (by rw [List.length_take]; exact Nat.min_le_right _ _) (HS0.out _ hb1222) (HS1.out _ hb1222) (HS2.out _ hb1222) (Sl.take hsq m5) (fun r hr => by
      have hr := List.mem_of_mem_take hr;simp only [List.mem_cons, List.not_mem_nil, or_false] at hr
      rcases hr with rfl | rfl | rfl | rfl
      ·exact ⟨HS0.out _ hb1222, hc0⟩
      ·exact ⟨HS1.out _ hb1222, hc1⟩
      ·exact ⟨HS2.out _ hb1222, hc2⟩
      ·exact ⟨HS1.out _ hb1222, hc1⟩)
     have hlt5 : (([⟨A0, c0, f0⟩, ⟨A1, c1, f1⟩, ⟨A2, c2, f2⟩, ⟨A1, c1, f1⟩] : List (Rw ByteArray)).take m5).length = m5 := by rw [List.length_take]; exact Nat.min_eq_left hm5
     rw [hlt5] at q5;have Q5 := lH q5;have hm5i : (m5 : Int) ≤ 4 := (by omega);clear q5 hb1220 HB20 Q4 hb21 hsq hlt5 hb1221;(go_wp2_with fail);refine Q5.out.mono ?_;rintro e w23 ⟨rfl, hb23⟩;have hb823 := hb812.next (hb1222.next hb23 nL) nL;(go_wp2_with fail);go_roundw
     case rel => exact ⟨n + 1, by omega, by go_num, hb823⟩
     case measure => simp [intOf]; omega
    ·as_aux_lemma =>
     have hni : ¬ (n : Int) < 60 := (by omega);have HBr := lH (hb08.next hbr nL);clear hbr hb08;(go_wp2_with fail);have HR1 : Hid (Calls Tryz.prog 15 #[.string ⟨#[97]⟩, .int .i64 40] wr fun e w' => ∃ t, e = .returned (.string t) ∧ t.size ≤ 1000 ∧ Below wr.heap.size wr w') := lH (strRep_spec ⟨#[97]⟩ 40 wr (by decide) (by decide));refine HR1.out.mono ?_;rintro e u1 ⟨t1, rfl, _, hc1⟩;have hS1 := Sl.fresh strE u1 9 #[.string t1] [t1] rfl (by simp [maxLen]);have hb2 : Below u1.heap.size u1 (u1.alloc (.cells #[.string t1] 9)) := rB.alloc nL _;have HB2 := lH ((HBr.out.next hc1 nL).next hb2 nL);clear HR1 hc1;(go_wp2_with fail);generalize u1.alloc (.cells #[.string t1] 9) = u2 at *;generalize u1.heap.size = y1 at *;have HR2 : Hid (Calls Tryz.prog 15 #[.string ⟨#[97]⟩, .int .i64 41] u2 fun e w' => ∃ t, e = .returned (.string t) ∧ t.size ≤ 1000 ∧ Below u2.heap.size u2 w') := lH (strRep_spec ⟨#[97]⟩ 41 u2 (by decide) (by decide))
     refine HR2.out.mono ?_;rintro e u3 ⟨t2, rfl, _, hc2⟩;have HS1 := lH (hS1.below hc2);have HB3 := lH (HB2.out.next hc2 nL);obtain ⟨u4, hu4⟩ : ∃ u, u = u3.alloc (.cells #[.string t2] 9) := ⟨_, rfl⟩;have hS2 := Sl.fresh strE u3 9 #[.string t2] [t2] rfl (by simp [maxLen]);have hd4 : Below u3.heap.size u3 u4 := by rw [hu4]; exact rB.alloc nL _
     rw [← hu4] at hS2;have hz4 : u4.heap.size = u3.heap.size + 1 := by rw [hu4]; simp
     obtain ⟨u5, hu5⟩ : ∃ u, u = u4.alloc (.cells #[.string ⟨#[97]⟩, .string ⟨#[31]⟩] 9) := ⟨_, rfl⟩;have hS3 := Sl.fresh strE u4 9 #[.string ⟨#[97]⟩, .string ⟨#[31]⟩] [⟨#[97]⟩, ⟨#[31]⟩] rfl (by decide);have hd5 : Below u4.heap.size u4 u5 := by rw [hu5]; exact rB.alloc nL _
     rw [← hu5] at hS3;have hz5 : u5.heap.size = u4.heap.size + 1 := by rw [hu5]; simp
     obtain ⟨u6, hu6⟩ : ∃ u, u = u5.alloc (.cells #[.string ⟨#[32, 126]⟩] 9) := ⟨_, rfl⟩;have hS4 := Sl.fresh strE u5 9 #[.string ⟨#[32, 126]⟩] [⟨#[32, 126]⟩] rfl (by decide);have hd6 : Below u5.heap.size u5 u6 := by rw [hu6]; exact rB.alloc nL _
     rw [← hu6] at hS4;have hz6 : u6.heap.size = u5.heap.size + 1 := by rw [hu6]; simp
     obtain ⟨u7, hu7⟩ : ∃ u, u = u6.alloc (.cells #[.string ⟨#[127]⟩] 9) := ⟨_, rfl⟩;have hS5 := Sl.fresh strE u6 9 #[.string ⟨#[127]⟩] [⟨#[127]⟩] rfl (by decide);have hd7 : Below u6.heap.size u6 u7 := by rw [hu7]; exact rB.alloc nL _
     rw [← hu7] at hS5;have hz7 : u7.heap.size = u6.heap.size + 1 := by rw [hu7]; simp
     obtain ⟨u8, hu8⟩ : ∃ u, u = u7.alloc (.cells #[.string ⟨#[195, 169]⟩] 9) := ⟨_, rfl⟩;have hS6 := Sl.fresh strE u7 9 #[.string ⟨#[195, 169]⟩] [⟨#[195, 169]⟩] rfl (by decide);have hd8 : Below u7.heap.size u7 u8 := by rw [hu8]; exact rB.alloc nL _
     rw [← hu8] at hS6;rw [hz4] at hS3;rw [hz5, hz4] at hS4;rw [hz6, hz5, hz4] at hS5;rw [hz7, hz6, hz5, hz4] at hS6;have hd58 := ((hd5.next hd6 nL).next hd7 nL).next hd8 nL;have hd38 := hd4.next hd58 nL;have hd68 := (hd6.next hd7 nL).next hd8 nL;have hd78 := hd7.next hd8 nL;have K1 := lH (HS1.out.below hd38);have K2 := lH (hS2.below hd58);have K3 := lH (hS3.below hd68);have K4 := lH (hS4.below hd78);have K5 := lH (hS5.below hd8);have K6 := lH hS6;have HB8 := lH (HB3.out.next hd38 nL);clear HR2 hS1 hS2 hS3 hS4 hS5 hS6 hd4 hd5 hd6 hd7 hd8 hd58 hd38 hd68 hd78 HS1 hc2 hb2;(go_wp2_with fail);rw [← hu4, ← hu5, ← hu6, ← hu7, ← hu8];clear hu4 hu5 hu6 hu7 hu8 hz4 hz5 hz6 hz7;generalize u3.heap.size = y3 at *;have HR3 : Hid (Calls Tryz.prog 15 #[.string ⟨#[98]⟩, .int .i64 41] u8 fun e w' => ∃ t, e = .returned (.string t) ∧ t.size ≤ 1000 ∧ Below u8.heap.size u8 w') := lH (strRep_spec ⟨#[98]⟩ 41 u8 (by decide) (by decide))
     refine HR3.out.mono ?_;rintro e u9 ⟨t3, rfl, _, hc9⟩;have hS7 := Sl.fresh strE u9 9 #[.string ⟨#[255]⟩, .string t3] [⟨#[255]⟩, t3] rfl (by simp [maxLen]);have hd10 : Below u9.heap.size u9 (u9.alloc (.cells #[.string ⟨#[255]⟩, .string t3] 9)) := rB.alloc nL _;have hz10 : (u9.alloc (.cells #[.string ⟨#[255]⟩, .string t3] 9)).heap.size = u9.heap.size + 1 := by simp
     obtain ⟨u10, hu10⟩ : ∃ u, u = u9.alloc (.cells #[.string ⟨#[255]⟩, .string t3] 9) := ⟨_, rfl⟩;rw [← hu10] at hS7 hd10 hz10;obtain ⟨y9, hy9⟩ : ∃ y, y = u9.heap.size := ⟨_, rfl⟩;rw [← hy9] at hS7 hz10;have hSR := Sl.fresh (rwE ByteArray) u10 23 #[.slice (some ⟨y1, 0, none⟩) 1 1, .slice (some ⟨y3, 0, none⟩) 1 1, .slice (some ⟨y3 + 1, 0, none⟩) 2 2, .slice (some ⟨y3 + 1 + 1, 0, none⟩) 1 1, .slice (some ⟨y3 + 1 + 1 + 1, 0, none⟩) 1 1, .slice (some ⟨y3 + 1 + 1 + 1 + 1, 0, none⟩) 1 1, .slice (some ⟨y9, 0, none⟩) 2 2] [⟨some ⟨y1, 0, none⟩, 1, [t1]⟩, ⟨some ⟨y3, 0, none⟩, 1, [t2]⟩, ⟨some ⟨y3 + 1, 0, none⟩, 2, [⟨#[97]⟩, ⟨#[31]⟩]⟩, ⟨some ⟨y3 + 1 + 1, 0, none⟩, 1, [⟨#[32, 126]⟩]⟩, ⟨some ⟨y3 + 1 + 1 + 1, 0, none⟩, 1, [⟨#[127]⟩]⟩, ⟨some ⟨y3 + 1 + 1 + 1 + 1, 0, none⟩, 1, [⟨#[195, 169]⟩]⟩, ⟨some ⟨y9, 0, none⟩, 2, [⟨#[255]⟩, t3]⟩] rfl (by simp [maxLen]);have hd11 : Below u10.heap.size u10 (u10.alloc (.cells #[.slice (some ⟨y1, 0, none⟩) 1 1, .slice (some ⟨y3, 0, none⟩) 1 1, .slice (some ⟨y3 + 1, 0, none⟩) 2 2, .slice (some ⟨y3 + 1 + 1, 0, none⟩) 1 1, .slice (some ⟨y3 + 1 + 1 + 1, 0, none⟩) 1 1, .slice (some ⟨y3 + 1 + 1 + 1 + 1, 0, none⟩) 1 1, .slice (some ⟨y9, 0, none⟩) 2 2] 23)) := rB.alloc nL _
     rw [hz10] at hSR;obtain ⟨u11, hu11⟩ : ∃ u, u = u10.alloc (.cells #[.slice (some ⟨y1, 0, none⟩) 1 1, .slice (some ⟨y3, 0, none⟩) 1 1, .slice (some ⟨y3 + 1, 0, none⟩) 2 2, .slice (some ⟨y3 + 1 + 1, 0, none⟩) 1 1, .slice (some ⟨y3 + 1 + 1 + 1, 0, none⟩) 1 1, .slice (some ⟨y3 + 1 + 1 + 1 + 1, 0, none⟩) 1 1, .slice (some ⟨y9, 0, none⟩) 2 2] 23) := ⟨_, rfl⟩;rw [← hu11] at hSR hd11;have hc810 := hc9.next hd10 nL;have hc811 := hc810.next hd11 nL
     have HRR : Hid (RowsR strE u11 [⟨some ⟨y1, 0, none⟩, 1, [t1]⟩, ⟨some ⟨y3, 0, none⟩, 1, [t2]⟩, ⟨some ⟨y3 + 1, 0, none⟩, 2, [⟨#[97]⟩, ⟨#[31]⟩]⟩, ⟨some ⟨y3 + 1 + 1, 0, none⟩, 1, [⟨#[32, 126]⟩]⟩, ⟨some ⟨y3 + 1 + 1 + 1, 0, none⟩, 1, [⟨#[127]⟩]⟩, ⟨some ⟨y3 + 1 + 1 + 1 + 1, 0, none⟩, 1, [⟨#[195, 169]⟩]⟩, ⟨some ⟨y9, 0, none⟩, 2, [⟨#[255]⟩, t3]⟩]) := lH fun r hr => by
      simp only [List.mem_cons, List.not_mem_nil, or_false] at hr
      rcases hr with rfl | rfl | rfl | rfl | rfl | rfl | rfl
      ·exact ⟨K1.out.below hc811, Nat.le_refl _⟩
      ·exact ⟨K2.out.below hc811, Nat.le_refl _⟩
      ·exact ⟨K3.out.below hc811, Nat.le_refl _⟩
      ·exact ⟨K4.out.below hc811, Nat.le_refl _⟩
      ·exact ⟨K5.out.below hc811, Nat.le_refl _⟩
      ·exact ⟨K6.out.below hc811, Nat.le_refl _⟩
      ·exact ⟨hS7.below hd11, Nat.le_refl _⟩
     have HSR := lH hSR;have HB11 := lH (HB8.out.next hc811 nL);obtain ⟨R, hR⟩ : ∃ R : List (Rw ByteArray), R = [⟨some ⟨y1, 0, none⟩, 1, [t1]⟩, ⟨some ⟨y3, 0, none⟩, 1, [t2]⟩, ⟨some ⟨y3 + 1, 0, none⟩, 2, [⟨#[97]⟩, ⟨#[31]⟩]⟩, ⟨some ⟨y3 + 1 + 1, 0, none⟩, 1, [⟨#[32, 126]⟩]⟩, ⟨some ⟨y3 + 1 + 1 + 1, 0, none⟩, 1, [⟨#[127]⟩]⟩, ⟨some ⟨y3 + 1 + 1 + 1 + 1, 0, none⟩, 1, [⟨#[195, 169]⟩]⟩, ⟨some ⟨y9, 0, none⟩, 2, [⟨#[255]⟩, t3]⟩] := ⟨_, rfl⟩;have HRL : Hid (R.length = 7) := lH (by rw [hR]; rfl);rw [← hR] at HRR HSR;have HUU := lH (show u10.alloc (.cells #[.slice (some ⟨y1, 0, none⟩) 1 1, .slice (some ⟨y3, 0, none⟩) 1 1, .slice (some ⟨y3 + 1, 0, none⟩) 2 2, .slice (some ⟨y3 + 1 + 1, 0, none⟩) 1 1, .slice (some ⟨y3 + 1 + 1 + 1, 0, none⟩) 1 1, .slice (some ⟨y3 + 1 + 1 + 1 + 1, 0, none⟩) 1 1, .slice (some ⟨y9, 0, none⟩) 2 2] 23) = u11 from hu11.symm);have HU10 := lH hu10
     have HY9 := lH hy9;clear HR3 hS7 hd10 hz10 hSR hd11 hc810 hc811 hc9 K1 K2 K3 K4 K5 K6 hR hu11 hu10 hy9
     go_wp2_with (refine buildVals (by rfl) 42 23 7 _ (by rfl) [.slice (some ⟨y1, 0, none⟩) 1 1, .slice (some ⟨y3, 0, none⟩) 1 1, .slice (some ⟨y3 + 1, 0, none⟩) 2 2, .slice (some ⟨y3 + 1 + 1, 0, none⟩) 1 1, .slice (some ⟨y3 + 1 + 1 + 1, 0, none⟩) 1 1, .slice (some ⟨y3 + 1 + 1 + 1 + 1, 0, none⟩) 1 1, .slice (some ⟨u9.heap.size, 0, none⟩) 2 2] Tryz.underlying42 (by kernel_rfl) (by kernel_rfl) rfl (by decide) (by decide) (fun v hv => by simp only [List.mem_cons, List.not_mem_nil, or_false] at hv; rcases hv with rfl | rfl | rfl | rfl | rfl | rfl | rfl <;> rfl) (by kernel_rfl) ?_)
     rw [← HU10.out, ← HY9.out, HUU.out];clear HUU HU10 HY9
     go_loopw [16, 246] (fun _ i wx => ∃ k : Nat, k ≤ 7 ∧ i = iv (k : Int) ∧ Below u11.heap.size u11 wx) (fun _ i _ => 7 - (intOf i).toNat)
     case atStart => exact ⟨0, by omega, rfl, rB⟩
     case round =>
      obtain ⟨k, hk, rfl, hbx⟩ := hrel
      by_cases hlt5 : k < 7
      ·as_aux_lemma =>
       have hki : (k : Int) < 7 := (by omega);obtain ⟨b, off, r, hA, hb, hr, hc⟩ := Sl.atRw (HSR.out.below hbx) (show k < R.length by have := HRL.out; omega);injection hA with hA;injection hA with i1 i2;subst i1 i2;simp only [Nat.zero_add] at hc;obtain ⟨hrs, hrc⟩ := HRR.out r (mem_at hr);obtain ⟨xA, xc, xs⟩ := r;simp only at hc hrs hrc;obtain ⟨x0, rfl⟩ : ∃ x : World, x = wr := ⟨_, rfl⟩;have HSX : Hid (∀ W, Below x0.heap.size x0 W → Sl strE W xA xs) := lH fun W h => (hrs.below hbx).below h
       have HB0 := lH (HB11.out.next hbx nL);have HBW : Hid (∀ W, Below x0.heap.size x0 W → Below w.heap.size w W) := lH fun W h => HB0.out.next h nL
       clear hr hrs;(go_wp2_with fail);refine (HQ.out.texts _ xA xs xc HB0.out hrc (HSX.out _ rB)).mono ?_;rintro e x1 ⟨rfl, h01⟩;clear hc;have HB1 := lH (HBW.out _ h01);(go_wp2_with fail);refine (three_spec _).mono ?_;rintro e x2 ⟨A3, rfl, hs3, h12⟩;have h02 := h01.next h12 nL;have Q2 := lH (HQ.out.pairs x2 xA xs xc A3 three 3 none [] 0 (HBW.out _ h02) hrc (by decide) (HSX.out _ h02) hs3 Sl.nil (fun _ h => by cases h));clear hs3 h12 h01 HB1;(go_wp2_with fail);refine Q2.out.mono ?_;rintro e x3 ⟨rfl, h23⟩;have h03 := h02.next h23 nL;clear Q2 h02 h23;(go_wp2_with fail);refine (three_spec _).mono ?_;rintro e x4 ⟨A4, rfl, hs4, h34⟩;have h04 := h03.next h34 nL;have hE := Sl.fresh edE x4 36 #[iv 0, .slice none 0 0, .slice xA xs.length xc] [⟨0, none, 0, [], xA, xc, xs⟩] rfl (by simp [maxLen]);have h45 : Below x4.heap.size x4 (x4.alloc (.cells #[iv 0, .slice none 0 0, .slice xA xs.length xc] 36)) := rB.alloc nL _
       have h05 := h04.next h45 nL
       have Q3 := lH (HQ.out.changes _ A4 three 3 xA xs xc (some ⟨x4.heap.size, 0, none⟩) [⟨0, none, 0, [], xA, xc, xs⟩] 1 (HBW.out _ h05) (by decide) hrc (hs4.below h45) (HSX.out _ h05) hE (fun r hr => by
        obtain rfl := List.mem_singleton.1 hr;exact ⟨Sl.nil, HSX.out _ h05, Nat.le_refl _, hrc⟩))
       clear hs4 hE h03 h34 h04 h45;(go_wp2_with fail);refine Q3.out.mono ?_;rintro e x6 ⟨rfl, h56⟩;have h06 := h05.next h56 nL;clear Q3 h05 h56;(go_wp2_with fail);refine (three_spec _).mono ?_;rintro e x7 ⟨A7, rfl, hs7, h67⟩;have h07 := h06.next h67 nL;clear h06 h67;(go_wp2_with fail);refine (gold_spec _).mono ?_;rintro e x8 ⟨A8, rfl, hs8, h78⟩;have h08 := h07.next h78 nL;have hs7 := hs7.below h78;have hR2 := Sl.fresh (rwE ByteArray) x8 23 #[.slice xA xs.length xc, .slice xA xs.length xc] [⟨xA, xc, xs⟩, ⟨xA, xc, xs⟩] rfl (by simp [maxLen]);have h89 : Below x8.heap.size x8 (x8.alloc (.cells #[.slice xA xs.length xc, .slice xA xs.length xc] 23)) := rB.alloc nL _;have h09 := h08.next h89 nL
       have Q4 := lH (HQ.out.copies _ A7 three 3 A8 gold 3 xA xs xc (some ⟨x8.heap.size, 0, none⟩) [⟨xA, xc, xs⟩, ⟨xA, xc, xs⟩] 2 (HBW.out _ h09) (by decide) (by decide) hrc (by simp) (hs7.below h89) (hs8.below h89) (HSX.out _ h09) hR2 (fun r hr => by
        simp only [List.mem_cons, List.not_mem_nil, or_false, or_self] at hr;subst hr;exact ⟨HSX.out _ h09, hrc⟩))
       clear hs7 hs8 hR2 h07 h78 h08 h89;(go_wp2_with fail);refine Q4.out.mono ?_;rintro e x10 ⟨rfl, h910⟩;have hb11 := hbx.next (h09.next h910 nL) nL;(go_wp2_with fail);go_roundw
       case rel => exact ⟨k + 1, by omega, by go_num, hb11⟩
       case measure => simp [intOf]; omega
      ·as_aux_lemma =>
       have hki : ¬ (k : Int) < 7 := (by omega);have HB0 := lH (HB11.out.next hbx nL);clear hbx HB11 HSR HRR HRL HB2 HB3 HB8 HBr;have hsI := Sl.fresh intE wr 3 #[iv (-9223372036854775808), iv (-1), iv 0, iv 1, iv 2, iv 3, iv 4, iv 23, iv 24, iv 25, iv 9223372036854775807] v11 rfl (by decide);have h01 : Below wr.heap.size wr (wr.alloc (.cells #[iv (-9223372036854775808), iv (-1), iv 0, iv 1, iv 2, iv 3, iv 4, iv 23, iv 24, iv 25, iv 9223372036854775807] 3)) := rB.alloc nL _;have HB1 := lH (HB0.out.next h01 nL);clear h01
       go_wp2_with (refine buildVals (by rfl) 31 3 11 _ (by rfl) [iv (-9223372036854775808), iv (-1), iv 0, iv 1, iv 2, iv 3, iv 4, iv 23, iv 24, iv 25, iv 9223372036854775807] Tryz.underlying31 (by kernel_rfl) (by kernel_rfl) rfl (by decide) (by decide) (fun v hv => by simp only [List.mem_cons, List.not_mem_nil, or_false] at hv; rcases hv with rfl | rfl | rfl | rfl | rfl | rfl | rfl | rfl | rfl | rfl | rfl <;> rfl) (by kernel_rfl) ?_)
       generalize wr.alloc (.cells #[iv (-9223372036854775808), iv (-1), iv 0, iv 1, iv 2, iv 3, iv 4, iv 23, iv 24, iv 25, iv 9223372036854775807] 3) = x1 at *;generalize wr.heap.size = yI at *;have HSI := lH hsI;clear hsI HB0
       go_loopw [18, 281] (fun _ i wx => ∃ q : Nat, q ≤ 11 ∧ i = iv (q : Int) ∧ Below x1.heap.size x1 wx) (fun _ i _ => 11 - (intOf i).toNat)
       case atStart => exact ⟨0, by omega, rfl, rB⟩
       case round =>
        obtain ⟨q, hq, rfl, hbx⟩ := hrel
        by_cases hlt6 : q < 11
        ·as_aux_lemma =>
         have hqi : (q : Int) < 11 := (by omega);obtain ⟨b, off, v, hA, hb, hv, hc⟩ := Sl.atI (HSI.out.below hbx) (show q < v11.length from hlt6);injection hA with hA;injection hA with i1 i2;subst i1 i2;simp only [Nat.zero_add] at hc;clear hv;obtain ⟨x2, rfl⟩ : ∃ x : World, x = wr := ⟨_, rfl⟩;have HBW : Hid (∀ W, Below x2.heap.size x2 W → Below w.heap.size w W) := lH fun W h => (HB1.out.next hbx nL).next h nL
         (go_wp2_with fail);refine (three_spec _).mono ?_;rintro e x3 ⟨A3, rfl, hs3, h23⟩;clear hc;(go_wp2_with fail);refine (gold_spec _).mono ?_;rintro e x4 ⟨A4, rfl, hs4, h34⟩;have h24 := h23.next h34 nL;obtain ⟨vs, l1, s1, k1, b1⟩ := ed_one x4 v;have h25 := h24.next b1 nL;have q1 := HQ.out.changes _ A3 three 3 A4 gold 3 _ vs 1 (HBW.out _ h25) (by decide) (by decide) ((hs3.below h34).below b1) (hs4.below b1) s1 k1;rw [l1] at q1;have Q1 := lH q1;clear hs3 hs4 h23 h34 h24 l1 s1 k1 b1 q1;(go_wp2_with fail);refine Q1.out.mono ?_;rintro e x6 ⟨rfl, h56⟩;have h26 := h25.next h56 nL;clear Q1 h25 h56;(go_wp2_with fail);refine (three_spec _).mono ?_;rintro e x7 ⟨A7, rfl, hs7, h67⟩;have h27 := h26.next h67 nL;clear h26 h67;(go_wp2_with fail);refine (gold_spec _).mono ?_;rintro e x8 ⟨A8, rfl, hs8, h78⟩;have h28 := h27.next h78 nL
         obtain ⟨vs, l1, s1, k1, b1⟩ := ed_two x8 v;have h29 := h28.next b1 nL;have q1 := HQ.out.changes _ A7 three 3 A8 gold 3 _ vs 2 (HBW.out _ h29) (by decide) (by decide) ((hs7.below h78).below b1) (hs8.below b1) s1 k1;rw [l1] at q1;have Q1 := lH q1;clear hs7 hs8 h27 h78 h28 l1 s1 k1 b1 q1
         go_wp2_with (refine buildAggsW (by first | rfl | (simp [Region.wanted, yielded]; done)) 32 36 2 _ (by rfl) [.agg #[iv 0, .slice none 0 0, .slice (some ⟨x8.heap.size, 0, none⟩) 1 1], .agg #[iv v, .slice none 0 0, .slice (some ⟨x8.heap.size + 1, 0, none⟩) 1 1]] 3 #[iv 0, .slice none 0 0, .slice (some ⟨x8.heap.size, 0, none⟩) 1 1, iv v, .slice none 0 0, .slice (some ⟨x8.heap.size + 1, 0, none⟩) 1 1] (by decide) Tryz.underlying32 (by kernel_rfl) (by kernel_rfl) rfl (by decide) (by decide) (fun v hv => by simp only [List.mem_cons, List.not_mem_nil, or_false] at hv; rcases hv with rfl | rfl <;> rfl) (by kernel_rfl) (by rfl) ?_)
         refine Q1.out.mono ?_;rintro e x10 ⟨rfl, h910⟩;have h210 := h29.next h910 nL;clear Q1 h29 h910;(go_wp2_with fail);refine (three_spec _).mono ?_;rintro e x11 ⟨A11, rfl, hs11, h1011⟩;have h211 := h210.next h1011 nL;clear h210 h1011;(go_wp2_with fail);refine (gold_spec _).mono ?_;rintro e x12 ⟨A12, rfl, hs12, h1112⟩;have h212 := h211.next h1112 nL;obtain ⟨rs, l1, s1, k1, b1⟩ := rows_three x12 v;have h213 := h212.next b1 nL;have q1 := HQ.out.pairs _ A11 three 3 A12 gold 3 _ rs 3 (HBW.out _ h213) (by decide) (by decide) ((hs11.below h1112).below b1) (hs12.below b1) s1 k1;rw [l1] at q1;have Q1 := lH q1;clear hs11 hs12 h211 h1112 h212 l1 s1 k1 b1 q1;(go_wp2_with fail);refine Q1.out.mono ?_;rintro e x14 ⟨rfl, h1314⟩;have hb114 := hbx.next (h213.next h1314 nL) nL;(go_wp2_with fail);go_roundw
         case rel => exact ⟨q + 1, by omega, by go_num, hb114⟩
         case measure => simp [intOf]; omega
        ·as_aux_lemma =>
         have hqi : ¬ (q : Int) < 11 := (by omega);have HB2 := lH (HB1.out.next hbx nL);clear hbx HB1 HSI;obtain ⟨x2, rfl⟩ : ∃ x : World, x = wr := ⟨_, rfl⟩;(go_wp2_with fail)
         go_loopw [19, 20, 21, 22] (fun i _ _ _ wx => ∃ n : Nat, 22 ≤ n ∧ n ≤ 28 ∧ i = iv (n : Int) ∧ Below x2.heap.size x2 wx) (fun i _ _ _ _ => 28 - (intOf i).toNat)
         case atStart => exact ⟨22, by omega, by omega, rfl, rB⟩
         case round =>
          obtain ⟨n, hn1, hn2, rfl, hbx⟩ := hrel
          by_cases hlt7 : n < 28
          ·as_aux_lemma =>
           have hni : (n : Int) < 28 := (by omega);have HBr := lH (HB2.out.next hbx nL);have hba : Below wr.heap.size wr (wr.alloc (.cells #[.string ⟨#[120]⟩] 9)) := rB.alloc nL _;have HRP := lH (repeatS_at ⟨#[120]⟩ n (wr.alloc (.cells #[.string ⟨#[120]⟩] 9)) (by omega) (by omega) wr.heap.size (by simp) ((Blk.new wr 9 #[.string ⟨#[120]⟩]).cell 0));(go_wp2_with fail);refine HRP.out.mono ?_;rintro e y1 ⟨A, rfl, ho, hb1⟩;have hb01 := hba.next hb1 nL;have HB1' := lH (HBr.out.next hb01 nL);obtain ⟨L, hL⟩ : ∃ L, L = List.replicate n (⟨#[120]⟩ : ByteArray) := ⟨_, rfl⟩;rw [← hL] at ho;have hLl : L.length = n := by rw [hL, List.length_replicate]
           have HLL := lH hLl;have HSL1 : Hid (∀ W, Below y1.heap.size y1 W → Sl strE W A L) := lH fun W h => ho.sl.below h
           have hpr := print_spec A L n y1 (by rw [hLl]; unfold big; omega) ho.sl (HT.out.below HB1'.out);rw [hLl] at hpr;obtain ⟨TX, hTX⟩ : ∃ T, T = (if File.check L = 0 then File.ba (File.text L) else ⟨#[]⟩) := ⟨_, rfl⟩;rw [← hTX] at hpr
           have hTn : n ≤ 24 → 3 ≤ TX.size ∧ TX.size ≤ 3000 := fun h => by
            rw [hTX, hL, if_pos (check_xs n h), ba_len];have := text_xs n hn1 h;omega
           have HTN := lH hTn;have HPR := lH hpr;clear hTX hL hLl hpr hTn ho HRP hba hb1;(go_wp2_with fail);refine HPR.out.mono ?_;rintro e y2 ⟨rfl, hb2⟩;have hb02 := hb01.next hb2 nL;have HB2' := lH (HB1'.out.next hb2 nL);have HSL2 : Hid (∀ W, Below y2.heap.size y2 W → Sl strE W A L) := lH fun W h => HSL1.out W (hb2.next h nL)
           clear HPR HSL1 HB1' hb01 hb2
           go_upto_region 52 with fail
           go_cut [331] from 330 to 331 (fun v wx => ∃ z : Bool, v = .bool z ∧ Hid (z = false → n ≤ 24) ∧ wx = y2)
           case first => as_aux_lemma =>
            by_cases h24 : (24 : Int) < (n : Int)
            ·(go_wp2_with fail);go_meet;exact ⟨true, rfl, (fun e => by cases e), rfl⟩
            ·(go_wp2_with fail);go_meet;exact ⟨false, rfl, (fun _ => by omega), rfl⟩
           case rest =>
           obtain ⟨z, rfl, HZ, rfl⟩ := hcut;generalize wc = y2 at *
           go_upto_if 331 with fail
           go_cut [21] from 332 to 334 (fun v wx => (∃ T : ByteArray, v = .string T ∧ 3 ≤ T.size ∧ T.size ≤ 3000) ∧ Below y2.heap.size y2 wx)
           case first => as_aux_lemma =>
            cases z
            ·obtain ⟨q1, q2⟩ := HTN.out (HZ.out rfl);(go_wp2_with fail);go_meet;exact ⟨⟨TX, rfl, q1, q2⟩, rB⟩
            ·(go_wp2_with fail);refine (strRep_spec ⟨#[49, 58, 120, 10]⟩ n _ (by decide) (by omega)).mono ?_;rintro e y3 ⟨t, rfl, ht, hb3⟩;have z3 : (t ++ ⟨#[61, 48, 10]⟩ : ByteArray).size = t.size + 3 := by rw [ByteArray.size_append]; rfl
             have z4 : (⟨#[61, 48, 10]⟩ : ByteArray).size = 3 := rfl;have Z3 := lH z3;clear z3;(go_wp2_with fail);go_meet;exact ⟨⟨t ++ ⟨#[61, 48, 10]⟩, rfl, by rw [Z3.out]; omega, by rw [Z3.out]; omega⟩, hb3⟩
           case rest =>
           obtain ⟨⟨T, rfl, hT3, hT4⟩, hb23⟩ := hcut;generalize wc = y3 at *;have hb03 := hb02.next hb23 nL;have HBW : Hid (∀ W, Below y3.heap.size y3 W → Below w.heap.size w W) := lH fun W h => (HB2'.out.next hb23 nL).next h nL
           have HSL : Hid (∀ W, Below y3.heap.size y3 W → Sl strE W A L) := lH fun W h => HSL2.out W (hb23.next h nL)
           have HLT : Hid (∀ k, k ≤ n → (L.take k).length = k) := lH fun k h => by rw [List.length_take, HLL.out]; exact Nat.min_eq_left h
           have HCT : Hid (∀ x, Below y3.heap.size y3 x → Calls Tryz.prog 11 #[.slice A n n] x (RT x)) := lH fun x h => by
            have := HQ.out.texts x A L n (HBW.out x h) (Nat.le_of_eq HLL.out) (HSL.out x h);rw [HLL.out] at this;exact this
           have HCL : Hid (∀ x, Below y3.heap.size y3 x → Calls Tryz.prog 19 #[.slice A 12 n] x fun e w' => ∃ A1 c1, e = .returned (.slice A1 12 c1) ∧ Own strE 9 x.heap.size w' (.slice A1 12 c1) (L.take 12) ∧ Below x.heap.size x w') := lH fun x h => by
            have := cloneS A (L.take 12) n x (by rw [HLT.out 12 (by omega)]; unfold big; omega) (Sl.take (HSL.out x h) 12);rw [HLT.out 12 (by omega)] at this;refine this.mono ?_;rintro e w' ⟨v, rfl, ho, hb⟩;obtain ⟨A1, c1, rfl, _, _⟩ := ho.form;rw [HLT.out 12 (by omega)] at ho ⊢;exact ⟨A1, c1, rfl, ho, hb⟩
           obtain ⟨T3, hT3s, rt⟩ := cut_to T (T.size - 3) (by omega)
           have ew : IntKind.i64.wrap ((T.size : Int) - 3) = ((T.size - 3 : Nat) : Int) := by
            rw [show (T.size : Int) - 3 = ((T.size - 3 : Nat) : Int) by omega];exact IntWalk.i64_in _ (by omega)
           have e20 : IntKind.i64.wrap ((n : Int) - 20) = ((n - 20 : Nat) : Int) := by
            rw [show (n : Int) - 20 = ((n - 20 : Nat) : Int) by omega];exact IntWalk.i64_in _ (by omega)
           have e16 : IntKind.i64.wrap ((n : Int) - 16) = ((n - 16 : Nat) : Int) := by
            rw [show (n : Int) - 16 = ((n - 16 : Nat) : Int) by omega];exact IntWalk.i64_in _ (by omega)
           have c20 := run_cutTo strE (t := 23) (e := 9) tyStrs A n n (n - 20) (by omega);have c16 := run_cutTo strE (t := 23) (e := 9) tyStrs A n n (n - 16) (by omega);have c12 : ∀ W : World, (Instr.slice 23 (.slice A n n) none (some (.int .i64 12)) none).run Tryz.prog W = .ok (.slice A 12 n) W := run_cutTo strE (t := 23) (e := 9) tyStrs A n n 12 (by omega);clear hb02 hb23 HB2' HSL2 hT3s
           go_upto_region 54 with fail
           refine wfl 63 (fun nR x => KeepS y3.heap.size y3 x) (fun x x' => KeepS y3.heap.size x x')
            [eqv (.slice A n n),
             eqv (.bool true),
             eqv (.bool false),
             eqv (.bool false),
             eqv (.string T),
             eqv (.bool true),
             eqv (.bool false),
             eqv (.bool false),
             eqv (.bool false),
             eqv (.string T),
             eqv (.string T),
             eqv (iv (T.size : Int)),
             eqv (iv ((T.size - 3 : Nat) : Int)),
             eqv (.string T3),
             eqv (.bool true),
             eqv (.bool false),
             eqv (.bool false),
             eqv (.bool false),
             eqv (.slice A n n),
             fun _ u x => ∃ A1 xs1, u = .slice A1 3 3 ∧ xs1.length = 3 ∧ Sl strE x A1 xs1,
             fun _ u x => ∃ A1 xs1, u = .slice A1 2 2 ∧ xs1.length = 2 ∧ Sl strE x A1 xs1,
             fun _ u x => ∃ A1 xs1, u = .agg #[iv 0, .slice none 0 0, .slice A1 2 2] ∧ xs1.length = 2 ∧ Sl strE x A1 xs1,
             fun _ u x => ∃ g1 A1 xs1, u = .slice (some ⟨g1, 0, none⟩) 1 1 ∧ Blk x g1 36 #[iv 0, .slice none 0 0, .slice A1 2 2] ∧ xs1.length = 2 ∧ Sl strE x A1 xs1,
             eqv (.bool true),
             eqv (.bool false),
             eqv (.bool false),
             eqv (.bool false),
             eqv (.slice A n n),
             eqv (.agg #[iv 0, .slice none 0 0, .slice A n n]),
             fun _ u x => ∃ g1, u = .slice (some ⟨g1, 0, none⟩) 1 1 ∧ Blk x g1 36 #[iv 0, .slice none 0 0, .slice A n n],
             eqv (.bool true),
             eqv (.bool false),
             eqv (.bool false),
             eqv (.bool false),
             eqv (.slice A n n),
             eqv (iv (n : Int)),
             eqv (iv ((n - 20 : Nat) : Int)),
             eqv (.slice A (n - 20) n),
             fun _ u x => ∃ g1 s, u = .slice (some ⟨g1, 0, none⟩) 1 1 ∧ Sl strE x (some ⟨g1, 0, none⟩) [s],
             fun _ u x => ∃ A1 xs1, u = .slice A1 12 12 ∧ xs1.length = 12 ∧ Sl strE x A1 xs1,
             eqv (.slice A n n),
             fun _ u x => ∃ g1, u = .slice (some ⟨g1, 0, none⟩) 1 1 ∧ Blk x g1 23 #[.slice A n n],
             eqv (.bool true),
             eqv (.bool false),
             eqv (.bool false),
             eqv (.bool false),
             eqv (.slice A n n),
             eqv (.slice A 12 n),
             eqv (.slice A n n),
             eqv (.slice A 12 n),
             fun _ u x => ∃ A1 c1 xs1, u = .slice A1 12 c1 ∧ xs1.length = 12 ∧ Own strE 9 y3.heap.size x (.slice A1 12 c1) xs1,
             eqv (.slice A n n),
             eqv (iv (n : Int)),
             eqv (iv ((n - 16 : Nat) : Int)),
             eqv (.slice A (n - 16) n),
             fun _ u x => ∃ A1 c1 xs1, u = .slice A1 (n - 4) c1 ∧ xs1.length = n - 4 ∧ n - 4 ≤ c1 ∧ Sl strE x A1 xs1,
             fun _ u x => ∃ A1 c1 xs1, u = .slice A1 3 c1 ∧ xs1.length = 3 ∧ Own strE 9 y3.heap.size x (.slice A1 3 c1) xs1,
             eqv (.slice A n n),
             eqv (.slice A 12 n),
             fun _ u x => ∃ A1 c1 xs1, u = .slice A1 15 c1 ∧ xs1.length = 15 ∧ 15 ≤ c1 ∧ Sl strE x A1 xs1,
             eqv (.bool true),
             eqv (.bool false),
             eqv (.bool false)]
            (KeepS.of_below (Below.refl _ y3).drew nL) ?_ ?_
           ·simp only [List.take_succ_cons, List.take_zero, HopL]
            repeat' apply And.intro
            ·refine fvr fun x hR kk rr _ => ?_
             have := rho0 rr 20;clear rr kk;exact ev ⟨rfl, KeepS.refl _ _, hR⟩
            ·refine fvr fun x hR kk rr _ => ?_
             have := rho rr 335 (kk.at 0);clear rr kk;exact ec (hc := HCT.out x hR.below) (hK := by (rintro e x' ⟨rfl, hb⟩; exact ⟨_, rfl, rfl, KeepS.of_below hb hR.below.size, hR.trans (KeepS.of_below hb hR.below.size)⟩))
            ·refine fvr fun x hR kk rr _ => ?_
             have := rho rr 336 (kk.at 1);clear rr kk;exact ev ⟨rfl, KeepS.refl _ _, hR⟩
            ·refine fvr fun x hR kk rr _ => ?_
             have := rho rr 337 (kk.at 2);clear rr kk;exact ev ⟨rfl, KeepS.refl _ _, hR⟩
            ·refine fvr fun x hR kk rr _ => ?_
             have := rho0 rr 21;clear rr;exact ev ⟨rfl, KeepS.refl _ _, hR⟩ (wat (kk.at 3))
            ·refine fvr fun x hR kk rr _ => ?_
             have := rho rr 339 (kk.at 4);clear rr;exact ec (hc := HQ.out.parses x T (HBW.out x hR.below)) (hw := (wat (kk.at 3))) (hK := by (rintro e x' ⟨rfl, hb⟩; exact ⟨_, rfl, rfl, KeepS.of_below hb hR.below.size, hR.trans (KeepS.of_below hb hR.below.size)⟩))
            ·refine fvr fun x hR kk rr _ => ?_
             have := rho rr 340 (kk.at 5);clear rr;exact ev ⟨rfl, KeepS.refl _ _, hR⟩ (wat (kk.at 3))
            ·refine fvr fun x hR kk rr _ => ?_
             have := rho rr 338 (kk.at 3);have := rho rr 341 (kk.at 6);clear rr kk;exact ev ⟨rfl, KeepS.refl _ _, hR⟩
            ·refine fvr fun x hR kk rr _ => ?_
             have := rho rr 342 (kk.at 7);clear rr kk;exact ev ⟨rfl, KeepS.refl _ _, hR⟩
            ·refine fvr fun x hR kk rr _ => ?_
             have := rho0 rr 21;clear rr;exact ev ⟨rfl, KeepS.refl _ _, hR⟩ (wat (kk.at 8))
            ·refine fvr fun x hR kk rr _ => ?_
             have := rho0 rr 21;clear rr;exact ev ⟨rfl, KeepS.refl _ _, hR⟩ (wat (kk.at 8))
            ·refine fvr fun x hR kk rr _ => ?_
             have := rho rr 345 (kk.at 10);clear rr;exact ev ⟨rfl, KeepS.refl _ _, hR⟩ (wat (kk.at 8))
            ·refine fvr fun x hR kk rr _ => ?_
             have := rho rr 346 (kk.at 11);clear rr;exact ev ⟨rfl, KeepS.refl _ _, hR⟩ (wat (kk.at 8))
            ·refine fvr fun x hR kk rr _ => ?_
             have := rho rr 344 (kk.at 9);have := rho rr 347 (kk.at 12);clear rr;exact ev ⟨rfl, KeepS.refl _ _, hR⟩ (wat (kk.at 8))
            ·refine fvr fun x hR kk rr _ => ?_
             have := rho rr 348 (kk.at 13);clear rr;exact ec (hc := HQ.out.parses x T3 (HBW.out x hR.below)) (hw := (wat (kk.at 8))) (hK := by (rintro e x' ⟨rfl, hb⟩; exact ⟨_, rfl, rfl, KeepS.of_below hb hR.below.size, hR.trans (KeepS.of_below hb hR.below.size)⟩))
            ·refine fvr fun x hR kk rr _ => ?_
             have := rho rr 349 (kk.at 14);clear rr;exact ev ⟨rfl, KeepS.refl _ _, hR⟩ (wat (kk.at 8))
            ·refine fvr fun x hR kk rr _ => ?_
             have := rho rr 343 (kk.at 8);have := rho rr 350 (kk.at 15);clear rr kk;exact ev ⟨rfl, KeepS.refl _ _, hR⟩
            ·refine fvr fun x hR kk rr _ => ?_
             have := rho rr 351 (kk.at 16);clear rr kk;exact ev ⟨rfl, KeepS.refl _ _, hR⟩
            ·refine fvr fun x hR kk rr _ => ?_
             have := rho0 rr 20;clear rr;exact ev ⟨rfl, KeepS.refl _ _, hR⟩ (wat (kk.at 17))
            ·refine fvr (hs := fun _ _ _ _ h hS => (by obtain ⟨A19, xs19, e0, l19, s19⟩ := h; obtain ⟨ys, l, h⟩ := hS.strs _ _ s19; exact ⟨A19, ys, e0, l.trans l19, h⟩)) fun x hR kk rr _ => ?_
             clear rr;refine stepE_call (wat (kk.at 17)) (by go_simp) (three_spec x) ?_;rintro e x' ⟨A1, rfl, hs, hb⟩;exact ⟨_, rfl, ⟨A1, three, rfl, rfl, hs⟩, KeepS.of_below hb hR.below.size, hR.trans (KeepS.of_below hb hR.below.size)⟩
            ·refine fvr (hs := fun _ _ _ _ h hS => (by obtain ⟨A20, xs20, e0, l20, s20⟩ := h; obtain ⟨ys, l, h⟩ := hS.strs _ _ s20; exact ⟨A20, ys, e0, l.trans l20, h⟩)) fun x hR kk rr _ => ?_
             clear rr;exact stepE_new (u := .slice (some ⟨x.heap.size, 0, none⟩) 2 2) (w' := x.alloc (.cells #[.string ⟨#[121]⟩, .string ⟨#[122]⟩] 9)) (wat (kk.at 17)) (by go_simp) ⟨⟨_, [⟨#[121]⟩, ⟨#[122]⟩], rfl, rfl, Sl.fresh strE x 9 _ [⟨#[121]⟩, ⟨#[122]⟩] rfl (by decide)⟩, KeepS.of_below (rB.alloc nL _) hR.below.size, hR.trans (KeepS.of_below (rB.alloc nL _) hR.below.size)⟩
            ·refine fvr (hs := fun _ _ _ _ h hS => (by obtain ⟨A21, xs21, e0, l21, s21⟩ := h; obtain ⟨ys, l, h⟩ := hS.strs _ _ s21; exact ⟨A21, ys, e0, l.trans l21, h⟩)) fun x hR kk rr _ => ?_
             obtain ⟨A20, xs20, h20, l20, s20⟩ := kk.at 20;have e355 := rho rr 355 h20;clear rr;exact stepE_val (u := .agg #[iv 0, .slice none 0 0, .slice A20 2 2]) (wat (kk.at 17)) (by go_simp) ⟨⟨A20, xs20, rfl, l20, s20⟩, KeepS.refl _ _, hR⟩
            ·refine fvr (hs := fun _ _ _ _ h hS => (by obtain ⟨g22, A22, xs22, e0, b22, l22, s22⟩ := h; obtain ⟨ys, l, h⟩ := hS.strs _ _ s22; exact ⟨g22, A22, ys, e0, hS.other _ _ _ (by decide) b22, l.trans l22, h⟩)) fun x hR kk rr _ => ?_
             obtain ⟨A21, xs21, h21, l21, s21⟩ := kk.at 21;have e356 := rho rr 356 h21;clear rr;exact stepE_new (u := .slice (some ⟨x.heap.size, 0, none⟩) 1 1) (w' := x.alloc (.cells #[iv 0, .slice none 0 0, .slice A21 2 2] 36)) (wat (kk.at 17)) (by go_simp) ⟨⟨_, A21, xs21, rfl, Blk.new _ _ _, l21, s21.alloc _⟩, KeepS.of_below (rB.alloc nL _) hR.below.size, hR.trans (KeepS.of_below (rB.alloc nL _) hR.below.size)⟩
            ·refine fvr fun x hR kk rr _ => ?_
             have := rho rr 353 (kk.at 18);obtain ⟨A19, xs19, h19, l19, s19⟩ := kk.at 19;have := rho rr 354 h19;obtain ⟨g22, A22, xs22, h22, b22, l22, s22⟩ := kk.at 22;have := rho rr 357 h22;clear rr;exact ec (hc := HQ.out.ch1 (HBW.out x hR.below) HLL.out nL (HSL.out x hR.below) l19 nL s19 b22 l22 nL s22) (hw := (wat (kk.at 17))) (hK := by (rintro e x' ⟨rfl, hb⟩; exact ⟨_, rfl, rfl, KeepS.of_below hb hR.below.size, hR.trans (KeepS.of_below hb hR.below.size)⟩))
            ·refine fvr fun x hR kk rr _ => ?_
             have := rho rr 358 (kk.at 23);clear rr;exact ev ⟨rfl, KeepS.refl _ _, hR⟩ (wat (kk.at 17))
            ·refine fvr fun x hR kk rr _ => ?_
             have := rho rr 352 (kk.at 17);have := rho rr 359 (kk.at 24);clear rr kk;exact ev ⟨rfl, KeepS.refl _ _, hR⟩
            ·refine fvr fun x hR kk rr _ => ?_
             have := rho rr 360 (kk.at 25);clear rr kk;exact ev ⟨rfl, KeepS.refl _ _, hR⟩
            ·refine fvr fun x hR kk rr _ => ?_
             have := rho0 rr 20;clear rr;exact ev ⟨rfl, KeepS.refl _ _, hR⟩ (wat (kk.at 26))
            ·refine fvr fun x hR kk rr _ => ?_
             have := rho rr 362 (kk.at 27);clear rr;exact ev ⟨rfl, KeepS.refl _ _, hR⟩ (wat (kk.at 26))
            ·refine fvr (hs := fun _ _ _ _ h hS => (by obtain ⟨g29, e0, b29⟩ := h; exact ⟨g29, e0, hS.other _ _ _ (by decide) b29⟩)) fun x hR kk rr _ => ?_
             have e363 := rho rr 363 (kk.at 28);clear rr;exact stepE_new (u := .slice (some ⟨x.heap.size, 0, none⟩) 1 1) (w' := x.alloc (.cells #[iv 0, .slice none 0 0, .slice A n n] 36)) (wat (kk.at 26)) (by go_simp) ⟨⟨_, rfl, Blk.new _ _ _⟩, KeepS.of_below (rB.alloc nL _) hR.below.size, hR.trans (KeepS.of_below (rB.alloc nL _) hR.below.size)⟩
            ·refine fvr fun x hR kk rr _ => ?_
             obtain ⟨g29, h29, b29⟩ := kk.at 29;have := rho rr 364 h29;clear rr;exact ec (hc := HQ.out.ch1 (HBW.out x hR.below) (A := none) (a := []) rfl nL Sl.nil (A' := none) (b := []) rfl nL Sl.nil b29 HLL.out nL (HSL.out x hR.below)) (hw := (wat (kk.at 26))) (hK := by (rintro e x' ⟨rfl, hb⟩; exact ⟨_, rfl, rfl, KeepS.of_below hb hR.below.size, hR.trans (KeepS.of_below hb hR.below.size)⟩))
            ·refine fvr fun x hR kk rr _ => ?_
             have := rho rr 365 (kk.at 30);clear rr;exact ev ⟨rfl, KeepS.refl _ _, hR⟩ (wat (kk.at 26))
            ·refine fvr fun x hR kk rr _ => ?_
             have := rho rr 361 (kk.at 26);have := rho rr 366 (kk.at 31);clear rr kk;exact ev ⟨rfl, KeepS.refl _ _, hR⟩
            ·refine fvr fun x hR kk rr _ => ?_
             have := rho rr 367 (kk.at 32);clear rr kk;exact ev ⟨rfl, KeepS.refl _ _, hR⟩
            ·refine fvr fun x hR kk rr _ => ?_
             have := rho0 rr 20;clear rr;exact ev ⟨rfl, KeepS.refl _ _, hR⟩ (wat (kk.at 33))
            ·refine fvr fun x hR kk rr _ => ?_
             have := rho0 rr 19;clear rr;exact ev ⟨rfl, KeepS.refl _ _, hR⟩ (wat (kk.at 33))
            ·refine fvr fun x hR kk rr _ => ?_
             have := rho rr 370 (kk.at 35);clear rr;exact ev ⟨rfl, KeepS.refl _ _, hR⟩ (wat (kk.at 33))
            ·refine fvr fun x hR kk rr _ => ?_
             have := rho rr 369 (kk.at 34);have := rho rr 371 (kk.at 36);clear rr;exact ev ⟨rfl, KeepS.refl _ _, hR⟩ (wat (kk.at 33))
            ·refine fvr (hs := fun _ _ _ _ h hS => (by obtain ⟨g38, s38, e0, t38⟩ := h; obtain ⟨ys, l, h⟩ := hS.strs _ _ t38; obtain ⟨s', rfl⟩ := List.length_eq_one_iff.1 l; exact ⟨g38, s', e0, h⟩)) fun x hR kk rr _ => ?_
             clear rr;exact stepE_new (u := .slice (some ⟨x.heap.size, 0, none⟩) 1 1) (w' := x.alloc (.cells #[.string ⟨#[121]⟩] 9)) (wat (kk.at 33)) (by go_simp) ⟨⟨_, ⟨#[121]⟩, rfl, Sl.fresh strE x 9 _ [⟨#[121]⟩] rfl (by decide)⟩, KeepS.of_below (rB.alloc nL _) hR.below.size, hR.trans (KeepS.of_below (rB.alloc nL _) hR.below.size)⟩
            ·refine fvr (hs := fun _ _ _ _ h hS => (by obtain ⟨A39, xs39, e0, l39, s39⟩ := h; obtain ⟨ys, l, h⟩ := hS.strs _ _ s39; exact ⟨A39, ys, e0, l.trans l39, h⟩)) fun x hR kk rr _ => ?_
             obtain ⟨g38, s38, h38, t38⟩ := kk.at 38;have e373 := rho rr 373 h38;clear rr;obtain ⟨hg38, hc38⟩ := sl_head t38;have HR12 : Calls Tryz.prog 17 #[.slice (some ⟨g38, 0, none⟩) 1 1, .int .i64 12] x _ := repeatS_at s38 12 x (by decide) (by decide) g38 hg38 hc38;refine stepE_call (wat (kk.at 33)) (by go_simp) HR12 ?_;rintro e x' ⟨A1, rfl, ho, hb⟩;exact ⟨_, rfl, ⟨A1, _, rfl, List.length_replicate, ho.sl⟩, KeepS.of_below hb hR.below.size, hR.trans (KeepS.of_below hb hR.below.size)⟩
            ·refine fvr fun x hR kk rr _ => ?_
             have := rho0 rr 20;clear rr;exact ev ⟨rfl, KeepS.refl _ _, hR⟩ (wat (kk.at 33))
            ·refine fvr (hs := fun _ _ _ _ h hS => (by obtain ⟨g41, e0, b41⟩ := h; exact ⟨g41, e0, hS.other _ _ _ (by decide) b41⟩)) fun x hR kk rr _ => ?_
             have e375 := rho rr 375 (kk.at 40);clear rr;exact stepE_new (u := .slice (some ⟨x.heap.size, 0, none⟩) 1 1) (w' := x.alloc (.cells #[.slice A n n] 23)) (wat (kk.at 33)) (by go_simp) ⟨⟨_, rfl, Blk.new _ _ _⟩, KeepS.of_below (rB.alloc nL _) hR.below.size, hR.trans (KeepS.of_below (rB.alloc nL _) hR.below.size)⟩
            ·refine fvr fun x hR kk rr _ => ?_
             have := rho rr 372 (kk.at 37);obtain ⟨A39, xs39, h39, l39, s39⟩ := kk.at 39;have := rho rr 374 h39;obtain ⟨g41, h41, b41⟩ := kk.at 41;have := rho rr 376 h41;clear rr;exact ec (hc := HQ.out.cp (HBW.out x hR.below) (A0 := none) (a0 := []) (c0 := 0) rfl nL Sl.nil (c1 := n) (HLT.out (n - 20) (by omega)) (by omega) (Sl.take (HSL.out x hR.below) (n - 20)) l39 nL s39 (rs := [⟨A, n, L⟩]) rfl nL (sl_blk b41 (by rw [← HLL.out]; rfl) (by simp [maxLen])) (fun r hr => by obtain rfl := List.mem_singleton.1 hr; exact ⟨HSL.out x hR.below, Nat.le_of_eq HLL.out⟩)) (hw := (wat (kk.at 33))) (hK := by (rintro e x' ⟨rfl, hb⟩; exact ⟨_, rfl, rfl, KeepS.of_below hb hR.below.size, hR.trans (KeepS.of_below hb hR.below.size)⟩))
            ·refine fvr fun x hR kk rr _ => ?_
             have := rho rr 377 (kk.at 42);clear rr;exact ev ⟨rfl, KeepS.refl _ _, hR⟩ (wat (kk.at 33))
            ·refine fvr fun x hR kk rr _ => ?_
             have := rho rr 368 (kk.at 33);have := rho rr 378 (kk.at 43);clear rr kk;exact ev ⟨rfl, KeepS.refl _ _, hR⟩
            ·refine fvr fun x hR kk rr _ => ?_
             have := rho rr 379 (kk.at 44);clear rr kk;exact ev ⟨rfl, KeepS.refl _ _, hR⟩
            ·refine fvr fun x hR kk rr _ => ?_
             have := rho0 rr 20;clear rr;exact ev ⟨rfl, KeepS.refl _ _, hR⟩ (wat (kk.at 45))
            ·refine fvr fun x hR kk rr _ => ?_
             have := rho rr 381 (kk.at 46);clear rr;exact ev ⟨rfl, KeepS.refl _ _, hR⟩ (wat (kk.at 45))
            ·refine fvr fun x hR kk rr _ => ?_
             have := rho0 rr 20;clear rr;exact ev ⟨rfl, KeepS.refl _ _, hR⟩ (wat (kk.at 45))
            ·refine fvr fun x hR kk rr _ => ?_
             have := rho rr 383 (kk.at 48);clear rr;exact ev ⟨rfl, KeepS.refl _ _, hR⟩ (wat (kk.at 45))
            ·refine fvr (hs := fun _ _ _ _ h hS => (by obtain ⟨A50, c50, xs50, e0, l50, o50⟩ := h; obtain ⟨ys, l, h⟩ := hS.own _ _ _ _ o50; exact ⟨A50, c50, ys, e0, l.trans l50, h⟩)) fun x hR kk rr _ => ?_
             have e384 := rho rr 384 (kk.at 49);clear rr;refine stepE_call (wat (kk.at 45)) (by go_simp) (HCL.out x hR.below) ?_;rintro e x' ⟨A1, c1, rfl, ho, hb⟩;exact ⟨_, rfl, ⟨A1, c1, _, rfl, HLT.out 12 (by omega), ho.base hR.below.size⟩, KeepS.of_below hb hR.below.size, hR.trans (KeepS.of_below hb hR.below.size)⟩
            ·refine fvr fun x hR kk rr _ => ?_
             have := rho0 rr 20;clear rr;exact ev ⟨rfl, KeepS.refl _ _, hR⟩ (wat (kk.at 45))
            ·refine fvr fun x hR kk rr _ => ?_
             have := rho0 rr 19;clear rr;exact ev ⟨rfl, KeepS.refl _ _, hR⟩ (wat (kk.at 45))
            ·refine fvr fun x hR kk rr _ => ?_
             have := rho rr 387 (kk.at 52);clear rr;exact ev ⟨rfl, KeepS.refl _ _, hR⟩ (wat (kk.at 45))
            ·refine fvr fun x hR kk rr _ => ?_
             have := rho rr 386 (kk.at 51);have := rho rr 388 (kk.at 53);clear rr;exact ev ⟨rfl, KeepS.refl _ _, hR⟩ (wat (kk.at 45))
            ·refine fvr (hs := fun _ _ _ _ h hS => (by obtain ⟨A55, c55, xs55, e0, l55, k55, s55⟩ := h; obtain ⟨ys, l, h⟩ := hS.strs _ _ s55; exact ⟨A55, c55, ys, e0, l.trans l55, k55, h⟩)) fun x hR kk rr _ => ?_
             obtain ⟨A50, c50, xs50, h50, l50, o50⟩ := kk.at 50;have e385 := rho rr 385 h50;have e389 := rho rr 389 (kk.at 54);clear rr;obtain ⟨A', c', x', hrun, e1, e2, e3⟩ := app_at o50 l50 hR.below.size (Sl.take (HSL.out x hR.below) (n - 16)) (HLT.out (n - 16) (by omega)) (by omega) n (by omega) 23 (show 12 + (n - 16) = n - 4 by omega);obtain ⟨xs5, e4, e5⟩ := e2;exact stepE_appRun (wat (kk.at 45)) _ _ (by rfl) _ _ (by first | exact e385 | rfl) (by first | exact e389 | rfl) hrun ⟨⟨A', c', xs5, rfl, e4, e1, e5⟩, e3, hR.trans e3⟩
            ·refine fvr (hs := fun _ _ _ _ h hS => (by obtain ⟨A56, c56, xs56, e0, l56, o56⟩ := h; obtain ⟨ys, l, h⟩ := hS.own _ _ _ _ o56; exact ⟨A56, c56, ys, e0, l.trans l56, h⟩)) fun x hR kk rr _ => ?_
             clear rr;refine stepE_call (wat (kk.at 45)) (by go_simp) (three_own x) ?_;rintro e x' ⟨A1, rfl, ho, hb⟩;exact ⟨_, rfl, ⟨A1, 3, three, rfl, rfl, ho.base hR.below.size⟩, KeepS.of_below hb hR.below.size, hR.trans (KeepS.of_below hb hR.below.size)⟩
            ·refine fvr fun x hR kk rr _ => ?_
             have := rho0 rr 20;clear rr;exact ev ⟨rfl, KeepS.refl _ _, hR⟩ (wat (kk.at 45))
            ·refine fvr fun x hR kk rr _ => ?_
             have := rho rr 392 (kk.at 57);clear rr;exact ev ⟨rfl, KeepS.refl _ _, hR⟩ (wat (kk.at 45))
            ·refine fvr (hs := fun _ _ _ _ h hS => (by obtain ⟨A59, c59, xs59, e0, l59, k59, s59⟩ := h; obtain ⟨ys, l, h⟩ := hS.strs _ _ s59; exact ⟨A59, c59, ys, e0, l.trans l59, k59, h⟩)) fun x hR kk rr _ => ?_
             obtain ⟨A56, c56, xs56, h56, l56, o56⟩ := kk.at 56;have e391 := rho rr 391 h56;have e393 := rho rr 393 (kk.at 58);clear rr;obtain ⟨A', c', x', hrun, e1, e2, e3⟩ := app_at o56 l56 hR.below.size (Sl.take (HSL.out x hR.below) 12) (HLT.out 12 (by omega)) (by decide) n (by decide) 23 (show 3 + 12 = 15 from rfl);obtain ⟨xs5, e4, e5⟩ := e2;exact stepE_appRun (wat (kk.at 45)) _ _ (by rfl) _ _ (by first | exact e391 | rfl) (by first | exact e393 | rfl) hrun ⟨⟨A', c', xs5, rfl, e4, e1, e5⟩, e3, hR.trans e3⟩
            ·refine fvr fun x hR kk rr _ => ?_
             have := rho rr 382 (kk.at 47);obtain ⟨A55, c55, xs55, h55, l55, k55, s55⟩ := kk.at 55;have := rho rr 390 h55;obtain ⟨A59, c59, xs59, h59, l59, k59, s59⟩ := kk.at 59;have := rho rr 394 h59;clear rr;exact ec (hc := HQ.out.cp (HBW.out x hR.below) (c0 := n) (HLT.out 12 (by omega)) (by omega) (Sl.take (HSL.out x hR.below) 12) l55 k55 s55 l59 k59 s59 (V := none) (rs := []) rfl nL Sl.nil (fun _ h => by cases h)) (hw := (wat (kk.at 45))) (hK := by (rintro e x' ⟨rfl, hb⟩; exact ⟨_, rfl, rfl, KeepS.of_below hb hR.below.size, hR.trans (KeepS.of_below hb hR.below.size)⟩))
            ·refine fvr fun x hR kk rr _ => ?_
             have := rho rr 395 (kk.at 60);clear rr;exact ev ⟨rfl, KeepS.refl _ _, hR⟩ (wat (kk.at 45))
            ·refine fvr fun x hR kk rr _ => ?_
             have := rho rr 380 (kk.at 45);have := rho rr 396 (kk.at 61);clear rr kk;exact ev ⟨rfl, KeepS.refl _ _, hR⟩
            ·trivial
           ·intro v nR y4 hnR hR hall;have h62 : v 62 = .bool false := hall 62 (by decide);clear hall;simp only [List.drop_succ_cons, List.drop_zero, List.take_succ_cons, List.take_zero, frameF, Act.put, List.setIfInBounds_toArray, List.set_cons_zero, List.set_cons_succ, Nat.zero_add, Nat.reduceAdd, h62];have hb4 := hbx.next (hb03.next hR.below nL) nL;have e1n : IntKind.i64.wrap ((n : Int) + 1) = ((n + 1 : Nat) : Int) := IntWalk.i64_in _ (by omega);(go_wp2_with fail);go_roundw
            case rel => exact ⟨n + 1, by omega, by omega, by go_num, hb4⟩
            case measure => simp [intOf]; omega
          ·as_aux_lemma =>
           have hni : ¬ (n : Int) < 28 := (by omega);have HBr := lH (HB2.out.next hbx nL);have HBW : Hid (∀ W, Below wr.heap.size wr W → Below w.heap.size w W) := lH fun W h => HBr.out.next h nL
           have hE := Sl.fresh edE wr 36 #[iv 0, .slice none 0 0, .slice none 0 0] [⟨0, none, 0, [], none, 0, []⟩] rfl (by simp [maxLen]);have h01 : Below wr.heap.size wr (wr.alloc (.cells #[iv 0, .slice none 0 0, .slice none 0 0] 36)) := rB.alloc nL _
           have Q1 := lH (HQ.out.changes _ none [] 0 none [] 0 (some ⟨wr.heap.size, 0, none⟩) [⟨0, none, 0, [], none, 0, []⟩] 1 (HBW.out _ h01) nL nL Sl.nil Sl.nil hE (fun r hr => by
            obtain rfl := List.mem_singleton.1 hr;exact ⟨Sl.nil, Sl.nil, Nat.le_refl _, Nat.le_refl _⟩))
           clear hE hbx;(go_wp2_with fail);refine Q1.out.mono ?_;rintro e x3 ⟨rfl, h13⟩;have h03 := h01.next h13 nL;clear Q1 h01 h13;(go_wp2_with fail);refine (three_spec _).mono ?_;rintro e x4 ⟨A3, rfl, hs3, h34⟩;have h04 := h03.next h34 nL;have Q2 := lH (HQ.out.changes x4 A3 three 3 none [] 0 none [] 0 (HBW.out _ h04) (by decide) nL hs3 Sl.nil Sl.nil (fun _ h => by cases h));clear hs3 h03 h34;(go_wp2_with fail);refine Q2.out.mono ?_;rintro e x5 ⟨rfl, h45⟩;have h05 := h04.next h45 nL;have Q3 := lH (HQ.out.copies x5 none [] 0 none [] 0 none [] 0 none [] 0 (HBW.out _ h05) nL nL nL nL Sl.nil Sl.nil Sl.nil Sl.nil (fun _ h => by cases h));clear Q2 h04 h45;(go_wp2_with fail);refine Q3.out.mono ?_;rintro e x6 ⟨rfl, h56⟩;have h06 := h05.next h56 nL;have HA6 := lH (awake_spec x6 (HT.out.below (HBW.out _ h06)))
           clear Q3 h05 h56;(go_wp2_with fail);refine HA6.out.mono ?_;rintro e x7 ⟨rfl, h67⟩;(go_wp2_with fail);go_ret;exact ⟨rfl, HBW.out _ (h06.next h67 nL)⟩
end Fl
end
section
namespace File
def atOk (x : Edit ByteArray) : Bool := inr x.at_
def szOk (x : Edit ByteArray) : Bool := decide (x.old.length ≤ 24) && (decide (x.new.length ≤ 24) && decide (0 < x.old.length + x.new.length))
def allLines (c : List (Edit ByteArray)) : List ByteArray := c.flatMap fun x => x.old ++ x.new
def ordered : List (Edit ByteArray) → Bool
 | x :: y :: r => !decide (y.at_ ≤ x.at_ + (x.old.length : Int)) && ordered (y :: r)
 | _ => true
def checkChange (c : List (Edit ByteArray)) : Int := if c.all atOk then (if c.all szOk then (if lined (allLines c) = 0 then (if ordered c then 0 else 4) else lined (allLines c)) else 2) else 3
end File
namespace Fl
open Go.RowKit
set_option maxRecDepth 100000 in
theorem indexEd (A : Option Addr) (l : List EdV) (c : Nat) (K : Nat) (cap : Array Value) (p : EdV → Bool) (w : World) (hm : l.length ≤ big) (hs : Sl edE w A l)
  (hf : IsPred Tryz.prog w K cap EdV.v l p) :
  Calls Tryz.prog 138 #[.slice A l.length c, .func (.func K) #[] cap] w
  fun e w' => e = .returned (iv (findFrom p l 0)) ∧ Below w.heap.size w w' := by
 unfold big at hm;obtain ⟨hK, hf⟩ := hf;have HF := lH hf;clear hf
 go_enter Tryz.func138, Tryz.ntmps138
 go_wp2
 go_loopw [5, 8] (fun u i wr => ∃ (k : Nat), k ≤ l.length ∧ i = iv k ∧ Hid (findFrom p (l.drop k) k = findFrom p l 0) ∧ Below w.heap.size w wr) (fun _ i _ => l.length - (intOf i).toNat)
 case atStart => exact ⟨0, by omega, rfl, rfl, rB⟩
 case round =>
  obtain ⟨k, hk, rfl, hr, hbw⟩ := hrel;have hs1 := hs.below hbw
  by_cases hlt : k < l.length
  ·obtain ⟨b, off, x, rfl, hb, hx, hc0, hc1, hc2⟩ := Sl.atEd hs1 hlt;have hd := hr.out;rw [drop_at hx] at hd;simp only [findFrom] at hd;have HD := lH hd;clear hd
   cases hp : p x
   ·(go_wp2_with fail);refine (HF.out x (mem_at hx) wr hbw).mono ?_;rintro e w1 ⟨rfl, hb1⟩;rw [hp];(go_wp2_with fail);go_roundw
    case rel => exact ⟨k + 1, by omega, by go_num, by have := HD.out; rw [hp] at this; exact this, hbw.next hb1 nL⟩
    case measure => simp [intOf]; omega
   ·(go_wp2_with fail);refine (HF.out x (mem_at hx) wr hbw).mono ?_;rintro e w1 ⟨rfl, hb1⟩;rw [hp];(go_wp2_with fail);go_ret;exact ⟨ret_eq (by have := HD.out; rw [hp] at this; rw [← this]; rfl), hbw.next hb1 nL⟩
  ·have hd := hr.out;rw [drop_end hlt] at hd;have HD := lH hd;clear hd
   go_wp2
   go_ret;exact ⟨ret_eq (by rw [← HD.out]; rfl), hbw⟩
theorem containsEd (A : Option Addr) (l : List EdV) (c : Nat) (K : Nat) (cap : Array Value) (p : EdV → Bool) (w : World) (hm : l.length ≤ big) (hs : Sl edE w A l)
  (hf : IsPred Tryz.prog w K cap EdV.v l p) :
  Calls Tryz.prog 103 #[.slice A l.length c, .func (.func K) #[] cap] w
  fun e w' => e = .returned (.bool (l.any p)) ∧ Below w.heap.size w w' := by
 have HF := lH hf;clear hf
 go_enter Tryz.func103, Tryz.ntmps103
 go_wp2_with (go_at_call 138; refine (indexEd A l c K cap p _ hm hs HF.out).mono ?_; rintro e w1 ⟨rfl, hb1⟩)
 go_ret;exact ⟨ret_eq (by rw [← findFrom_nonneg p l 0 (by omega)]; rfl), hb1⟩
set_option maxRecDepth 100000 in
theorem notEd (K : Nat) (cap : Array Value) (p : EdV → Bool) (w0 w : World) (x : EdV) (l : List EdV) (g : Nat) (hx : x ∈ l) (hg : g < w.heap.size) (hc : w.cell? ⟨g, 0, none⟩ = some (.func (.func K) #[] cap)) (hb : Below w0.heap.size w0 w) (hf : IsPred Tryz.prog w0 K cap EdV.v l p) :
  Calls Tryz.prog 139 #[EdV.v x, .pointer (some ⟨g, 0, none⟩)] w fun e w' => e = .returned (.bool (!p x)) ∧ Below w.heap.size w w' := by
 obtain ⟨hK, hf⟩ := hf;have HF := lH (fun w' (h : Below w.heap.size w w') => hf x hx w' (hb.next h nL));clear hf hx;obtain ⟨a, A1, c1, o1, A2, c2, n1⟩ := x; simp only [EdV.v] at HF ⊢
 go_enter Tryz.func139, Tryz.ntmps139
 (go_wp2_with fail);refine (HF.out _ (rB.alloc nL _)).mono ?_;rintro e w1 ⟨rfl, hb1⟩;(go_wp2_with fail);go_ret;exact ⟨rfl, hb1.of_alloc⟩
set_option maxRecDepth 100000 in
theorem everyEd (A : Option Addr) (l : List EdV) (c : Nat) (K : Nat) (cap : Array Value) (p : EdV → Bool) (w : World) (hm : l.length ≤ big) (hs : Sl edE w A l)
  (hf : IsPred Tryz.prog w K cap EdV.v l p) :
  Calls Tryz.prog 107 #[.slice A l.length c, .func (.func K) #[] cap] w
  fun e w' => e = .returned (.bool (l.all p)) ∧ Below w.heap.size w w' := by
 have HF := lH hf;clear hf;have hsf := fun (a : Addr) (c : Array Value) (w : World) => run_store Tryz.prog w a (.func (.func K) #[] c) .plain rfl
 have hmf : ∀ (fn : Fn) (first cap : Array Value) (w : World), (Instr.makeFunc fn first cap).run Tryz.prog w = .ok (.func fn first cap) w := fun _ _ _ _ => rfl
 go_enter Tryz.func107, Tryz.ntmps107
 go_wp2_with (go_at_call 103; refine (containsEd A l c 139 #[.pointer (some ⟨w.heap.size, 0, none⟩)] (fun x => !p x) _ hm (hs.alloc _) ⟨callFunc_run (by kernel_rfl), fun x hx w' hw' => notEd K cap p w w' x l w.heap.size hx (by have := hw'.size; simp at this; omega) ((hw'.cell (by simp)).trans (by simp [go_sem])) hw'.of_alloc HF.out⟩).mono ?_; rintro e w1 ⟨rfl, hb1⟩)
 go_ret;exact ⟨ret_eq (by rw [List.not_any_eq_all_not]; simp), hb1.of_alloc⟩
theorem cc1_spec (x : EdV) (w : World) : Calls Tryz.prog 108 #[x.v] w fun e w' => e = .returned (.bool (File.atOk x.ed)) ∧ Below w.heap.size w w' := by
 obtain ⟨a, A1, c1, o1, A2, c2, n1⟩ := x;have HI := lH (in_spec a);unfold EdV.v
 go_enter Tryz.func108, Tryz.ntmps108
 go_wp2_with (go_at_call 99; refine (HI.out _).mono ?_; rintro e w1 ⟨rfl, rfl⟩)
 go_ret;exact ⟨rfl, rB.alloc nL _⟩
theorem cc2_spec (x : EdV) (w : World) (h1 : x.old.length ≤ big) (h2 : x.new.length ≤ big) : Calls Tryz.prog 109 #[x.v] w fun e w' => e = .returned (.bool (File.szOk x.ed)) ∧ Below w.heap.size w w' := by
 obtain ⟨a, A1, c1, o1, A2, c2, n1⟩ := x;have hz : File.szOk (EdV.ed ⟨a, A1, c1, o1, A2, c2, n1⟩) = (decide (o1.length ≤ 24) && (decide (n1.length ≤ 24) && decide (0 < o1.length + n1.length))) := rfl;rw [hz];clear hz;unfold EdV.v;simp only at h1 h2 ⊢;unfold big at h1 h2
 by_cases k1 : o1.length ≤ 24
 ·have i1 : (o1.length : Int) ≤ 24 := (by omega)
  by_cases k2 : n1.length ≤ 24
  ·have i2 : (n1.length : Int) ≤ 24 := (by omega);have hd : decide (0 < o1.length + n1.length) = decide ((0 : Int) < (o1.length : Int) + (n1.length : Int)) := by rw [decide_eq_decide]; omega
   rw [decide_eq_true k1, decide_eq_true k2, hd];clear hd
   go_enter Tryz.func109, Tryz.ntmps109
   (go_wp2_with fail);go_ret;exact ⟨by simp, rB.alloc nL _⟩
  ·have i2 : ¬ (n1.length : Int) ≤ 24 := (by omega);rw [decide_eq_true k1, decide_eq_false k2]
   go_enter Tryz.func109, Tryz.ntmps109
   (go_wp2_with fail);go_ret;exact ⟨rfl, rB.alloc nL _⟩
 ·have i1 : ¬ (o1.length : Int) ≤ 24 := (by omega);rw [decide_eq_false k1]
  go_enter Tryz.func109, Tryz.ntmps109
  (go_wp2_with fail);go_ret;exact ⟨rfl, rB.alloc nL _⟩
theorem any_ed (vs : List EdV) (p : File.Edit ByteArray → Bool) : (vs.all fun r => p r.ed) = (vs.map EdV.ed).all p := by rw [List.all_map]; rfl
set_option maxHeartbeats 8000000 in
theorem cc_spec (A : Option Addr) (vs : List EdV) (c : Nat) (w : World) (hm : vs.length ≤ 1000) (hs : Sl edE w A vs) (hok : ∀ r ∈ vs, EdOk w r) (hb1 : ∀ r ∈ vs, r.old.length ≤ big ∧ r.new.length ≤ big) :
  Calls Tryz.prog 58 #[.slice A vs.length c] w fun e w' => e = .returned (iv (File.checkChange (vs.map EdV.ed))) ∧ Below w.heap.size w w' := by
 have hbig : vs.length ≤ big := by unfold big; omega
 have HE1 := lH (everyEd A vs c 108 #[] (fun r => File.atOk r.ed) w hbig hs ⟨callFunc_run (by kernel_rfl), fun x hx w' hw' => cc1_spec x w'⟩);have HE2 := lH (fun W (h : Below w.heap.size w W) => everyEd A vs c 109 #[] (fun r => File.szOk r.ed) W hbig (hs.below h) ⟨callFunc_run (by kernel_rfl), fun x hx w' hw' => cc2_spec x w' (hb1 x hx).1 (hb1 x hx).2⟩);rw [any_ed] at HE1;simp only [any_ed] at HE2;obtain ⟨ans, hans⟩ : ∃ ans, ans = File.checkChange (vs.map EdV.ed) := ⟨_, rfl⟩;rw [← hans];unfold File.checkChange at hans
 cases ha1 : (vs.map EdV.ed).all File.atOk
 ·rw [ha1] at HE1;have HA : Hid (ans = 3) := lH (by rw [hans, ha1]; rfl);clear hans ha1
  go_enter Tryz.func58, Tryz.ntmps58
  (go_wp2_with fail);refine HE1.out.mono ?_;rintro _ w1 ⟨rfl, hb⟩;(go_wp2_with fail);go_ret;exact ⟨ret_eq (by rw [HA.out]; rfl), hb⟩
 ·rw [ha1] at HE1
  cases ha2 : (vs.map EdV.ed).all File.szOk
  ·simp only [ha2] at HE2;have HA : Hid (ans = 2) := lH (by rw [hans, ha1, ha2]; rfl);clear hans ha1 ha2
   go_enter Tryz.func58, Tryz.ntmps58
   (go_wp2_with fail);refine HE1.out.mono ?_;rintro _ w1 ⟨rfl, hb⟩;(go_wp2_with fail);refine (HE2.out w1 hb).mono ?_;rintro _ w2 ⟨rfl, hb2⟩;(go_wp2_with fail);go_ret;exact ⟨ret_eq (by rw [HA.out]; rfl), hb.next hb2 nL⟩
  ·simp only [ha2] at HE2
   have HSZ : Hid (∀ r ∈ vs, 0 ≤ r.at_ ∧ r.at_ ≤ 24 ∧ r.old.length ≤ 24 ∧ r.new.length ≤ 24) := lH fun r hr => by
    have h1 := List.all_eq_true.1 ha1 r.ed (List.mem_map_of_mem hr);have h2 := List.all_eq_true.1 ha2 r.ed (List.mem_map_of_mem hr);have k1 : (decide (0 ≤ r.at_) && decide (r.at_ ≤ 24)) = true := h1;have k2 : (decide (r.old.length ≤ 24) && (decide (r.new.length ≤ 24) && decide (0 < r.old.length + r.new.length))) = true := h2;rw [Bool.and_eq_true, decide_eq_true_eq, decide_eq_true_eq] at k1;rw [Bool.and_eq_true, Bool.and_eq_true, decide_eq_true_eq, decide_eq_true_eq] at k2;exact ⟨k1.1, k1.2, k2.1, k2.2.1⟩
   have HA : Hid (ans = if File.lined (File.allLines (vs.map EdV.ed)) = 0 then (if File.ordered (vs.map EdV.ed) then 0 else 4) else File.lined (File.allLines (vs.map EdV.ed))) := lH (by rw [hans, ha1, ha2]; rfl);have HOK := lH hok;clear hans ha1 ha2 hok hb1
   go_enter Tryz.func58, Tryz.ntmps58
   (go_wp2_with fail);refine HE1.out.mono ?_;rintro _ w1 ⟨rfl, hb⟩;(go_wp2_with fail);refine (HE2.out w1 hb).mono ?_;rintro _ w2 ⟨rfl, hb2⟩;have hb02 := hb.next hb2 nL;clear HE1 HE2 hb hb2;(go_wp2_with fail)
   go_loopw [3, 5, 18] (fun v _ i wr => ∃ (k : Nat) (acc : List ByteArray), k ≤ vs.length ∧ i = iv k ∧ Hid (Own strE 9 w2.heap.size wr v acc) ∧ Hid (acc ++ File.allLines ((vs.map EdV.ed).drop k) = File.allLines (vs.map EdV.ed)) ∧ acc.length ≤ k * 48 ∧ Below w2.heap.size w2 wr) (fun _ _ i _ => vs.length - (intOf i).toNat)
   case atStart => exact ⟨0, [], by omega, rfl, Own.nil, rfl, by simp, rB⟩
   case round =>
    obtain ⟨k, acc, hk, rfl, HO, HL, hal, hbr⟩ := hrel
    by_cases hlt : k < vs.length
    ·have hki : (k : Int) < (vs.length : Int) := (by omega);have hb0r := hb02.next hbr nL;obtain ⟨b, off, x, rfl, hb0, hx, hc0, hc1, hc2⟩ := Sl.atEd (hs.below hb0r) hlt;have hxok := (HOK.out x (mem_at hx)).below hb0r;have HXO0 : Hid (∀ z : World, Below w2.heap.size w2 z → Sl strE z x.A x.old) := lH fun z h => ((HOK.out x (mem_at hx)).below (hb02.next h nL)).old
     have HXN0 : Hid (∀ z : World, Below w2.heap.size w2 z → Sl strE z x.A' x.new) := lH fun z h => ((HOK.out x (mem_at hx)).below (hb02.next h nL)).new
     have hxs := HSZ.out x (mem_at hx);have hL := HL.out;rw [show (vs.map EdV.ed).drop k = x.ed :: (vs.map EdV.ed).drop (k + 1) from drop_at (by rw [List.getElem?_map, hx]; rfl)] at hL
     have HLN : Hid ((acc ++ x.old ++ x.new) ++ File.allLines ((vs.map EdV.ed).drop (k + 1)) = File.allLines (vs.map EdV.ed)) := lH (by
      rw [← hL]; simp [File.allLines, EdV.ed])
     obtain ⟨xa, xA, xc, xo, xA', xc', xn⟩ := x;simp only at hc0 hc1 hc2 hxs HLN HXO0 HXN0;have hbM : Below wr.heap.size wr (wr.alloc (.cells #[iv xa, .slice xA xo.length xc, .slice xA' xn.length xc'] 36)) := rB.alloc nL _;have hM : Blk (wr.alloc (.cells #[iv xa, .slice xA xo.length xc, .slice xA' xn.length xc'] 36)) wr.heap.size 36 #[iv xa, .slice xA xo.length xc, .slice xA' xn.length xc'] := Blk.new _ _ _;obtain ⟨Ax, cx, rfl, _, _⟩ := HO.out.form
     go_upto_region 9 with fail
     generalize wr.alloc (.cells #[iv xa, .slice xA xo.length xc, .slice xA' xn.length xc'] 36) = w4 at *;have l1 := hM.lt;have HO4 := lH ((HO.out.below hbM).below (Below.refl w4.heap.size w4).drew);have HNEB : Hid ((Value.slice Ax acc.length cx).ownBlock ≠ some wr.heap.size) := lH fun e => Nat.lt_irrefl _ (HO.out.lt _ e).2
     have HS0 : Hid (∀ z : World, Below w2.heap.size w4 z ∧ z.heap[wr.heap.size]? = w4.heap[wr.heap.size]? → Below w2.heap.size w4 z ∧ (z.cell? ⟨wr.heap.size, 0, none⟩ = some (iv xa) ∧ z.cell? ⟨wr.heap.size, 1, none⟩ = some (.slice xA xo.length xc) ∧ z.cell? ⟨wr.heap.size, 2, none⟩ = some (.slice xA' xn.length xc'))) := lH fun z h => by
      have hz : Blk z wr.heap.size 36 #[iv xa, .slice xA xo.length xc, .slice xA' xn.length xc'] := h.2.trans hM;exact ⟨h.1, hz.cell 0, hz.cell 1, hz.cell 2⟩
     have HK0 := lH (HS0.out w4.drew ⟨rB.drew, rfl⟩);have HX0 : Hid (Below w2.heap.size w4 w4.drew ∧ w4.drew.heap[wr.heap.size]? = w4.heap[wr.heap.size]?) := lH ⟨rB.drew, rfl⟩;have hb24 : Below w2.heap.size w2 w4 := hbr.trans (hbM.mono hbr.size);have HOL : Hid (∀ z : World, Below w2.heap.size w4 z → Sl strE z xA xo) := lH fun z h => HXO0.out z (hb24.trans h)
     have HNE : Hid (∀ z : World, Below w2.heap.size w4 z → Sl strE z xA' xn) := lH fun z h => HXN0.out z (hb24.trans h)
     have HZ4 := lH hb24.size;have HB24 := lH hb24;have HBG : Hid (acc.length + xo.length ≤ big) := lH (by unfold big; omega);have HBG2 : Hid ((acc ++ xo).length + xn.length ≤ big) := lH (by rw [List.length_append]; unfold big; omega);have HBM : Hid (∀ z : World, Hid (Below w2.heap.size w4 z ∧ z.heap[wr.heap.size]? = w4.heap[wr.heap.size]?) → Blk z wr.heap.size 36 #[iv xa, .slice xA xo.length xc, .slice xA' xn.length xc']) := lH fun z h => h.out.2.trans hM
     have HZX : Hid (∀ z : World, Hid (Below w2.heap.size w4 z ∧ z.heap[wr.heap.size]? = w4.heap[wr.heap.size]?) → w4.heap.size ≤ z.heap.size) := lH fun z h => h.out.1.size
     clear hM HO hbM hb24 hb0r hxok hbr
     go_region_held3 (fun z => Below w2.heap.size w4 z ∧ (z.cell? ⟨wr.heap.size, 0, none⟩ = some (iv xa) ∧ z.cell? ⟨wr.heap.size, 1, none⟩ = some (.slice xA xo.length xc) ∧ z.cell? ⟨wr.heap.size, 2, none⟩ = some (.slice xA' xn.length xc')))
      (first | with_reducible assumption | exact HK0.out | exact HS0.out _ HX2.out | exact HS0.out _ HX1.out)
      (first
       | (refine stepAppA strE tyStrs (by rfl) _ _ (by rfl) HO4.out (HOL.out _ HX0.out.1) rfl (by rfl) (by rfl) HZ4.out HBG.out ?_; intro v1 x1 ho1 hbx1 hkx1; have HX1 : Hid (Below w2.heap.size w4 x1 ∧ x1.heap[wr.heap.size]? = w4.heap[wr.heap.size]?) := lH ⟨HX0.out.1.trans hbx1, hkx1 _ l1 HNEB.out⟩; have HO1 := lH ho1; have HZ1 := lH (Nat.le_trans HZ4.out HX1.out.1.size); clear ho1 hbx1 hkx1)
       | (refine stepAppA strE tyStrs (by rfl) _ _ (by rfl) HO1.out (HNE.out _ HX1.out.1) rfl (by rfl) (by rfl) HZ1.out HBG2.out ?_; intro v2 x2 ho2 hbx2 hkx2; have HX2 : Hid (Below w2.heap.size w4 x2 ∧ x2.heap[wr.heap.size]? = w4.heap[wr.heap.size]?) := lH ⟨HX1.out.1.trans hbx2, (hkx2 _ (Nat.lt_of_lt_of_le l1 (HZX.out _ HX1)) (ownNeBlk HO1.out (HBM.out _ HX1) (by decide))).trans HX1.out.2⟩; have HO2 := lH ho2; clear ho2 hbx2 hkx2))
     all_goals
      (go_wp2_with fail);go_roundw
      case rel => exact ⟨k + 1, acc ++ xo ++ xn, by omega, by go_num, HO2, HLN, by simp only [List.length_append]; omega, HB24.out.trans HX2.out.1⟩
      case measure => simp [intOf]; omega
    ·have hki : ¬ (k : Int) < (vs.length : Int) := (by omega);have hL := HL.out;rw [show (vs.map EdV.ed).drop k = [] from List.drop_eq_nil_of_le (by rw [List.length_map]; omega)] at hL
     simp only [File.allLines, List.flatMap_nil, List.append_nil] at hL;obtain ⟨Ax, cx, rfl, _, _⟩ := HO.out.form;have hacc : acc.length ≤ big := by unfold big; omega
     have HLD := lH (lined_spec Ax acc cx wr hacc HO.out.sl);have hall : acc = File.allLines (vs.map EdV.ed) := hL;rw [← hall] at HA;have hb0r := hb02.next hbr nL;clear HL hL HO hall hbr hal hacc
     by_cases hz : File.lined acc = 0
     ·rw [if_pos hz] at HA;rw [hz] at HLD;clear hz;(go_wp2_with fail);refine HLD.out.mono ?_;rintro _ w5 ⟨rfl, hb5⟩;have hb05 := hb0r.next hb5 nL;clear HLD hb5 hb0r;(go_wp2_with fail)
      go_loopw [7] (fun i wr => ∃ q : Nat, i = iv ((q : Int) + 1) ∧ (q = 0 ∨ q < vs.length) ∧ Hid (File.ordered ((vs.map EdV.ed).drop q) = File.ordered (vs.map EdV.ed)) ∧ Below w5.heap.size w5 wr) (fun i _ => vs.length + 1 - (intOf i).toNat)
      case atStart => exact ⟨0, rfl, .inl rfl, rfl, rB⟩
      case round =>
       obtain ⟨q, rfl, hq, HOR, hbr⟩ := hrel;have hb0r := hb05.next hbr nL
       by_cases hlt : q + 1 < vs.length
       ·obtain ⟨k, hk⟩ : ∃ k, k = q + 1 := ⟨_, rfl⟩;have hkq : (q : Int) + 1 = (k : Int) := (by omega);rw [← hk] at hlt;have hki : (k : Int) < (vs.length : Int) := (by omega);obtain ⟨b, off, y, rfl, hb0, hy, hc0, _, _⟩ := Sl.atEd (hs.below hb0r) hlt;obtain ⟨b', off', x0, hA', _, hx, hd0, hd1, _⟩ := Sl.atEd (hs.below hb0r) (show q < vs.length by omega);injection hA' with hA';injection hA' with e1 e2 _;subst e1; subst e2;have hxs := HSZ.out x0 (mem_at hx);have hys := HSZ.out y (mem_at hy);have hd := HOR.out;rw [show (vs.map EdV.ed).drop q = x0.ed :: (vs.map EdV.ed).drop (q + 1) from drop_at (by rw [List.getElem?_map, hx]; rfl), show (vs.map EdV.ed).drop (q + 1) = y.ed :: (vs.map EdV.ed).drop (k + 1) from by rw [← hk]; exact drop_at (by rw [List.getElem?_map, hy]; rfl), File.ordered] at hd
        have HXC : Hid (∀ x, Below wr.heap.size wr x → x.cell? ⟨b, off + q * 3, none⟩ = some (iv x0.at_) ∧ x.cell? ⟨b, off + q * 3 + 1, none⟩ = some (.slice x0.A x0.old.length x0.c)) := lH fun x h => ⟨(h.cell (p := ⟨b, off + q * 3, none⟩) hb0).trans hd0, (h.cell (p := ⟨b, off + q * 3 + 1, none⟩) hb0).trans hd1⟩
        have HYC : Hid (∀ x, Below wr.heap.size wr x → x.cell? ⟨b, off + k * 3, none⟩ = some (iv y.at_)) := lH fun x h => (h.cell (p := ⟨b, off + k * 3, none⟩) hb0).trans hc0
        obtain ⟨nb, hnb⟩ : ∃ nb, nb = decide (y.at_ ≤ x0.at_ + (x0.old.length : Int)) := ⟨_, rfl⟩;have hnb' : decide (y.at_ ≤ x0.at_ + (x0.old.length : Int)) = nb := hnb.symm;have HD : Hid ((!nb && File.ordered (y.ed :: (vs.map EdV.ed).drop (k + 1))) = File.ordered (vs.map EdV.ed)) := lH (by rw [hnb]; exact hd);have HKD : Hid ((vs.map EdV.ed).drop k = y.ed :: (vs.map EdV.ed).drop (k + 1)) := lH (drop_at (by rw [List.getElem?_map, hy]; rfl));have eq1 : IntKind.i64.wrap ((k : Int) - 1) = (q : Int) := by rw [show (k : Int) - 1 = (q : Int) by omega]; exact IntWalk.i64_in _ (by omega)
        have eq2 : (k : Int) - 1 = (q : Int) := (by omega);have eq3 : IntKind.i64.wrap (q : Int) = (q : Int) := IntWalk.i64_in _ (by omega);have eq4 : IntKind.i64.wrap (x0.at_ + (x0.old.length : Int)) = x0.at_ + (x0.old.length : Int) := IntWalk.i64_in _ (by omega);have hqi : (q : Int) < (vs.length : Int) := (by omega);have hql : q < vs.length := (by omega);have HKQ := lH hk;rw [hkq];clear hd hc0 hd0 hd1 hx hy hk hkq HOR hq hnb HSZ HOK;(go_wp2_with fail)
        refine wp_free_lit (by kernel_rfl) 20 (by kernel_rfl) (by kernel_rfl) (by decide) (fun _ x => Below wr.heap.size wr x) (fun x x' => Below x.heap.size x x')
         [fun _ u _ => u = .slice (some ⟨b, off, none⟩) vs.length c,
          fun _ u _ => u = iv (k : Int),
          fun _ u _ => u = .pointer (some ⟨b, off + k * 3, none⟩),
          fun _ u _ => u = .pointer (some ⟨b, off + k * 3, none⟩),
          fun _ u _ => u = iv y.at_,
          fun _ u _ => u = .slice (some ⟨b, off, none⟩) vs.length c,
          fun _ u _ => u = iv (k : Int),
          fun _ u _ => u = iv (q : Int),
          fun _ u _ => u = .pointer (some ⟨b, off + q * 3, none⟩),
          fun _ u _ => u = .pointer (some ⟨b, off + q * 3, none⟩),
          fun _ u _ => u = iv x0.at_,
          fun _ u _ => u = .slice (some ⟨b, off, none⟩) vs.length c,
          fun _ u _ => u = iv (k : Int),
          fun _ u _ => u = iv (q : Int),
          fun _ u _ => u = .pointer (some ⟨b, off + q * 3, none⟩),
          fun _ u _ => u = .pointer (some ⟨b, off + q * 3 + 1, none⟩),
          fun _ u _ => u = .slice x0.A x0.old.length x0.c,
          fun _ u _ => u = iv (x0.old.length : Int),
          fun _ u _ => u = iv (x0.at_ + (x0.old.length : Int)),
          fun _ u _ => u = .bool nb]
         (Below.refl _ wr).drew ?_ ?_
        ·simp only [List.take_succ_cons, List.take_zero, HopL];refine ⟨?_, ?_, ?_, ?_, ?_, ?_, ?_, ?_, ?_, ?_, ?_, ?_, ?_, ?_, ?_, ?_, ?_, ?_, ?_, ?_, trivial⟩
         ·refine fv fun v n x hn hR hk => ?_
          exact tV
         ·refine fv fun v n x hn hR hk => ?_
          exact tV
         ·refine fv fun v n x hn hR hk => ?_
          have h0 : v 0 = .slice (some ⟨b, off, none⟩) vs.length c := hk.at 0;have h1 : v 1 = iv (k : Int) := hk.at 1;exact tV
         ·refine fv fun v n x hn hR hk => ?_
          have h2 : v 2 = .pointer (some ⟨b, off + k * 3, none⟩) := hk.at 2;exact tV
         ·refine fv fun v n x hn hR hk => ?_
          have h3 : v 3 = .pointer (some ⟨b, off + k * 3, none⟩) := hk.at 3;have g2 := HYC.out x hR;exact tV
         ·refine fv fun v n x hn hR hk => ?_
          exact tV
         ·refine fv fun v n x hn hR hk => ?_
          exact tV
         ·refine fv fun v n x hn hR hk => ?_
          have h6 : v 6 = iv (k : Int) := hk.at 6;exact tV
         ·refine fv fun v n x hn hR hk => ?_
          have h5 : v 5 = .slice (some ⟨b, off, none⟩) vs.length c := hk.at 5;have h7 : v 7 = iv (q : Int) := hk.at 7;exact tV
         ·refine fv fun v n x hn hR hk => ?_
          have h8 : v 8 = .pointer (some ⟨b, off + q * 3, none⟩) := hk.at 8;exact tV
         ·refine fv fun v n x hn hR hk => ?_
          have h9 : v 9 = .pointer (some ⟨b, off + q * 3, none⟩) := hk.at 9;obtain ⟨g0, g1⟩ := HXC.out x hR;exact tV
         ·refine fv fun v n x hn hR hk => ?_
          exact tV
         ·refine fv fun v n x hn hR hk => ?_
          exact tV
         ·refine fv fun v n x hn hR hk => ?_
          have h12 : v 12 = iv (k : Int) := hk.at 12;exact tV
         ·refine fv fun v n x hn hR hk => ?_
          have h11 : v 11 = .slice (some ⟨b, off, none⟩) vs.length c := hk.at 11;have h13 : v 13 = iv (q : Int) := hk.at 13;exact tV
         ·refine fv fun v n x hn hR hk => ?_
          have h14 : v 14 = .pointer (some ⟨b, off + q * 3, none⟩) := hk.at 14;exact tV
         ·refine fv fun v n x hn hR hk => ?_
          have h15 : v 15 = .pointer (some ⟨b, off + q * 3 + 1, none⟩) := hk.at 15;obtain ⟨g0, g1⟩ := HXC.out x hR;exact tV
         ·refine fv fun v n x hn hR hk => ?_
          have h16 : v 16 = .slice x0.A x0.old.length x0.c := hk.at 16;exact tV
         ·refine fv fun v n x hn hR hk => ?_
          have h10 : v 10 = iv x0.at_ := hk.at 10;have h17 : v 17 = iv (x0.old.length : Int) := hk.at 17;exact tV
         ·refine fv fun v n x hn hR hk => ?_
          have h4 : v 4 = iv y.at_ := hk.at 4;have h18 : v 18 = iv (x0.at_ + (x0.old.length : Int)) := hk.at 18;exact tV
        ·intro v n x hn hR hall;have h19 : v 19 = .bool nb := hall 19 (by decide);clear hall hn;simp only [List.drop_succ_cons, List.drop_zero, List.drop_nil, List.take_succ_cons, List.take_zero, frameF, Act.put, List.setIfInBounds_toArray, List.set_cons_zero, List.set_cons_succ, Nat.zero_add, Nat.reduceAdd, h19];have hbz := hbr.next hR nL
         cases nb
         ·have HN : Hid (File.ordered ((vs.map EdV.ed).drop k) = File.ordered (vs.map EdV.ed)) := lH (by rw [HKD.out]; exact HD.out);(go_wp2_with fail);go_roundw
          case rel => exact ⟨k, by go_num, .inr hlt, HN, hbz⟩
          case measure => simp [intOf]; omega
         ·have HN : Hid (ans = 4) := lH (by rw [HA.out, ← HD.out]; rfl);(go_wp2_with fail);go_ret;exact ⟨ret_eq (by rw [HN.out]; rfl), hb05.next hbz nL⟩
       ·have hki : ¬ (q : Int) + 1 < (vs.length : Int) := (by omega)
        have HN : Hid (ans = 0) := lH (by
         have ho : File.ordered ((vs.map EdV.ed).drop q) = true := by
          have hl : ((vs.map EdV.ed).drop q).length ≤ 1 := by rw [List.length_drop, List.length_map]; omega
          match hd : (vs.map EdV.ed).drop q, hl with
          | [], _ => rfl
          | [_], _ => rfl
          | _ :: _ :: _, h => simp at h
         rw [HA.out, ← HOR.out, ho]; rfl)
        clear HOR hlt;(go_wp2_with fail);go_ret;exact ⟨ret_eq (by rw [HN.out]; rfl), hb0r⟩
     ·rw [if_neg hz] at HA;generalize File.lined acc = e0 at *;have he0 : (e0 != 0) = true := by simpa using hz
      clear hz;(go_wp2_with fail);refine HLD.out.mono ?_;rintro _ w5 ⟨rfl, hb5⟩;(go_wp2_with fail);go_ret;exact ⟨ret_eq (by rw [HA.out]; rfl), hb0r.next hb5 nL⟩
end Fl
end
end Go.Proofs.YtblgkmdadholmabGreatDoor
