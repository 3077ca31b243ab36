/- What the proof of the claim's theorem uses, part 3. The conditions stand in each statement. -/
import Derived.Test.YtblgkmdadholmabGreatDoorSmp2
set_option linter.unusedVariables false
set_option linter.unusedSimpArgs false
set_option maxRecDepth 100000
namespace Go.Proofs.YtblgkmdadholmabGreatDoor
section
namespace File
def lines : Nat → List ByteArray → List UInt8 → Nat → (Int × Nat) ⊕ (List ByteArray × List UInt8 × Nat)
 | 0, _, _, k => .inl (11, k)
 | n + 1, out, l, k =>
  if nextB l = 61 then .inr (out, l, k)
  else if out.length = 24 then .inl (if isDig (nextB l) then 2 else 11, k)
  else match (readLine l k).1 with
   | some x => lines n (out ++ [ba x]) (readLine l k).2.1 (readLine l k).2.2
   | none => .inl (11, (readLine l k).2.2)
def matchAll : List UInt8 → List UInt8 → Nat → Bool × List UInt8 × Nat
 | [], l, k => (true, l, k)
 | a :: ws, l, k => if takes (· == a) l then matchAll ws (rest (· == a) l) (on (· == a) l k) else (false, l, k)
def ending : (Int × Nat) ⊕ (List ByteArray × List UInt8 × Nat) → List ByteArray × Nat × Int
 | .inl (e, k) => ([], k, e)
 | .inr (out, l, k) =>
  let t := matchAll (endOf out) (rest (· == 61) l) (on (· == 61) l k)
  if t.1 = true ∧ t.2.1 = [] then (out, 0, 0) else ([], t.2.2, 8)
def parse (s : List UInt8) : List ByteArray × Nat × Int := ending (lines 25 [] s 0)
end File
namespace Fl
open Go.RowKit
def slLen (v : Value) : Nat := match v with
 | .slice _ n _ => n
 | _ => 0
theorem Own.apartBlk {α : Type} {E : Enc α} {e t : TypeId} {B : Nat} {w : World} {v : Value} {xs : List α} {g : Nat} {cs : Array Value} (h : Own E e B w v xs) (hb : Blk w g t cs) (ht : t ≠ e) : v.ownBlock ≠ some g := fun hv => by
 rcases h.2 with ⟨rfl, _⟩ | ⟨g', cap, cur, rfl, _, hg, _⟩
 ·cases hv
 ·have hg' : g' = g := by simpa [Value.ownBlock] using hv
  unfold Blk at hb;rw [hg', hb] at hg;injection hg with hg;injection hg with _ h2 _;exact ht h2
theorem Own.only {α : Type} {E : Enc α} {e t : TypeId} {B : Nat} {w w' : World} {v : Value} {xs : List α} {g : Nat} {cs : Array Value} (h : Own E e B w v xs) (hb : Blk w g t cs) (ht : t ≠ e) (ho : Only g w w') : Own E e B w' v xs :=
 h.keep ho.below.size fun b hv => ho.other b (h.lt b hv).2 fun e => Own.apartBlk h hb ht (by rw [hv, e])
theorem takeN_ok : ∀ (n : Nat) (l : List UInt8) (k : Nat), (File.takeN n l k).1 = true → ∀ b ∈ l.take n, File.okB b = true := by
 intro n
 induction n with
 | zero => intro l k _ b hb; simp at hb
 | succ n ih =>
  intro l k h b hb;unfold File.takeN at h
  split at h
  ·rename_i ht
   cases l with
   | nil => simp at hb
   | cons c r =>
    have hc : File.okB c = true := ht;rw [show File.rest File.okB (c :: r) = r from if_pos hc] at h;rw [List.take_succ_cons] at hb
    rcases List.mem_cons.1 hb with rfl | hb
    ·exact hc
    ·exact ih _ _ h b hb
  ·cases h
theorem readLine_good {l : List UInt8} {k : Nat} {x : List UInt8} (h : (File.readLine l k).1 = some x) : (File.ba x).size ≤ 40 ∧ File.okLine (File.ba x) = true := by
 unfold File.readLine at h;dsimp only at h
 split at h
 ·rename_i ht
  split at h
  ·injection h with h;subst h;have hn := File.readNum_le l k
   have hs : (File.takeN (File.readNum l k).1 (File.readNum l k).2.2.1 (File.readNum l k).2.2.2).1 = true := by
    unfold File.runN at ht
    split at ht
    ·exact ht
    ·cases ht
   refine ⟨by rw [ba_size, List.length_take]; omega, ?_⟩;unfold File.okLine;rw [List.all_eq_true];intro b hb;exact takeN_ok _ _ _ hs b (by simpa [File.ba] using hb)
  ·cases h
 ·cases h
theorem readLine_len (l : List UInt8) (k : Nat) : (File.readLine l k).2.2 + (File.readLine l k).2.1.length = k + l.length := by
 unfold File.readLine;have h1 := runN_len (File.readNum l k).2.1 (File.readNum l k).1 (File.readNum l k).2.2.1 (File.readNum l k).2.2.2;have h2 := readNum_len l k;dsimp only
 split
 ·split
  ·have h3 := rest_length (· == 10) (File.runN (File.readNum l k).2.1 (File.readNum l k).1 (File.readNum l k).2.2.1 (File.readNum l k).2.2.2).2.1 (File.runN (File.readNum l k).2.1 (File.readNum l k).1 (File.readNum l k).2.2.1 (File.readNum l k).2.2.2).2.2;dsimp only;omega
  ·dsimp only; omega
 ·dsimp only; omega
theorem Good.snoc {l : List ByteArray} {x : ByteArray} (h : Good l) (hl : l.length < 24) (h1 : x.size ≤ 40) (h2 : File.okLine x = true) : Good (l ++ [x]) :=
 ⟨by simp; omega, fun s hs => by rcases List.mem_append.1 hs with h3 | h3; exact h.wide s h3; rw [List.mem_singleton.1 h3]; exact h1, fun s hs => by rcases List.mem_append.1 hs with h3 | h3; exact h.ok s h3; rw [List.mem_singleton.1 h3]; exact h2⟩
theorem Good.nil : Good [] := ⟨by simp, (fun _ h => by cases h), (fun _ h => by cases h)⟩
def ParseOk (B : Nat) (r : List ByteArray × Nat × Int) (e : Ending) (w' : World) : Prop := ∃ v, e = .returned (.tuple #[v, iv r.2.1, iv r.2.2]) ∧ Own strE 9 B w' v r.1 ∧ (r.2.2 ≠ 0 → v = .slice none 0 0)
set_option maxHeartbeats 8000000 in
theorem parse_spec (s : List UInt8) (w : World) (hs : s.length ≤ 1000000000) (ht : Tab w) :
  Calls Tryz.prog 25 #[.string (File.ba s)] w fun e w' => ParseOk w.heap.size (File.parse s) e w' ∧ Below w.heap.size w w' := by
 have hmf : ∀ (fn : Fn) (first cap : Array Value) (w : World), (Instr.makeFunc fn first cap).run Tryz.prog w = .ok (.func fn first cap) w := fun _ _ _ _ => rfl
 have HT := lH ht;clear ht
 go_enter Tryz.func25, Tryz.ntmps25
 (go_wp2_with fail);have hR1 : RD (w.alloc (.cells #[.string (File.ba s), iv 0] 126)) w.heap.size s 0 := Blk.new _ _ _;have hb1 : Below w.heap.size w (w.alloc (.cells #[.string (File.ba s), iv 0] 126)) := rB.alloc nL _;have hz1 : w.heap.size + 1 ≤ (w.alloc (.cells #[.string (File.ba s), iv 0] 126)).heap.size := by simp
 generalize w.alloc (.cells #[.string (File.ba s), iv 0] 126) = w1 at *;obtain ⟨L, hL⟩ : ∃ L, L = File.lines 25 [] s 0 := ⟨_, rfl⟩;have HP : Hid (File.parse s = File.ending L) := lH (by rw [hL]; rfl);have HL := lH hL;clear hL
 go_loopw [7, 8, 9] (fun v _ _ wr => ∃ (out : List ByteArray) (l : List UInt8) (k : Nat), Own strE 9 w.heap.size wr v out ∧ Good out ∧ RD wr w.heap.size l k ∧ Below w.heap.size w wr ∧ k + l.length = s.length ∧ Hid (File.lines (25 - out.length) out l k = L)) (fun v _ _ _ => 25 - slLen v)
 case atStart => exact ⟨[], s, 0, Own.nil, Good.nil, hR1, hb1, by omega, lH HL.out.symm⟩
 case round =>
  obtain ⟨out, l, k, hown, hgood, hR, hbw, hkl, hr⟩ := hrel;obtain ⟨A, cp, rfl, hcp, hcm⟩ := hown.form;have hom := hgood.many;obtain ⟨m0, m1, m2⟩ := hR.agg;obtain ⟨c, hc⟩ : ∃ c : Nat, c = (File.nextB l).toNat := ⟨_, rfl⟩;have hc255 : c ≤ 255 := by have := (File.nextB l).toNat_lt; omega
  have HNR : Hid (∀ W : World, Calls Tryz.prog 78 #[.agg #[.string (File.ba l)]] W fun e w' => e = .returned (.int .u8 (c : Int)) ∧ Below W.heap.size W w') := lH fun W => by rw [hc]; exact next_spec l W
  have HDC : Hid (∀ W : World, Calls Tryz.prog 79 #[.int .u8 (c : Int)] W fun e w' => e = .returned (.bool (File.isDig (File.nextB l))) ∧ W = w') := lH fun W => by rw [hc]; exact digit_spec _ W
  have HONE : Hid (∀ (a : UInt8) (W : World), Calls Tryz.prog 81 #[bv a] W fun e w' => ∃ q, e = .returned (.agg #[.func (.func 128) #[] #[.pointer (some ⟨q, 0, none⟩)]]) ∧ Blk w' q 5 #[bv a] ∧ Below W.heap.size W w') := lH fun a W => one_spec a W
  have hcf := callFunc_run (P := Tryz.prog) (K := 77) (by kernel_rfl)
  by_cases h61 : c = 61
  ·have h61i : ((c : Int) != 61) = false := by simp; omega
   have hn61 : File.nextB l = 61 := UInt8.toNat_inj.1 (by rw [← hc, h61]; rfl)
   have hLe : L = .inr (out, l, k) := by
    rw [← hr.out, show 25 - out.length = (24 - out.length) + 1 by omega, File.lines, if_pos hn61]
   rw [hLe] at HP;unfold File.ending at HP;dsimp only at HP;have HN61 := lH hn61;have HGO := lH hgood;have HOW := lH hown;clear hc h61 hn61 hLe hr HL HDC hgood hown
   go_wp2_with (go_at_call 78; refine (HNR.out _).mono ?_; rintro e w2 ⟨rfl, hb2⟩)
   refine (show Calls Tryz.prog 81 #[.int .u8 61] _ _ from HONE.out 61 _).mono ?_;rintro e w3 ⟨q, rfl, hq, hb3⟩;have hR3 := (hR.below hb2).below hb3;have hb23 := hb2.trans (hb3.mono hb2.size);have hRg := hR.lt;have HT1 := lH (takeOne 61 q w.heap.size k l w3 hR3 (by omega) hq);have HRL1 := lH (rest_length (· == 61) l k);obtain ⟨l1, hl1⟩ : ∃ l1, l1 = File.rest (· == 61) l := ⟨_, rfl⟩;obtain ⟨k1, hk1⟩ : ∃ k1, k1 = File.on (· == 61) l k := ⟨_, rfl⟩;rw [← hl1, ← hk1] at HT1 HP HRL1;clear hl1 hk1 hb2 hb3 hR m0 m1 m2;(go_wp2_with fail);refine HT1.out.mono ?_;rintro e w4 ⟨rfl, hR4, hO4⟩;have hO04 : Only w.heap.size wr w4 := (Only.of_below hb23 (Nat.le_of_lt hRg)).trans hO4;have hown4 : Own strE 9 w.heap.size w4 (.slice A out.length cp) out := Own.only (HOW.out.below hb23) hR3 (by decide) hO4;have hbw4 : Below w.heap.size w w4 := hbw.trans hO04.below;have hsl4 := hown4.sl;have HEN := lH (end_spec A out cp w4 HGO.out hsl4 (HT.out.below hbw4))
   clear HT1 hR3 hb23 hO4 hsl4;(go_wp2_with fail);refine HEN.out.mono ?_;rintro e w5 ⟨rfl, hb5⟩;have hR5 := hR4.below hb5;have hown5 := hown4.below hb5;have hbw5 := hbw4.next hb5 nL;obtain ⟨T, hTe⟩ : ∃ T, T = File.matchAll (File.endOf out) l1 k1 := ⟨_, rfl⟩;rw [← hTe] at HP;have HTE := lH hTe;obtain ⟨W, hW⟩ : ∃ W, W = File.endOf out := ⟨_, rfl⟩
   have hWl : W.length ≤ 1000 := by
    have := sum_bounds out;have h2 := dec_len 5 (File.sum out).toNat (by omega);rw [hW]; unfold File.endOf; simp; omega
   rw [← hW] at HTE ⊢;clear hTe hW hR4 hown4 hbw4 hb5 HEN;(go_wp2_with fail);have hsz : (File.ba W).size = W.length := ba_size W;have HSZ := lH hsz;have hWs : (File.ba W).size ≤ 1000 := (by omega);clear hsz
   go_loopw [11, 64] (fun _ i wx => ∃ (j : Nat) (lj : List UInt8) (kj : Nat), j ≤ (File.ba W).size ∧ i = iv j ∧ RD wx w.heap.size lj kj ∧ Own strE 9 w.heap.size wx (.slice A out.length cp) out ∧ Below w.heap.size w wx ∧ kj + lj.length = s.length ∧ Hid (File.matchAll (W.drop j) lj kj = T)) (fun _ i _ => (File.ba W).size - (intOf i).toNat)
   case atStart => exact ⟨0, l1, k1, Nat.zero_le _, rfl, hR5, hown5, hbw5, by have := HRL1.out; omega, lH HTE.out.symm⟩
   case round =>
    clear hR5 hown5 hbw5;obtain ⟨j, lj, kj, hj, rfl, hRj, hoj, hbj, hkj, hr⟩ := hrel
    by_cases hlt : j < (File.ba W).size
    ·have hji : (j : Int) < ((File.ba W).size : Int) := (by omega);have hjl : j < W.length := by rw [← HSZ.out]; exact hlt
     have hget : (File.ba W)[j]'hlt = W[j]'hjl := by simp [File.ba, ByteArray.getElem_eq_getElem_data]
     have hr' := hr.out;rw [List.drop_eq_getElem_cons hjl, File.matchAll] at hr';generalize W[j]'hjl = a at hget hr';have HR := lH hr';have HGET := lH hget;clear hr hr' hget hjl;have hRg := hRj.lt;(go_wp2_with fail);rw [HGET.out];refine (HONE.out a _).mono ?_;rintro e w6 ⟨q6, rfl, hq6, hb6⟩;have hR6 := hRj.below hb6;have HT6 := lH (takeOne a q6 w.heap.size kj lj w6 hR6 (by omega) hq6)
     cases hta : File.takes (· == a) lj
     ·rw [hta] at HT6 HR;rw [rest_no hta, on_no hta] at HT6;simp only [Bool.false_eq_true, if_false] at HR;clear hta
      go_upto_region 19 with (go_at_call 77; refine HT6.out.mono ?_; rintro e w7 ⟨rfl, hR7, hO7⟩)
      obtain ⟨m0, m1, m2⟩ := hR7.agg;have hfin : Below w.heap.size w w7.drew := ((hbj.next hb6 nL).trans hO7.below).drew;have HX : Hid (File.parse s = ([], kj, 8)) := lH (by rw [HP.out, ← HR.out]; rfl)
      go_region
      (go_wp2_with fail);go_ret3;refine ⟨?_, hfin⟩;rw [HX.out];exact ⟨_, rfl, Own.nil, fun _ => rfl⟩
     ·rw [hta] at HT6 HR;simp only [if_true] at HR;have HRL := lH (rest_length (· == a) lj kj);clear hta
      go_wp2_with (go_at_call 77; refine HT6.out.mono ?_; rintro e w7 ⟨rfl, hR7, hO7⟩)
      have hb7 : Below w.heap.size w w7 := (hbj.next hb6 nL).trans hO7.below;have ho7 := Own.only (hoj.below hb6) hR6 (by decide) hO7;go_roundw
      case rel => exact ⟨j + 1, _, _, by omega, by go_num, hR7, ho7, hb7, by have := HRL.out; omega, HR⟩
      case measure => simp [intOf]; omega
    ·have hji : ¬ (j : Int) < ((File.ba W).size : Int) := (by omega);have hr' := hr.out;rw [List.drop_eq_nil_of_le (by rw [← HSZ.out]; omega)] at hr';have hT : T = (true, lj, kj) := by rw [← hr']; rfl
     rw [hT] at HP;dsimp only at HP;clear hr hr' hT HTE;obtain ⟨m0, m1, m2⟩ := hRj.agg
     cases lj with
     | nil =>
      have h1 := ba_em;have HX : Hid (File.parse s = (out, 0, 0)) := lH (by rw [HP.out, if_pos ⟨rfl, rfl⟩]);(go_wp2_with fail);go_ret3;refine ⟨?_, hbj⟩;rw [HX.out];exact ⟨_, rfl, hoj, fun h => absurd rfl h⟩
     | cons b r =>
      have h1 := ba_ne (b := b) (l := r);have HX : Hid (File.parse s = ([], kj, 8)) := lH (by rw [HP.out, if_neg (fun h => by cases h.2)])
      go_upto_region 22 with fail
      have hfin : Below w.heap.size w wr.drew := hbj.drew
      go_region
      (go_wp2_with fail);go_ret3;refine ⟨?_, hfin⟩;rw [HX.out];exact ⟨_, rfl, Own.nil, fun _ => rfl⟩
  ·have h61i : ((c : Int) != 61) = true := by simp; omega
   have hn61 : ¬ File.nextB l = 61 := fun h => h61 (by rw [hc, h]; rfl)
   have hr' := hr.out;rw [show 25 - out.length = (24 - out.length) + 1 by omega, File.lines, if_neg hn61] at hr';have hmw := hR.lt
   by_cases h24 : out.length = 24
   ·rw [if_pos h24] at hr';have h24i : ((out.length : Int) == 24) = true := by simp; omega
    have h24j : ¬ (out.length : Int) < 24 := (by omega);have h24k : ¬ out.length < 24 := (by omega)
    cases hd : File.isDig (File.nextB l)
    ·rw [hd] at HDC hr';have HX : Hid (File.parse s = ([], k, 11)) := lH (by rw [HP.out, ← hr']; rfl);clear hr hr' hn61 hc h24 hd
     go_upto_region 11 with (first
      | (go_at_call 78; refine (HNR.out _).mono ?_; rintro e w2 ⟨rfl, hb2⟩; first | have hR3 := hR2.below hb2; obtain ⟨m3, m4, m5⟩ := hR3.agg; have hb03 := hb02.next hb2 nL | have hR2 := hR.below hb2; obtain ⟨m0, m1, m2⟩ := hR2.agg; have hb02 := hbw.next hb2 nL)
      | (go_at_call 79; refine (HDC.out _).mono ?_; rintro e w' ⟨rfl, rfl⟩))
     have hfin := hb03.drew
     go_region
     (go_wp2_with fail);go_ret3;refine ⟨?_, hfin⟩;rw [HX.out];exact ⟨_, rfl, Own.nil, fun _ => rfl⟩
    ·rw [hd] at HDC hr';have HX : Hid (File.parse s = ([], k, 2)) := lH (by rw [HP.out, ← hr']; rfl);clear hr hr' hn61 hc h24 hd
     go_upto_region 6 with (first
      | (go_at_call 78; refine (HNR.out _).mono ?_; rintro e w2 ⟨rfl, hb2⟩; first | have hR3 := hR2.below hb2; obtain ⟨m3, m4, m5⟩ := hR3.agg; have hb03 := hb02.next hb2 nL | have hR2 := hR.below hb2; obtain ⟨m0, m1, m2⟩ := hR2.agg; have hb02 := hbw.next hb2 nL)
      | (go_at_call 79; refine (HDC.out _).mono ?_; rintro e w' ⟨rfl, rfl⟩))
     have hfin := hb03.drew
     go_region
     (go_wp2_with fail);go_ret3;refine ⟨?_, hfin⟩;rw [HX.out];exact ⟨_, rfl, Own.nil, fun _ => rfl⟩
   ·rw [if_neg h24] at hr';have h24i : ((out.length : Int) == 24) = false := by simp; omega
    have h24j : (out.length : Int) < 24 := (by omega);have h24l : out.length < 24 := (by omega);have HLN := lH (fun (W : World) (h : RD W w.heap.size l k) => line_spec w.heap.size k l W h (by omega));have hll := readLine_len l k
    cases hx : (File.readLine l k).1 with
    | none =>
     rw [hx] at HLN;have HX : Hid (File.parse s = ([], (File.readLine l k).2.2, 11)) := lH (by rw [HP.out, ← hr', hx]; rfl);clear hr hr' hn61 hc h24 hx;generalize (File.readLine l k).2 = q at *;obtain ⟨l', k'⟩ := q;dsimp only at HLN HX hll
     go_upto_region 11 with (first
      | (go_at_call 78; refine (HNR.out _).mono ?_; rintro e w2 ⟨rfl, hb2⟩; have hR2 := hR.below hb2; have hb02 := hbw.next hb2 nL)
      | (go_at_call 80; refine (HLN.out _ hR2).mono ?_; rintro e w3 ⟨rfl, hR3, hO3⟩; obtain ⟨m3, m4, m5⟩ := hR3.agg))
     have hfin := (hb02.trans hO3.below).drew
     go_region
     (go_wp2_with fail);go_ret3;refine ⟨?_, hfin⟩;rw [HX.out];exact ⟨_, rfl, Own.nil, fun _ => rfl⟩
    | some x =>
     rw [hx] at HLN hr';have hxg := readLine_good hx;have HR : Hid (File.lines (25 - (out ++ [File.ba x]).length) (out ++ [File.ba x]) (File.readLine l k).2.1 (File.readLine l k).2.2 = L) := lH (by rw [← hr']; simp only [List.length_append, List.length_singleton]; rw [show 25 - (out.length + 1) = 24 - out.length by omega]);have hgs := hgood.snoc h24l hxg.1 hxg.2;clear hr hr' hn61 hc h24 hx;generalize (File.readLine l k).2 = q at *;obtain ⟨l', k'⟩ := q;dsimp only at HLN HR hll
     go_wp2_with (first
      | (go_at_call 78; refine (HNR.out _).mono ?_; rintro e w2 ⟨rfl, hb2⟩; have hR2 := hR.below hb2; have hb02 := hbw.next hb2 nL; have ho2 := hown.below hb2)
      | (go_at_call 80; refine (HLN.out _ hR2).mono ?_; rintro e w3 ⟨rfl, hR3, hO3⟩; have ho3 := Own.only ho2 hR2 (by decide) hO3; have hb03 := hb02.trans hO3.below)
      | (at_builtin; refine wpApp1 strE tyStrs rfl _ _ rfl ho3 (File.ba x) rfl rfl rfl hb03.size (by unfold big; omega) ?_; intro v5 w5 hown5 hb5 hot5))
     have hR5 : RD w5 w.heap.size l' k' := (hot5 _ hR3.lt (Own.apartBlk ho3 hR3 (by decide))).trans hR3;obtain ⟨A5, c5, rfl, _, _⟩ := hown5.form;go_roundw
     case rel => exact ⟨out ++ [File.ba x], l', k', hown5, hgs, hR5, hb03.trans hb5, by omega, HR⟩
     case measure => simp [slLen]; omega
end Fl
end
section
namespace Fl
open Go.RowKit Go.ChangeShapes
@[irreducible] def cutA (A : Option Addr) (c i sz : Nat) : Option Addr := if c = i then A else A.map (·.add (i * sz))
theorem run_cut {α : Type} (E : Enc α) {t e : TypeId} (hT : SlTy Tryz.prog t e E.sz) (A : Option Addr) (n c i x : Nat) (hi : i ≤ x) (hx : x ≤ c) :
  ∀ W : World, (Instr.slice t (.slice A n c) (some (iv (i : Int))) (some (iv (x : Int))) none).run Tryz.prog W = .ok (.slice (cutA A c i E.sz) (x - i) (c - i)) W := by
 intro W;obtain ⟨j, z, hj, hz, hsz, hby, hzc⟩ := hT.info;have he : Tryz.prog.elem t = e := by simp [Program.elem, hT.ht]
 rw [run_slice_lh W t A n c (by rw [he]; exact hT.ht) .i64 .i64 (i : Int) (x : Int) (by omega) (by omega) (by omega)];have hs : (sizeOf (Tryz.prog.elem t)).run Tryz.prog W = .ok E.sz W := by rw [he]; simp [sizeOf, typeInfo, hj, hsz]
 rw [hs];simp [sliced, cutA]
theorem run_cutFrom {α : Type} (E : Enc α) {t e : TypeId} (hT : SlTy Tryz.prog t e E.sz) (A : Option Addr) (n c i : Nat) (hi : i ≤ n) :
  ∀ W : World, (Instr.slice t (.slice A n c) (some (iv (i : Int))) none none).run Tryz.prog W = .ok (.slice (cutA A c i E.sz) (n - i) (c - i)) W := by
 intro W;obtain ⟨j, z, hj, hz, hsz, hby, hzc⟩ := hT.info;have he : Tryz.prog.elem t = e := by simp [Program.elem, hT.ht]
 rw [run_slice_l W t A n c (by rw [he]; exact hT.ht) .i64 (i : Int) (by omega) (by omega)];have hs : (sizeOf (Tryz.prog.elem t)).run Tryz.prog W = .ok E.sz W := by rw [he]; simp [sizeOf, typeInfo, hj, hsz]
 rw [hs];simp [sliced, cutA]
theorem Sl.cut {α : Type} {E : Enc α} {w : World} {A : Option Addr} {xs : List α} {c i x : Nat} (h : Sl E w A xs) (hc : xs.length ≤ c) (hi : i ≤ x) (hx : x ≤ xs.length) : Sl E w (cutA A c i E.sz) (File.cut xs i x) := fun hne => by
 have hcl : (File.cut xs i x).length = x - i := by unfold File.cut; rw [List.length_take, List.length_drop]; omega
 have hlt : i < x := by
  rcases Nat.lt_or_ge i x with h1 | h1
  ·exact h1
  ·exact absurd (List.eq_nil_of_length_eq_zero (by omega)) hne
 obtain ⟨b, off, hA, hb, hcell⟩ := h (by intro e; subst e; simp at hx; omega);subst hA;refine ⟨b, off + i * E.sz, ?_, hb, fun k y hk j u hu => ?_⟩
 ·unfold cutA;rw [if_neg (by omega)];simp [Addr.add]
 ·unfold File.cut at hk;rw [List.getElem?_take] at hk
  split at hk
  ·rw [List.getElem?_drop] at hk;have := hcell (i + k) y hk j u hu;rw [Nat.add_mul] at this;rw [show off + i * E.sz + k * E.sz + j = off + (i * E.sz + k * E.sz) + j by omega];exact this
  ·cases hk
theorem Only.past {g B : Nat} {w0 w w' : World} (h : Only g w0 w) (hb : Below B w w') (h1 : w0.heap.size ≤ B) (h2 : g ≤ B) : Only g w0 w' :=
 ⟨h.below.trans (hb.mono h2), fun i hi hg => (hb.block i (by omega)).trans (h.other i hi hg)⟩
theorem strs_app {B B0 : Nat} {w w' : World} {v : Value} {rs : List RawEd} (hown : Own rawE 36 B w v rs) (hsz : w.heap.size ≤ w'.heap.size) (hk : ∀ b, b < w.heap.size → v.ownBlock ≠ some b → w'.heap[b]? = w.heap[b]?) : Strs B0 w w' :=
 ⟨hsz, fun g cs fr _ hc => hk g (Array.getElem?_eq_some_iff.1 hc).1 fun hv => by
  rcases hown.2 with ⟨rfl, _⟩ | ⟨g', cap, cur, rfl, _, hg, _⟩
  ·cases hv
  ·have e1 : g' = g := by simpa [Value.ownBlock] using hv
   subst e1;rw [hc] at hg;injection hg with hg;injection hg with _ h2 _;exact absurd h2 (by decide)⟩
theorem Strs.trans {B : Nat} {a b c : World} (h : Strs B a b) (k : Strs B b c) : Strs B a c := ⟨Nat.le_trans h.1 k.1, fun g cs fr hg hc => (k.2 g cs fr hg ((h.2 g cs fr hg hc).trans hc)).trans (h.2 g cs fr hg hc)⟩
theorem Strs.set {B : Nat} {w w' : World} {p : Addr} (h : Strs B w w') (hp : p.block < B) (u : Value) : Strs B w (w'.setCell p u) :=
 ⟨Nat.le_trans h.1 ((Below.refl p.block w').setCell nL u).size, fun g cs fr hg hc => by rw [Below.heap_setCell _ _ _ _ (by omega)]; exact h.2 g cs fr hg hc⟩
def Tail (a b : List ByteArray) (i j : Nat) (l : List (Nat × Nat)) : Prop := l = [] ∨ ∃ r, l = r ++ [(a.length, b.length)] ∧ File.Pairs a b i j r ∧ i ≤ a.length ∧ j ≤ b.length
theorem Tail.cons {a b : List ByteArray} {i j x y : Nat} {l : List (Nat × Nat)} (h : Tail a b i j ((x, y) :: l)) : i ≤ x ∧ j ≤ y ∧ x ≤ a.length ∧ y ≤ b.length ∧ Tail a b (x + 1) (y + 1) l := by
 rcases h with h | ⟨r, h1, h2, h3, h4⟩
 ·cases h
 ·cases r with
  | nil =>
   simp only [List.nil_append, List.cons.injEq, Prod.mk.injEq] at h1;obtain ⟨⟨rfl, rfl⟩, rfl⟩ := h1;exact ⟨h3, h4, Nat.le_refl _, Nat.le_refl _, .inl rfl⟩
  | cons p r =>
   simp only [List.cons_append, List.cons.injEq] at h1;obtain ⟨rfl, rfl⟩ := h1;obtain ⟨k1, k2, ⟨k3, k4, _⟩, k6⟩ := h2;exact ⟨k1, k2, Nat.le_of_lt k3, Nat.le_of_lt k4, .inr ⟨r, rfl, k6, k3, k4⟩⟩
set_option maxHeartbeats 4000000 in
theorem diff_spec (A : Option Addr) (a : List ByteArray) (c : Nat) (A' : Option Addr) (b : List ByteArray) (c' : Nat) (w : World) (ga : Good a) (gb : Good b) (hca : a.length ≤ c) (hcb : b.length ≤ c') (hsa : Sl strE w A a) (hsb : Sl strE w A' b) :
  Calls Tryz.prog 29 #[.slice A a.length c, .slice A' b.length c'] w fun e w' => ∃ v rs, e = .returned v ∧ Own rawE 36 w.heap.size w' v rs ∧ EdsR w.heap.size w' rs (File.diff a b) ∧ Below w.heap.size w w' := by
 have hB0 : Below w.heap.size w (w.alloc (.cells #[iv 0, iv 0] 136)) := rB.alloc nL _;have m1 := ga.many;have m2 := gb.many;have hAt : Blk (w.alloc (.cells #[iv 0, iv 0] 136)) w.heap.size 136 #[iv 0, iv 0] := Blk.new _ _ _
 go_enter Tryz.func29, Tryz.ntmps29
 (go_wp2_with fail);generalize w.alloc (.cells #[iv 0, iv 0] 136) = w1 at *;refine (common_spec A a c A' b c' w1 m1 m2 (hsa.below hB0) (hsb.below hB0) (fun s hs => Nat.le_trans (ga.wide s hs) (by decide)) (fun s hs => Nat.le_trans (gb.wide s hs) (by decide))).mono ?_;rintro e w2 ⟨v, rfl, hv, hb2⟩;have hll : (File.common a b).length ≤ 24 := by rw [File.common_length]; exact Nat.le_trans (File.lcs_most a b) m1
 have HV := lH hv;have hbig : (File.common a b).length + 1 ≤ big := by unfold big; omega
 have hs2 := hb2.size;clear hv
 go_wp2_with (first
  | (at_builtin; refine wpApp1 pairE tyPairs rfl _ _ rfl HV.out (a.length, b.length) rfl rfl rfl hs2 hbig ?_; intro v3 w3 hown3 hb3 _; obtain ⟨X, cx, rfl, hcx, hmx⟩ := hown3.form; have HO3 := lH hown3; have HL3 : Hid ((File.common a b ++ [(a.length, b.length)]).length = (File.common a b).length + 1) := lH (by rw [List.length_append]; rfl); clear hown3))
 have hb13 : Below w.heap.size w w3 := (hB0.next hb2 (by have := hAt.lt; omega)).trans (hb3.mono (by have := hAt.lt; have := hb2.size; omega));have hAt3 : Blk w3 w.heap.size 136 #[iv 0, iv 0] := (hAt.under hb2).below hb3 hAt.lt;obtain ⟨L, hL⟩ : ∃ L, L = File.common a b ++ [(a.length, b.length)] := ⟨_, rfl⟩;have HXL : Hid (Sl pairE w3 X L) := lH (by rw [hL]; exact HO3.out.sl);have HLl : L.length = (File.common a b).length + 1 := by rw [hL]; exact HL3.out
 have HD : Hid (File.diff a b = File.diffGo a b 0 0 L) := lH (by rw [hL]; rfl);have HTL : Hid (Tail a b 0 0 (L.drop 0)) := lH (by rw [hL]; exact .inr ⟨_, rfl, File.common_pairs a b, Nat.zero_le _, Nat.zero_le _⟩);have hLb : ((File.common a b).length : Int) + 1 = (L.length : Int) := (by omega)
 have HXf : Hid (∀ b off, X = some ⟨b, off, none⟩ → w.heap.size < b) := lH fun b off e => by
  have h1 := (HO3.out.lt b (by rw [e]; rfl)).1;have h2 := hAt.lt;omega
 simp only [← HLl, hLb];have hL24 : L.length ≤ 25 := (by omega);clear hL HO3 HL3 HV HLl hLb hll hbig hcx
 go_loopw [5, 21] (fun u q wr => ∃ (k i j : Nat) (rs : List RawEd) (es : List (File.Edit ByteArray)), k ≤ L.length ∧ q = iv (k : Int) ∧ Hid (es ++ File.diffGo a b i j (L.drop k) = File.diff a b) ∧ Hid (Own rawE 36 w3.heap.size wr u rs) ∧ Hid (EdsR w3.heap.size wr rs es) ∧ Blk wr w.heap.size 136 #[iv (i : Int), iv (j : Int)] ∧ Hid (Only w.heap.size w3 wr) ∧ Hid (Tail a b i j (L.drop k))) (fun _ q _ => L.length - (intOf q).toNat)
 case atStart => exact ⟨0, 0, 0, [], [], Nat.zero_le _, rfl, by rw [HD.out]; rfl, Own.nil, trivial, hAt3, Only.refl _ _, HTL⟩
 case round =>
  obtain ⟨k, i, j, rs, es, hk, rfl, HE, HR, HS, hat, HO, HT⟩ := hrel;have hwl : w.heap.size < w3.heap.size := hAt3.lt
  by_cases hlt : k < L.length
  ·have hX : Sl pairE wr X L := fun hne => by
    obtain ⟨bx, ox, rfl, hbx, hc⟩ := HXL.out hne;have hnb := HXf.out bx ox rfl;exact ⟨bx, ox, rfl, Nat.lt_of_lt_of_le hbx HO.out.below.size, fun t u ht j2 u2 hu2 => by rw [← hc t u ht j2 u2 hu2]; exact World.cell?_of_block (HO.out.other bx hbx (by omega))⟩
   obtain ⟨bx, ox, p, rfl, hbx, hp, hc⟩ := Sl.at_ hX hlt;obtain ⟨x, y⟩ := p;have hd : L.drop k = (x, y) :: L.drop (k + 1) := by rw [drop_at hp]
   have hTc := HT.out;rw [hd] at hTc;obtain ⟨t1, t2, t3, t4, t5⟩ := Tail.cons hTc;have HT5 := lH t5;have HE2 := HE.out;rw [hd] at HE2;have HE3 := lH HE2;clear hTc t5 HE2 hd HT HE;have q0 : wr.cell? ⟨bx, ox + k * 2, none⟩ = some (iv (x : Int)) := by simpa [pairE] using hc 0 (iv (x : Int)) rfl
   have q1 : wr.cell? ⟨bx, ox + k * 2 + 1, none⟩ = some (iv (y : Int)) := by simpa [pairE] using hc 1 (iv (y : Int)) rfl
   have hzr := hat.lt;clear hc hX
   go_upto_region 6 with fail
   have hNb : Below wr.heap.size wr (wr.alloc (.cells #[Value.int .i64 (x : Int), Value.int .i64 (y : Int)] 136)) := rB.alloc nL _;have hNx : Blk (wr.alloc (.cells #[Value.int .i64 (x : Int), Value.int .i64 (y : Int)] 136)) wr.heap.size 136 #[iv (x : Int), iv (y : Int)] := Blk.new _ _ _;generalize wr.alloc (.cells #[Value.int .i64 (x : Int), Value.int .i64 (y : Int)] 136) = wN at *;have hatN := hat.under hNb;have n0 := hNx.cell 0;have n1 := hNx.cell 1;have a0 := hatN.cell 0;have a1 := hatN.cell 1;have hNn := hNx.cell;have hAn := hatN.cell
   by_cases hxy : x = i ∧ y = j
   ·obtain ⟨rfl, rfl⟩ := hxy;have e1 : IntKind.i64.wrap ((x : Int) + 1) = ((x + 1 : Nat) : Int) := IntWalk.i64_in _ (by omega);have e2 : IntKind.i64.wrap ((y : Int) + 1) = ((y + 1 : Nat) : Int) := IntWalk.i64_in _ (by omega);have f0 := hatN.frozen 0;have f1 := hatN.frozen 1;have hO5 : Hid (Only w.heap.size w3 ((wN.setCell ⟨w.heap.size, 0, none⟩ (iv ((x + 1 : Nat) : Int))).setCell ⟨w.heap.size, 1, none⟩ (iv ((y + 1 : Nat) : Int)))) := lH ((((HO.out.next hNb (by omega))).trans (Only.set_ _ _ _ _)).trans (Only.set_ _ _ _ _));have hR5 : Hid (Own rawE 36 w3.heap.size ((wN.setCell ⟨w.heap.size, 0, none⟩ (iv ((x + 1 : Nat) : Int))).setCell ⟨w.heap.size, 1, none⟩ (iv ((y + 1 : Nat) : Int))) u5 rs) := lH (((HR.out.below hNb).setCell hwl _).setCell hwl _);have hS5 : Hid (EdsR w3.heap.size ((wN.setCell ⟨w.heap.size, 0, none⟩ (iv ((x + 1 : Nat) : Int))).setCell ⟨w.heap.size, 1, none⟩ (iv ((y + 1 : Nat) : Int))) rs es) := lH (EdsR.keep (((Strs.below hNb).set hwl _).set hwl _) HS.out)
    have hA5 : Blk ((wN.setCell ⟨w.heap.size, 0, none⟩ (iv ((x + 1 : Nat) : Int))).setCell ⟨w.heap.size, 1, none⟩ (iv ((y + 1 : Nat) : Int))) w.heap.size 136 #[iv ((x + 1 : Nat) : Int), iv ((y + 1 : Nat) : Int)] := (hatN.set_ 0 _).set_ 1 _;have hE5 : Hid (es ++ File.diffGo a b (x + 1) (y + 1) (L.drop (k + 1)) = File.diff a b) := lH (by have := HE3.out; rw [File.diffGo, if_pos ⟨rfl, rfl⟩, List.nil_append] at this; exact this);clear HE3 HO HR HS;(go_wp2_with fail);go_roundw
    case rel => exact ⟨k + 1, x + 1, y + 1, rs, es, by omega, by go_num, hE5, hR5, hS5, hA5, hO5, HT5⟩
    case measure => simp [intOf]; omega
   ·by_cases hxi : x = i
    ·obtain rfl := hxi;have hyj : ¬ (y : Int) = (j : Int) := fun e => hxy ⟨rfl, by omega⟩
     have HZ1 : Hid (w3.heap.size ≤ wN.heap.size) := lH (Nat.le_trans HO.out.below.size hNb.size)
     have HC1 : Hid (∀ W, Below w3.heap.size wN W → Calls Tryz.prog 19 #[.slice (cutA A c x 1) (x - x) (c - x)] W fun e w' => ∃ v, e = .returned v ∧ Own strE 9 W.heap.size w' v (File.cut a x x) ∧ Below W.heap.size W w') := lH fun W hW => by
      have hbN : Below w.heap.size w W := ((hb13.trans HO.out.below).trans (hNb.mono (by omega))).trans (hW.mono (by omega));have h1 : (File.cut a x x).length = x - x := File.cut_length t3 t1;have := cloneS (cutA A c x 1) (File.cut a x x) (c - x) W (by rw [h1]; unfold big; omega) (Sl.cut (hsa.below hbN) hca t1 t3);rw [h1] at this;exact this
     have HC2 : Hid (∀ W, Below w3.heap.size wN W → Calls Tryz.prog 19 #[.slice (cutA A' c' j 1) (y - j) (c' - j)] W fun e w' => ∃ v, e = .returned v ∧ Own strE 9 W.heap.size w' v (File.cut b j y) ∧ Below W.heap.size W w') := lH fun W hW => by
      have hbN : Below w.heap.size w W := ((hb13.trans HO.out.below).trans (hNb.mono (by omega))).trans (hW.mono (by omega));have h1 : (File.cut b j y).length = y - j := File.cut_length t4 t2;have := cloneS (cutA A' c' j 1) (File.cut b j y) (c' - j) W (by rw [h1]; unfold big; omega) (Sl.cut (hsb.below hbN) hcb t2 t4);rw [h1] at this;exact this
     have R1 : ∀ W : World, (Instr.slice 23 (.slice A a.length c) (some (iv (x : Int))) (some (iv (x : Int))) none).run Tryz.prog W = .ok (.slice (cutA A c x 1) (x - x) (c - x)) W := run_cut strE tyStrs A a.length c x x t1 (Nat.le_trans t3 hca);have R2 : ∀ W : World, (Instr.slice 23 (.slice A' b.length c') (some (iv (j : Int))) (some (iv (y : Int))) none).run Tryz.prog W = .ok (.slice (cutA A' c' j 1) (y - j) (c' - j)) W := run_cut strE tyStrs A' b.length c' j y t2 (Nat.le_trans t4 hcb);generalize cutA A c x 1 = X1 at R1 HC1;generalize x - x = m3 at R1 HC1;generalize c - x = n3 at R1 HC1;generalize cutA A' c' j 1 = X2 at R2 HC2;generalize y - j = m4 at R2 HC2;generalize c' - j = n4 at R2 HC2;have HS0 : Hid (∀ z : World, Below wN.heap.size wN z → Below w3.heap.size wN z ∧ (z.cell? ⟨w.heap.size, 0, none⟩ = some (iv (x : Int)) ∧ z.cell? ⟨w.heap.size, 1, none⟩ = some (iv (j : Int)) ∧ z.cell? ⟨wr.heap.size, 0, none⟩ = some (iv (x : Int)) ∧ z.cell? ⟨wr.heap.size, 1, none⟩ = some (iv (y : Int)))) := lH fun z h => ⟨h.mono HZ1.out, (hatN.under h).cell 0, (hatN.under h).cell 1, (hNx.under h).cell 0, (hNx.under h).cell 1⟩
     have HK0 := lH (HS0.out wN.drew rB.drew)
     have HRL : Hid (rs.length + 1 ≤ big) := lH (by
      have h1 := EdsR.length HS.out;have h2 := File.diff_len a b;have h3 := congrArg List.length HE3.out;rw [List.length_append] at h3;unfold big;omega)
     go_upto_region 7 with fail
     go_region_held3 (fun z => Below w3.heap.size wN z ∧ (z.cell? ⟨w.heap.size, 0, none⟩ = some (iv (x : Int)) ∧ z.cell? ⟨w.heap.size, 1, none⟩ = some (iv (j : Int)) ∧ z.cell? ⟨wr.heap.size, 0, none⟩ = some (iv (x : Int)) ∧ z.cell? ⟨wr.heap.size, 1, none⟩ = some (iv (y : Int))))
      (first | with_reducible assumption | exact HK0.out | exact HS3.out | exact HS0.out _ (HX2.out.alloc HX2.out.size _) | exact HS0.out _ HX2.out | exact HS0.out _ HX1.out)
      (first
       | (go_at_call 19; refine (HC1.out _ (Below.refl _ wN).drew).mono ?_; rintro e x1 ⟨v1, rfl, ho1, hbx1⟩; have HX1 := lH ((Below.refl wN.heap.size wN).drew.next hbx1 nL); obtain ⟨A1, c1, rfl, _, _⟩ := ho1.form; have HW1 := lH ho1; clear ho1)
       | (go_at_call 19; refine (HC2.out _ (HX1.out.mono HZ1.out)).mono ?_; rintro e x2 ⟨v2, rfl, ho2, hbx2⟩; have HX2 := lH (HX1.out.next hbx2 nL); obtain ⟨A2, c2, rfl, _, _⟩ := ho2.form; have HW2 := lH ho2; have HW1b := lH (Own.below HW1.out hbx2); have HO10 := lH (Own.below (Own.below HR.out hNb) HX2.out); have HP2 := lH (hNx.under HX2.out); have HA2 := lH (hatN.under HX2.out); have HZ2 := lH (Nat.le_trans HZ1.out HX2.out.size); clear ho2)
       | (refine stepApp1 rawE tyEdits (by rfl) _ _ (by rfl) (w := x2) HO10.out (⟨(x : Int), A1, (File.cut a x x).length, c1, A2, (File.cut b j y).length, c2⟩ : RawEd) (by rfl) (by rfl) rfl (by rfl) rfl HZ2.out HRL.out ?_; intro v3 x3 ho3 hbx3 hk3; have HV3 := lH ho3; have HP3 : Hid (Blk x3 wr.heap.size 136 #[iv (x : Int), iv (y : Int)]) := lH ((hk3 _ HP2.out.lt (Own.apartBlk HO10.out HP2.out (by decide))).trans HP2.out); have HA3 := lH (HA2.out.below hbx3 hwl); have HX3 := lH ((HX2.out.mono HZ1.out).trans hbx3); have HS3 : Hid (Below w3.heap.size wN x3 ∧ (x3.cell? ⟨w.heap.size, 0, none⟩ = some (iv (x : Int)) ∧ x3.cell? ⟨w.heap.size, 1, none⟩ = some (iv (j : Int)) ∧ x3.cell? ⟨wr.heap.size, 0, none⟩ = some (iv (x : Int)) ∧ x3.cell? ⟨wr.heap.size, 1, none⟩ = some (iv (y : Int)))) := lH ⟨HX3.out, HA3.out.cell 0, HA3.out.cell 1, HP3.out.cell 0, HP3.out.cell 1⟩; have HST : Hid (Strs w3.heap.size x2 x3) := lH (strs_app HO10.out hbx3.size hk3); clear ho3 hbx3 hk3))
     all_goals
      have HEd : Hid (EdR w3.heap.size x3 ⟨(x : Int), A1, (File.cut a x x).length, c1, A2, (File.cut b j y).length, c2⟩ ⟨(x : Int), File.cut a x x, File.cut b j y⟩) := lH ⟨rfl, rfl, rfl, HST.out.own (HW1b.out.base HZ1.out), HST.out.own (HW2.out.base (Nat.le_trans HZ1.out HX1.out.size))⟩;have HEs := lH (EdsR.snoc HEd.out (EdsR.keep (((Strs.below hNb).trans (Strs.below HX2.out)).trans HST.out) HS.out));have HOx : Hid (Only w.heap.size w3 x3) := lH (HO.out.past ((hNb.mono HO.out.below.size).trans HX3.out) nL (Nat.le_of_lt hwl));have e1 : IntKind.i64.wrap ((x : Int) + 1) = ((x + 1 : Nat) : Int) := IntWalk.i64_in _ (by omega);have e2 : IntKind.i64.wrap ((y : Int) + 1) = ((y + 1 : Nat) : Int) := IntWalk.i64_in _ (by omega);have p0 := HP3.out.cell 0;have p1 := HP3.out.cell 1;have g0 := HA3.out.cell 0;have g1 := HA3.out.cell 1;have gl := HA3.out.lt;have f0 := HA3.out.frozen 0
      have f1 := HA3.out.frozen 1;have hO5 : Hid (Only w.heap.size w3 ((x3.setCell ⟨w.heap.size, 0, none⟩ (iv ((x + 1 : Nat) : Int))).setCell ⟨w.heap.size, 1, none⟩ (iv ((y + 1 : Nat) : Int)))) := lH ((HOx.out.trans (Only.set_ _ _ _ _)).trans (Only.set_ _ _ _ _));have hR5 := lH ((HV3.out.setCell (p := ⟨w.heap.size, 0, none⟩) hwl (iv ((x + 1 : Nat) : Int))).setCell (p := ⟨w.heap.size, 1, none⟩) hwl (iv ((y + 1 : Nat) : Int)));have hS5 : Hid (EdsR w3.heap.size ((x3.setCell ⟨w.heap.size, 0, none⟩ (iv ((x + 1 : Nat) : Int))).setCell ⟨w.heap.size, 1, none⟩ (iv ((y + 1 : Nat) : Int))) _ _) := lH (EdsR.keep (((Strs.below (Below.refl _ x3)).set hwl _).set hwl _) HEs.out);have hA5 : Blk ((x3.setCell ⟨w.heap.size, 0, none⟩ (iv ((x + 1 : Nat) : Int))).setCell ⟨w.heap.size, 1, none⟩ (iv ((y + 1 : Nat) : Int))) w.heap.size 136 #[iv ((x + 1 : Nat) : Int), iv ((y + 1 : Nat) : Int)] := (HA3.out.set_ 0 _).set_ 1 _
      have hE5 : Hid ((es ++ [(⟨(x : Int), File.cut a x x, File.cut b j y⟩ : File.Edit ByteArray)]) ++ File.diffGo a b (x + 1) (y + 1) (L.drop (k + 1)) = File.diff a b) := lH (by have := HE3.out; rw [File.diffGo, if_neg (by simpa using hxy), ← List.append_assoc] at this; exact this);clear HE3 HO HR HS HEs HEd HOx hxy;(go_wp2_with fail);go_roundw
      case rel => exact ⟨k + 1, x + 1, y + 1, _, _, by omega, by go_num, hE5, hR5, hS5, hA5, hO5, HT5⟩
      case measure => simp [intOf]; omega
    ·have hxi2 : ¬ (x : Int) = (i : Int) := fun e => hxi (by omega)
     have HZ1 : Hid (w3.heap.size ≤ wN.heap.size) := lH (Nat.le_trans HO.out.below.size hNb.size)
     have HC1 : Hid (∀ W, Below w3.heap.size wN W → Calls Tryz.prog 19 #[.slice (cutA A c i 1) (x - i) (c - i)] W fun e w' => ∃ v, e = .returned v ∧ Own strE 9 W.heap.size w' v (File.cut a i x) ∧ Below W.heap.size W w') := lH fun W hW => by
      have hbN : Below w.heap.size w W := ((hb13.trans HO.out.below).trans (hNb.mono (by omega))).trans (hW.mono (by omega));have h1 : (File.cut a i x).length = x - i := File.cut_length t3 t1;have := cloneS (cutA A c i 1) (File.cut a i x) (c - i) W (by rw [h1]; unfold big; omega) (Sl.cut (hsa.below hbN) hca t1 t3);rw [h1] at this;exact this
     have HC2 : Hid (∀ W, Below w3.heap.size wN W → Calls Tryz.prog 19 #[.slice (cutA A' c' j 1) (y - j) (c' - j)] W fun e w' => ∃ v, e = .returned v ∧ Own strE 9 W.heap.size w' v (File.cut b j y) ∧ Below W.heap.size W w') := lH fun W hW => by
      have hbN : Below w.heap.size w W := ((hb13.trans HO.out.below).trans (hNb.mono (by omega))).trans (hW.mono (by omega));have h1 : (File.cut b j y).length = y - j := File.cut_length t4 t2;have := cloneS (cutA A' c' j 1) (File.cut b j y) (c' - j) W (by rw [h1]; unfold big; omega) (Sl.cut (hsb.below hbN) hcb t2 t4);rw [h1] at this;exact this
     have R1 : ∀ W : World, (Instr.slice 23 (.slice A a.length c) (some (iv (i : Int))) (some (iv (x : Int))) none).run Tryz.prog W = .ok (.slice (cutA A c i 1) (x - i) (c - i)) W := run_cut strE tyStrs A a.length c i x t1 (Nat.le_trans t3 hca);have R2 : ∀ W : World, (Instr.slice 23 (.slice A' b.length c') (some (iv (j : Int))) (some (iv (y : Int))) none).run Tryz.prog W = .ok (.slice (cutA A' c' j 1) (y - j) (c' - j)) W := run_cut strE tyStrs A' b.length c' j y t2 (Nat.le_trans t4 hcb);generalize cutA A c i 1 = X1 at R1 HC1;generalize x - i = m3 at R1 HC1;generalize c - i = n3 at R1 HC1;generalize cutA A' c' j 1 = X2 at R2 HC2;generalize y - j = m4 at R2 HC2;generalize c' - j = n4 at R2 HC2;have HS0 : Hid (∀ z : World, Below wN.heap.size wN z → Below w3.heap.size wN z ∧ (z.cell? ⟨w.heap.size, 0, none⟩ = some (iv (i : Int)) ∧ z.cell? ⟨w.heap.size, 1, none⟩ = some (iv (j : Int)) ∧ z.cell? ⟨wr.heap.size, 0, none⟩ = some (iv (x : Int)) ∧ z.cell? ⟨wr.heap.size, 1, none⟩ = some (iv (y : Int)))) := lH fun z h => ⟨h.mono HZ1.out, (hatN.under h).cell 0, (hatN.under h).cell 1, (hNx.under h).cell 0, (hNx.under h).cell 1⟩
     have HK0 := lH (HS0.out wN.drew rB.drew)
     have HRL : Hid (rs.length + 1 ≤ big) := lH (by
      have h1 := EdsR.length HS.out;have h2 := File.diff_len a b;have h3 := congrArg List.length HE3.out;rw [List.length_append] at h3;unfold big;omega)
     go_upto_region 7 with fail
     go_region_held3 (fun z => Below w3.heap.size wN z ∧ (z.cell? ⟨w.heap.size, 0, none⟩ = some (iv (i : Int)) ∧ z.cell? ⟨w.heap.size, 1, none⟩ = some (iv (j : Int)) ∧ z.cell? ⟨wr.heap.size, 0, none⟩ = some (iv (x : Int)) ∧ z.cell? ⟨wr.heap.size, 1, none⟩ = some (iv (y : Int))))
      (first | with_reducible assumption | exact HK0.out | exact HS3.out | exact HS0.out _ (HX2.out.alloc HX2.out.size _) | exact HS0.out _ HX2.out | exact HS0.out _ HX1.out)
      (first
       | (go_at_call 19; refine (HC1.out _ (Below.refl _ wN).drew).mono ?_; rintro e x1 ⟨v1, rfl, ho1, hbx1⟩; have HX1 := lH ((Below.refl wN.heap.size wN).drew.next hbx1 nL); obtain ⟨A1, c1, rfl, _, _⟩ := ho1.form; have HW1 := lH ho1; clear ho1)
       | (go_at_call 19; refine (HC2.out _ (HX1.out.mono HZ1.out)).mono ?_; rintro e x2 ⟨v2, rfl, ho2, hbx2⟩; have HX2 := lH (HX1.out.next hbx2 nL); obtain ⟨A2, c2, rfl, _, _⟩ := ho2.form; have HW2 := lH ho2; have HW1b := lH (Own.below HW1.out hbx2); have HO10 := lH (Own.below (Own.below HR.out hNb) HX2.out); have HP2 := lH (hNx.under HX2.out); have HA2 := lH (hatN.under HX2.out); have HZ2 := lH (Nat.le_trans HZ1.out HX2.out.size); clear ho2)
       | (refine stepApp1 rawE tyEdits (by rfl) _ _ (by rfl) (w := x2) HO10.out (⟨(i : Int), A1, (File.cut a i x).length, c1, A2, (File.cut b j y).length, c2⟩ : RawEd) (by rfl) (by rfl) rfl (by rfl) rfl HZ2.out HRL.out ?_; intro v3 x3 ho3 hbx3 hk3; have HV3 := lH ho3; have HP3 : Hid (Blk x3 wr.heap.size 136 #[iv (x : Int), iv (y : Int)]) := lH ((hk3 _ HP2.out.lt (Own.apartBlk HO10.out HP2.out (by decide))).trans HP2.out); have HA3 := lH (HA2.out.below hbx3 hwl); have HX3 := lH ((HX2.out.mono HZ1.out).trans hbx3); have HS3 : Hid (Below w3.heap.size wN x3 ∧ (x3.cell? ⟨w.heap.size, 0, none⟩ = some (iv (i : Int)) ∧ x3.cell? ⟨w.heap.size, 1, none⟩ = some (iv (j : Int)) ∧ x3.cell? ⟨wr.heap.size, 0, none⟩ = some (iv (x : Int)) ∧ x3.cell? ⟨wr.heap.size, 1, none⟩ = some (iv (y : Int)))) := lH ⟨HX3.out, HA3.out.cell 0, HA3.out.cell 1, HP3.out.cell 0, HP3.out.cell 1⟩; have HST : Hid (Strs w3.heap.size x2 x3) := lH (strs_app HO10.out hbx3.size hk3); clear ho3 hbx3 hk3))
     all_goals
      have HEd : Hid (EdR w3.heap.size x3 ⟨(i : Int), A1, (File.cut a i x).length, c1, A2, (File.cut b j y).length, c2⟩ ⟨(i : Int), File.cut a i x, File.cut b j y⟩) := lH ⟨rfl, rfl, rfl, HST.out.own (HW1b.out.base HZ1.out), HST.out.own (HW2.out.base (Nat.le_trans HZ1.out HX1.out.size))⟩;have HEs := lH (EdsR.snoc HEd.out (EdsR.keep (((Strs.below hNb).trans (Strs.below HX2.out)).trans HST.out) HS.out));have HOx : Hid (Only w.heap.size w3 x3) := lH (HO.out.past ((hNb.mono HO.out.below.size).trans HX3.out) nL (Nat.le_of_lt hwl));have e1 : IntKind.i64.wrap ((x : Int) + 1) = ((x + 1 : Nat) : Int) := IntWalk.i64_in _ (by omega);have e2 : IntKind.i64.wrap ((y : Int) + 1) = ((y + 1 : Nat) : Int) := IntWalk.i64_in _ (by omega);have p0 := HP3.out.cell 0;have p1 := HP3.out.cell 1;have g0 := HA3.out.cell 0;have g1 := HA3.out.cell 1;have gl := HA3.out.lt;have f0 := HA3.out.frozen 0
      have f1 := HA3.out.frozen 1;have hO5 : Hid (Only w.heap.size w3 ((x3.setCell ⟨w.heap.size, 0, none⟩ (iv ((x + 1 : Nat) : Int))).setCell ⟨w.heap.size, 1, none⟩ (iv ((y + 1 : Nat) : Int)))) := lH ((HOx.out.trans (Only.set_ _ _ _ _)).trans (Only.set_ _ _ _ _));have hR5 := lH ((HV3.out.setCell (p := ⟨w.heap.size, 0, none⟩) hwl (iv ((x + 1 : Nat) : Int))).setCell (p := ⟨w.heap.size, 1, none⟩) hwl (iv ((y + 1 : Nat) : Int)));have hS5 : Hid (EdsR w3.heap.size ((x3.setCell ⟨w.heap.size, 0, none⟩ (iv ((x + 1 : Nat) : Int))).setCell ⟨w.heap.size, 1, none⟩ (iv ((y + 1 : Nat) : Int))) _ _) := lH (EdsR.keep (((Strs.below (Below.refl _ x3)).set hwl _).set hwl _) HEs.out);have hA5 : Blk ((x3.setCell ⟨w.heap.size, 0, none⟩ (iv ((x + 1 : Nat) : Int))).setCell ⟨w.heap.size, 1, none⟩ (iv ((y + 1 : Nat) : Int))) w.heap.size 136 #[iv ((x + 1 : Nat) : Int), iv ((y + 1 : Nat) : Int)] := (HA3.out.set_ 0 _).set_ 1 _
      have hE5 : Hid ((es ++ [(⟨(i : Int), File.cut a i x, File.cut b j y⟩ : File.Edit ByteArray)]) ++ File.diffGo a b (x + 1) (y + 1) (L.drop (k + 1)) = File.diff a b) := lH (by have := HE3.out; rw [File.diffGo, if_neg (by simpa using hxy), ← List.append_assoc] at this; exact this);clear HE3 HO HR HS HEs HEd HOx hxy;(go_wp2_with fail);go_roundw
      case rel => exact ⟨k + 1, x + 1, y + 1, _, _, by omega, by go_num, hE5, hR5, hS5, hA5, hO5, HT5⟩
      case measure => simp [intOf]; omega
  ·have hke : k = L.length := (by omega)
   have hE : es = File.diff a b := by
    have := HE.out;rw [hke, List.drop_length] at this
    simpa [File.diffGo] using this
   have hbF : Below w.heap.size w wr := hb13.trans HO.out.below;have hOw := lH (Own.base HR.out (Nat.le_of_lt hwl));have hSS := lH HS.out;have HE2 := lH hE;clear hE HE HR HS HO hke;(go_wp2_with fail);go_ret;refine ⟨_, rs, rfl, hOw.out, ?_, hbF⟩;rw [← HE2.out];exact EdsR.base (Nat.le_of_lt hwl) hSS.out
end Fl
end
section
namespace Fl
open Go.RowKit Go.ChangeShapes
theorem Diff_spec (A : Option Addr) (a : List ByteArray) (c : Nat) (A' : Option Addr) (b : List ByteArray) (c' : Nat) (w : World) (ha : a.length ≤ big) (hb : b.length ≤ big) (hca : a.length ≤ c) (hcb : b.length ≤ c') (hsa : Sl strE w A a) (hsb : Sl strE w A' b) :
  Calls Tryz.prog 9 #[.slice A a.length c, .slice A' b.length c'] w fun e w' => ∃ v rs, e = .returned (.tuple #[v, iv (errOf a b)]) ∧ Own rawE 36 w.heap.size w' v rs ∧ EdsR w.heap.size w' rs (if errOf a b = 0 then File.diff a b else []) ∧ Below w.heap.size w w' := by
 have HB := lH (both_spec A a c A' b c' w ha hb hsa hsb)
 by_cases h : errOf a b = 0
 ·have h1 := err_good h;have g1 := good_of_check h1.1;have g2 := good_of_check h1.2;have HB2 := lH (err_zero h HB.out);rw [h, if_pos rfl];clear HB h
  go_enter Tryz.func9, Tryz.ntmps9
  (go_wp2_with fail);refine HB2.out.mono ?_;rintro e w1 ⟨rfl, hb1⟩;(go_wp2_with fail);refine (diff_spec A a c A' b c' w1 g1 g2 hca hcb (hsa.below hb1) (hsb.below hb1)).mono ?_;rintro e w2 ⟨v, rs, rfl, hv, hr, hb2⟩;(go_wp2_with fail);go_ret2;exact ⟨_, rs, rfl, hv.base hb1.size, hr.base hb1.size, hb1.next hb2 nL⟩
 ·rw [if_neg h];have HB2 : Hid (Calls Tryz.prog 27 #[.slice A a.length c, .slice A' b.length c'] w fun e w' => e = .returned (iv (errOf a b)) ∧ Below w.heap.size w w') := lH HB.out;clear HB;obtain ⟨r, hr⟩ : ∃ r, r = errOf a b := ⟨_, rfl⟩;rw [← hr] at HB2 h;rw [← hr];have hne : (r != 0) = true := by simpa using h
  clear hr h
  go_enter Tryz.func9, Tryz.ntmps9
  (go_wp2_with fail);refine HB2.out.mono ?_;rintro e w1 ⟨rfl, hb1⟩;(go_wp2_with fail);go_ret2;exact ⟨_, [], rfl, Own.nil, trivial, hb1⟩
end Fl
end
section
namespace File
def inr (n : Int) : Bool := decide (0 ≤ n) && decide (n ≤ 24)
def cellOk (a b : List ByteArray) (xs : List (List Int)) (i j : Nat) (n : Int) : Bool :=
 (decide (n = 0) == decide (a[i]? ≠ b[j]?)) && (xs.take i).all fun row => !(decide (0 < n) && decide (n ≤ great (row.take j)))
def rowGo (a b : List ByteArray) (xs : List (List Int)) (i : Nat) : Nat → Int → List Int → Option Int
 | _, most, [] => some most
 | j, most, n :: r => if cellOk a b xs i j n then rowGo a b xs i (j + 1) (great [most, n]) r else none
def levelsGo (a b : List ByteArray) (xs : List (List Int)) : Nat → Int → List (List Int) → Int × Int
 | _, most, [] => (most, 0)
 | i, most, l :: r => match rowGo a b xs i 0 most l with
  | some m => levelsGo a b xs (i + 1) m r
  | none => (0, 8)
end File
namespace Fl
open Go.RowKit Go.ChangeShapes
def boundOf (a b : List ByteArray) (xs : List (List Int)) : Int × Int :=
 if errOf a b = 0 then
  if xs.length = a.length ∧ (xs.all fun l => decide (l.length = b.length)) = true then
   if (xs.all fun l => l.all File.inr) = true then File.levelsGo a b xs 0 0 xs else (0, 3)
  else (0, 2)
 else (0, errOf a b)
structure Rw (α : Type) where
 A : Option Addr
 c : Nat
 xs : List α
def rwv {α : Type} (r : Rw α) : Value := .slice r.A r.xs.length r.c
def rwE (α : Type) : Enc (Rw α) := ⟨fun r => [rwv r], 1, fun _ => rfl, fun _ u h => by simp at h; subst h; rfl, by decide⟩
def RowsR {α : Type} (E : Enc α) (w : World) (rs : List (Rw α)) : Prop := ∀ r ∈ rs, Sl E w r.A r.xs ∧ r.xs.length ≤ r.c
theorem RowsR.below {α : Type} {E : Enc α} {w w' : World} {rs : List (Rw α)} (h : RowsR E w rs) (hb : Below w.heap.size w w') : RowsR E w' rs := fun r hr => ⟨(h r hr).1.below hb, (h r hr).2⟩
theorem Sl.atRw {α : Type} {w : World} {A : Option Addr} {rs : List (Rw α)} {k : Nat} (h : Sl (rwE α) w A rs) (hk : k < rs.length) :
  ∃ b off x, A = some ⟨b, off, none⟩ ∧ b < w.heap.size ∧ rs[k]? = some x ∧ w.cell? ⟨b, off + k, none⟩ = some (.slice x.A x.xs.length x.c) := by
 obtain ⟨b, off, x, hA, hb, hx, hc⟩ := h.at_ hk;exact ⟨b, off, x, hA, hb, hx, by simpa [rwE, rwv] using hc 0 (rwv x) rfl⟩
set_option maxRecDepth 100000 in
theorem indexI (A : Option Addr) (l : List Int) (c : Nat) (K : Nat) (cap : Array Value) (p : Int → Bool) (w : World) (hm : l.length ≤ big) (hs : Sl intE w A l)
  (hf : IsPred Tryz.prog w K cap iv l p) :
  Calls Tryz.prog 145 #[.slice A l.length c, .func (.func K) #[] cap] w
  fun e w' => e = .returned (iv (findFrom p l 0)) ∧ Below w.heap.size w w' := by
 unfold big at hm;obtain ⟨hK, hf⟩ := hf;have HF := lH hf;clear hf
 go_enter Tryz.func145, Tryz.ntmps145
 go_wp2
 go_loopw [5, 8] (fun u i wr => ∃ (k : Nat), k ≤ l.length ∧ i = iv k ∧ Hid (findFrom p (l.drop k) k = findFrom p l 0) ∧ Below w.heap.size w wr) (fun _ i _ => l.length - (intOf i).toNat)
 case atStart => exact ⟨0, by omega, rfl, rfl, rB⟩
 case round =>
  obtain ⟨k, hk, rfl, hr, hbw⟩ := hrel;have hs1 := hs.below hbw
  by_cases hlt : k < l.length
  ·obtain ⟨b, off, x, rfl, hb, hx, hc0⟩ := Sl.atI hs1 hlt;have hd := hr.out;rw [drop_at hx] at hd;simp only [findFrom] at hd;have HD := lH hd;clear hd
   cases hp : p x
   ·(go_wp2_with fail);refine (HF.out x (mem_at hx) wr hbw).mono ?_;rintro e w1 ⟨rfl, hb1⟩;rw [hp];(go_wp2_with fail);go_roundw
    case rel => exact ⟨k + 1, by omega, by go_num, by have := HD.out; rw [hp] at this; exact this, hbw.next hb1 nL⟩
    case measure => simp [intOf]; omega
   ·(go_wp2_with fail);refine (HF.out x (mem_at hx) wr hbw).mono ?_;rintro e w1 ⟨rfl, hb1⟩;rw [hp];(go_wp2_with fail);go_ret;exact ⟨ret_eq (by have := HD.out; rw [hp] at this; rw [← this]; rfl), hbw.next hb1 nL⟩
  ·have hd := hr.out;rw [drop_end hlt] at hd;have HD := lH hd;clear hd
   go_wp2
   go_ret;exact ⟨ret_eq (by rw [← HD.out]; rfl), hbw⟩
theorem containsI (A : Option Addr) (l : List Int) (c : Nat) (K : Nat) (cap : Array Value) (p : Int → Bool) (w : World) (hm : l.length ≤ big) (hs : Sl intE w A l)
  (hf : IsPred Tryz.prog w K cap iv l p) :
  Calls Tryz.prog 136 #[.slice A l.length c, .func (.func K) #[] cap] w
  fun e w' => e = .returned (.bool (l.any p)) ∧ Below w.heap.size w w' := by
 have HF := lH hf;clear hf
 go_enter Tryz.func136, Tryz.ntmps136
 go_wp2_with (go_at_call 145; refine (indexI A l c K cap p _ hm hs HF.out).mono ?_; rintro e w1 ⟨rfl, hb1⟩)
 go_ret;exact ⟨ret_eq (by rw [← findFrom_nonneg p l 0 (by omega)]; rfl), hb1⟩
set_option maxRecDepth 100000 in
theorem notI (K : Nat) (cap : Array Value) (p : Int → Bool) (w0 w : World) (x : Int) (l : List Int) (g : Nat) (hx : x ∈ l) (hg : g < w.heap.size) (hc : w.cell? ⟨g, 0, none⟩ = some (.func (.func K) #[] cap)) (hb : Below w0.heap.size w0 w) (hf : IsPred Tryz.prog w0 K cap iv l p) :
  Calls Tryz.prog 137 #[iv x, .pointer (some ⟨g, 0, none⟩)] w fun e w' => e = .returned (.bool (!p x)) ∧ Below w.heap.size w w' := by
 obtain ⟨hK, hf⟩ := hf;have HF := lH (fun w' (h : Below w.heap.size w w') => hf x hx w' (hb.next h nL));clear hf hx
 go_enter Tryz.func137, Tryz.ntmps137
 (go_wp2_with fail);refine (HF.out _ rB).mono ?_;rintro e w1 ⟨rfl, hb1⟩;(go_wp2_with fail);go_ret;exact ⟨rfl, hb1⟩
set_option maxRecDepth 100000 in
theorem everyI (A : Option Addr) (l : List Int) (c : Nat) (K : Nat) (cap : Array Value) (p : Int → Bool) (w : World) (hm : l.length ≤ big) (hs : Sl intE w A l)
  (hf : IsPred Tryz.prog w K cap iv l p) :
  Calls Tryz.prog 97 #[.slice A l.length c, .func (.func K) #[] cap] w
  fun e w' => e = .returned (.bool (l.all p)) ∧ Below w.heap.size w w' := by
 have HF := lH hf;clear hf;have hsf := fun (a : Addr) (c : Array Value) (w : World) => run_store Tryz.prog w a (.func (.func K) #[] c) .plain rfl
 have hmf : ∀ (fn : Fn) (first cap : Array Value) (w : World), (Instr.makeFunc fn first cap).run Tryz.prog w = .ok (.func fn first cap) w := fun _ _ _ _ => rfl
 go_enter Tryz.func97, Tryz.ntmps97
 go_wp2_with (go_at_call 136; refine (containsI A l c 137 #[.pointer (some ⟨w.heap.size, 0, none⟩)] (fun x => !p x) _ hm (hs.alloc _) ⟨callFunc_run (by kernel_rfl), fun x hx w' hw' => notI K cap p w w' x l w.heap.size hx (by have := hw'.size; simp at this; omega) ((hw'.cell (by simp)).trans (by simp [go_sem])) hw'.of_alloc HF.out⟩).mono ?_; rintro e w1 ⟨rfl, hb1⟩)
 go_ret;exact ⟨ret_eq (by rw [List.not_any_eq_all_not]; simp), hb1.of_alloc⟩
set_option maxRecDepth 100000 in
theorem indexRw (A : Option Addr) (l : List (Rw Int)) (c : Nat) (K : Nat) (cap : Array Value) (p : (Rw Int) → Bool) (w : World) (hm : l.length ≤ big) (hs : Sl (rwE Int) w A l)
  (hf : IsPred Tryz.prog w K cap rwv l p) :
  Calls Tryz.prog 90 #[.slice A l.length c, .func (.func K) #[] cap] w
  fun e w' => e = .returned (iv (findFrom p l 0)) ∧ Below w.heap.size w w' := by
 unfold big at hm;obtain ⟨hK, hf⟩ := hf;have HF := lH hf;clear hf
 go_enter Tryz.func90, Tryz.ntmps90
 go_wp2
 go_loopw [5, 8] (fun u i wr => ∃ (k : Nat), k ≤ l.length ∧ i = iv k ∧ Hid (findFrom p (l.drop k) k = findFrom p l 0) ∧ Below w.heap.size w wr) (fun _ i _ => l.length - (intOf i).toNat)
 case atStart => exact ⟨0, by omega, rfl, rfl, rB⟩
 case round =>
  obtain ⟨k, hk, rfl, hr, hbw⟩ := hrel;have hs1 := hs.below hbw
  by_cases hlt : k < l.length
  ·obtain ⟨b, off, x, rfl, hb, hx, hc0⟩ := Sl.atRw hs1 hlt;have hd := hr.out;rw [drop_at hx] at hd;simp only [findFrom] at hd;have HD := lH hd;clear hd
   cases hp : p x
   ·(go_wp2_with fail);refine (HF.out x (mem_at hx) wr hbw).mono ?_;rintro e w1 ⟨rfl, hb1⟩;rw [hp];(go_wp2_with fail);go_roundw
    case rel => exact ⟨k + 1, by omega, by go_num, by have := HD.out; rw [hp] at this; exact this, hbw.next hb1 nL⟩
    case measure => simp [intOf]; omega
   ·(go_wp2_with fail);refine (HF.out x (mem_at hx) wr hbw).mono ?_;rintro e w1 ⟨rfl, hb1⟩;rw [hp];(go_wp2_with fail);go_ret;exact ⟨ret_eq (by have := HD.out; rw [hp] at this; rw [← this]; rfl), hbw.next hb1 nL⟩
  ·have hd := hr.out;rw [drop_end hlt] at hd;have HD := lH hd;clear hd
   go_wp2
   go_ret;exact ⟨ret_eq (by rw [← HD.out]; rfl), hbw⟩
theorem containsRw (A : Option Addr) (l : List (Rw Int)) (c : Nat) (K : Nat) (cap : Array Value) (p : (Rw Int) → Bool) (w : World) (hm : l.length ≤ big) (hs : Sl (rwE Int) w A l)
  (hf : IsPred Tryz.prog w K cap rwv l p) :
  Calls Tryz.prog 36 #[.slice A l.length c, .func (.func K) #[] cap] w
  fun e w' => e = .returned (.bool (l.any p)) ∧ Below w.heap.size w w' := by
 have HF := lH hf;clear hf
 go_enter Tryz.func36, Tryz.ntmps36
 go_wp2_with (go_at_call 90; refine (indexRw A l c K cap p _ hm hs HF.out).mono ?_; rintro e w1 ⟨rfl, hb1⟩)
 go_ret;exact ⟨ret_eq (by rw [← findFrom_nonneg p l 0 (by omega)]; rfl), hb1⟩
set_option maxRecDepth 100000 in
theorem notRw (K : Nat) (cap : Array Value) (p : (Rw Int) → Bool) (w0 w : World) (x : (Rw Int)) (l : List (Rw Int)) (g : Nat) (hx : x ∈ l) (hg : g < w.heap.size) (hc : w.cell? ⟨g, 0, none⟩ = some (.func (.func K) #[] cap)) (hb : Below w0.heap.size w0 w) (hf : IsPred Tryz.prog w0 K cap rwv l p) :
  Calls Tryz.prog 135 #[rwv x, .pointer (some ⟨g, 0, none⟩)] w fun e w' => e = .returned (.bool (!p x)) ∧ Below w.heap.size w w' := by
 obtain ⟨hK, hf⟩ := hf;have HF := lH (fun w' (h : Below w.heap.size w w') => hf x hx w' (hb.next h nL));clear hf hx
 go_enter Tryz.func135, Tryz.ntmps135
 (go_wp2_with fail);refine (HF.out _ rB).mono ?_;rintro e w1 ⟨rfl, hb1⟩;(go_wp2_with fail);go_ret;exact ⟨rfl, hb1⟩
set_option maxRecDepth 100000 in
theorem everyRw (A : Option Addr) (l : List (Rw Int)) (c : Nat) (K : Nat) (cap : Array Value) (p : (Rw Int) → Bool) (w : World) (hm : l.length ≤ big) (hs : Sl (rwE Int) w A l)
  (hf : IsPred Tryz.prog w K cap rwv l p) :
  Calls Tryz.prog 94 #[.slice A l.length c, .func (.func K) #[] cap] w
  fun e w' => e = .returned (.bool (l.all p)) ∧ Below w.heap.size w w' := by
 have HF := lH hf;clear hf;have hsf := fun (a : Addr) (c : Array Value) (w : World) => run_store Tryz.prog w a (.func (.func K) #[] c) .plain rfl
 have hmf : ∀ (fn : Fn) (first cap : Array Value) (w : World), (Instr.makeFunc fn first cap).run Tryz.prog w = .ok (.func fn first cap) w := fun _ _ _ _ => rfl
 go_enter Tryz.func94, Tryz.ntmps94
 go_wp2_with (go_at_call 36; refine (containsRw A l c 135 #[.pointer (some ⟨w.heap.size, 0, none⟩)] (fun x => !p x) _ hm (hs.alloc _) ⟨callFunc_run (by kernel_rfl), fun x hx w' hw' => notRw K cap p w w' x l w.heap.size hx (by have := hw'.size; simp at this; omega) ((hw'.cell (by simp)).trans (by simp [go_sem])) hw'.of_alloc HF.out⟩).mono ?_; rintro e w1 ⟨rfl, hb1⟩)
 go_ret;exact ⟨ret_eq (by rw [List.not_any_eq_all_not]; simp), hb1.of_alloc⟩
theorem in_spec (n : Int) (w : World) : Calls Tryz.prog 99 #[iv n, .int .i64 0, .int .i64 24] w fun e w' => e = .returned (.bool (File.inr n)) ∧ w = w' := by
 unfold File.inr
 by_cases h1 : (0 : Int) ≤ n <;> by_cases h2 : n ≤ 24
 all_goals
  go_enter Tryz.func99, Tryz.ntmps99
  go_wp2
  go_ret;exact ⟨by simp [*], rfl⟩
theorem bound21_spec (n : Int) (w : World) : Calls Tryz.prog 98 #[iv n] w fun e w' => e = .returned (.bool (File.inr n)) ∧ w = w' := by
 have H := lH (in_spec n)
 go_enter Tryz.func98, Tryz.ntmps98
 go_wp2_with (go_at_call 99; refine (H.out _).mono ?_; rintro e w1 ⟨rfl, rfl⟩)
 go_ret;exact ⟨rfl, rfl⟩
theorem inPred (w : World) (l : List Int) : IsPred Tryz.prog w 98 #[] iv l File.inr :=
 ⟨callFunc_run (by kernel_rfl), fun x _ w' _ => (bound21_spec x w').mono fun _ _ h => ⟨h.1, h.2 ▸ rB⟩⟩
theorem bound2_spec (r : Rw Int) (w : World) (hm : r.xs.length ≤ big) (hs : Sl intE w r.A r.xs) : Calls Tryz.prog 96 #[.slice r.A r.xs.length r.c] w fun e w' => e = .returned (.bool (r.xs.all File.inr)) ∧ Below w.heap.size w w' := by
 have H := lH (everyI r.A r.xs r.c 98 #[] File.inr w hm hs (inPred w r.xs))
 go_enter Tryz.func96, Tryz.ntmps96
 go_wp2_with (go_at_call 97; refine H.out.mono ?_; rintro e w1 ⟨rfl, hb⟩)
 go_ret;exact ⟨rfl, hb⟩
theorem bound1_spec (r : Rw Int) (g : Nat) (A' : Option Addr) (m c' : Nat) (w : World) (hB : Blk w g 23 #[.slice A' m c']) : Calls Tryz.prog 95 #[.slice r.A r.xs.length r.c, .pointer (some ⟨g, 0, none⟩)] w fun e w' => e = .returned (.bool (decide (r.xs.length = m))) ∧ w = w' := by
 have h0 := hB.cell 0;have h1 := hB.lt
 by_cases h : r.xs.length = m
 ·rw [decide_eq_true h];have hq : ((r.xs.length : Int) == (m : Int)) = true := by simp; omega
  go_enter Tryz.func95, Tryz.ntmps95
  go_wp2
  go_ret;exact ⟨ret_eq (by simp [h]), rfl⟩
 ·rw [decide_eq_false h];have hq : ((r.xs.length : Int) == (m : Int)) = false := by simp; omega
  go_enter Tryz.func95, Tryz.ntmps95
  go_wp2
  go_ret;exact ⟨ret_eq (by simp [h]), rfl⟩
theorem run_cutTo {α : Type} (E : Enc α) {t e : TypeId} (hT : SlTy Tryz.prog t e E.sz) (A : Option Addr) (n c x : Nat) (hx : x ≤ c) :
  ∀ W : World, (Instr.slice t (.slice A n c) none (some (iv (x : Int))) none).run Tryz.prog W = .ok (.slice A x c) W := by
 intro W;obtain ⟨j, z, hj, hz, hsz, hby, hzc⟩ := hT.info;have he : Tryz.prog.elem t = e := by simp [Program.elem, hT.ht]
 rw [run_slice_h W t A n c (by rw [he]; exact hT.ht) .i64 (x : Int) (by omega) (by omega)];have hs : (sizeOf (Tryz.prog.elem t)).run Tryz.prog W = .ok E.sz W := by rw [he]; simp [sizeOf, typeInfo, hj, hsz]
 rw [hs];have h0 : ∀ ad : Addr, ad.add 0 = ad := fun ad => by cases ad; unfold Addr.add; split <;> simp_all
 cases A <;> simp [sliced, h0]
theorem Sl.take {α : Type} {E : Enc α} {w : World} {A : Option Addr} {xs : List α} (h : Sl E w A xs) (j : Nat) : Sl E w A (xs.take j) := fun hx => by
 obtain ⟨b, off, hA, hb, hc⟩ := h (by intro e; rw [e] at hx; simp at hx);refine ⟨b, off, hA, hb, fun i x hi => hc i x ?_⟩;rw [List.getElem?_take] at hi
 split at hi
 ·exact hi
 ·cases hi
theorem tyRows : SlTy Tryz.prog 27 31 1 := slTy_of (z := .slice none 0 0) (bytes := 24) Tryz.underlying27 (by kernel_rfl) rfl (by decide)
theorem all_rows {rs : List (Rw Int)} {p : List Int → Bool} : (rs.all fun r => p r.xs) = (rs.map Rw.xs).all p := by rw [List.all_map]; rfl
set_option maxHeartbeats 4000000 in
theorem Bound_spec (A : Option Addr) (a : List ByteArray) (c : Nat) (A' : Option Addr) (b : List ByteArray) (c' : Nat) (B : Option Addr) (rs : List (Rw Int)) (d : Nat) (w : World) (ha : a.length ≤ big) (hb : b.length ≤ big) (hm : rs.length ≤ big) (hms : ∀ r ∈ rs, r.xs.length ≤ big)
  (hca : a.length ≤ c) (hcb : b.length ≤ c') (hcd : rs.length ≤ d) (hsa : Sl strE w A a) (hsb : Sl strE w A' b) (hsr : Sl (rwE Int) w B rs) (hrr : RowsR intE w rs) :
  Calls Tryz.prog 44 #[.slice A a.length c, .slice A' b.length c', .slice B rs.length d] w fun e w' => e = .returned (.tuple #[iv (boundOf a b (rs.map Rw.xs)).1, iv (boundOf a b (rs.map Rw.xs)).2]) ∧ Below w.heap.size w w' := by
 have hb0 : Below w.heap.size w (w.alloc (.cells #[.slice A' b.length c'] 23)) := rB.alloc nL _;have hB0 : Blk (w.alloc (.cells #[.slice A' b.length c'] 23)) w.heap.size 23 #[.slice A' b.length c'] := Blk.new _ _ _;have HB := lH (both_spec A a c A' b c' (w.alloc (.cells #[.slice A' b.length c'] 23)) ha hb (hsa.below hb0) (hsb.below hb0));unfold boundOf
 by_cases h : errOf a b = 0
 ·have h1 := err_good h;have g1 := good_of_check h1.1;have g2 := good_of_check h1.2;have m1 := g1.many;have m2 := g2.many;rw [if_pos h];have HB2 := lH (err_zero h HB.out);clear HB h
  by_cases hl : rs.length = a.length
  ·have hq : ((rs.length : Int) != (a.length : Int)) = false := by simp; omega
   have HE1 : Hid (∀ w1, Below w.heap.size w w1 → Blk w1 w.heap.size 23 #[.slice A' b.length c'] → Calls Tryz.prog 94 #[.slice B rs.length d, .func (.func 95) #[] #[.pointer (some ⟨w.heap.size, 0, none⟩)]] w1 fun e w' => e = .returned (.bool ((rs.map Rw.xs).all fun l => decide (l.length = b.length))) ∧ Below w1.heap.size w1 w') := lH fun w1 hw hB1 => by
    rw [← all_rows (p := fun l => decide (l.length = b.length))]
    exact everyRw B rs d 95 #[.pointer (some ⟨w.heap.size, 0, none⟩)] (fun r => decide (r.xs.length = b.length)) w1 hm (hsr.below hw)
     ⟨callFunc_run (by kernel_rfl), fun x _ w' hw' => (bound1_spec x w.heap.size A' b.length c' w' (hB1.under hw')).mono fun _ _ h => ⟨h.1, h.2 ▸ rB⟩⟩
   by_cases hall : ((rs.map Rw.xs).all fun l => decide (l.length = b.length)) = true
   ·rw [if_pos ⟨by simpa using hl, hall⟩]
    have HE2 : Hid (∀ w1, Below w.heap.size w w1 → Calls Tryz.prog 94 #[.slice B rs.length d, .func (.func 96) #[] #[]] w1 fun e w' => e = .returned (.bool ((rs.map Rw.xs).all fun l => l.all File.inr)) ∧ Below w1.heap.size w1 w') := lH fun w1 hw => by
     rw [← all_rows (p := fun l => l.all File.inr)]
     exact everyRw B rs d 96 #[] (fun r => r.xs.all File.inr) w1 hm (hsr.below hw)
      ⟨callFunc_run (by kernel_rfl), fun x hx w' hw' => bound2_spec x w' (hms x hx) (((hrr x hx).1.below hw).below hw')⟩
    rw [hall] at HE1;have HL := lH hl
    by_cases hin : ((rs.map Rw.xs).all fun l => l.all File.inr) = true
    ·rw [if_pos hin];rw [hin] at HE2;obtain ⟨XS, hXS⟩ : ∃ XS, XS = rs.map Rw.xs := ⟨_, rfl⟩;rw [← hXS] at hall hin ⊢;have HALL := lH hall;have HIN := lH hin;have HXS := lH hXS;obtain ⟨R, hR⟩ : ∃ R, R = File.levelsGo a b XS 0 0 XS := ⟨_, rfl⟩;rw [← hR];have HR := lH hR;clear hl hall hin hXS hR
     go_enter Tryz.func44, Tryz.ntmps44
     (go_wp2_with fail);refine HB2.out.mono ?_;rintro e w1 ⟨rfl, hb1⟩;(go_wp2_with fail);refine (HE1.out _ (hb0.next hb1 nL) (hB0.under hb1)).mono ?_;rintro e w2 ⟨rfl, hb2⟩;(go_wp2_with fail);refine (HE2.out _ ((hb0.next hb1 nL).next hb2 nL)).mono ?_;rintro e w3 ⟨rfl, hb3⟩;(go_wp2_with fail);have hb03 : Below w.heap.size w w3 := ((hb0.next hb1 nL).next hb2 nL).next hb3 nL;have HB3 : Hid (Blk w3 w.heap.size 23 #[.slice A' b.length c']) := lH (((hB0.under hb1).under hb2).under hb3);clear HB2 HE1 HE2 hB0
     go_loopw [9, 40] (fun u q wr => ∃ (i : Nat) (m : Int), i ≤ rs.length ∧ u = iv m ∧ q = iv (i : Int) ∧ Hid (File.levelsGo a b XS i m (XS.drop i) = R) ∧ Below w3.heap.size w3 wr) (fun _ q _ => rs.length - (intOf q).toNat)
     case atStart => exact ⟨0, 0, Nat.zero_le _, rfl, rfl, by rw [HR.out]; rfl, rB⟩
     case round =>
      obtain ⟨i, m, hi, rfl, rfl, HG, hbr⟩ := hrel
      by_cases hlt : i < rs.length
      ·obtain ⟨bx, ox, ⟨RA, RC, rx⟩, rfl, hbx, hr, hc⟩ := Sl.atRw (hsr.below (hb03.next hbr nL)) hlt;dsimp only at hc;have hrm := mem_at hr;have hxi : XS[i]? = some rx := by rw [HXS.out, List.getElem?_map, hr]; rfl
       have hrl : rx.length = b.length := by
        have := List.all_eq_true.1 HALL.out rx (mem_at hxi)
        simpa using this
       have HRI : Hid (∀ n ∈ rx, 0 ≤ n ∧ n ≤ 24) := lH fun n hn => by
        have := List.all_eq_true.1 (List.all_eq_true.1 HIN.out rx (mem_at hxi)) n hn
        simpa [File.inr] using this
       have HG1 := HG.out;rw [drop_at hxi, File.levelsGo] at HG1;have HG2 := lH HG1;have HRL := lH hrl;have HRR : Hid (Sl intE w RA rx ∧ rx.length ≤ RC) := lH (hrr _ hrm);have hai : i < a.length := by rw [← HL.out]; exact hlt
       obtain ⟨ba, oa, sa, rfl, hba, hsa1, hca1⟩ := Sl.atS (hsa.below (hb03.next hbr nL)) hai;have HAI := lH hsa1;have hil : (i : Int) < (rs.length : Int) := (by omega);clear HG1 HG hsa1 hrl hxi hrm hr;(go_wp2_with fail)
       go_loopw [9, 47] (fun u q wx => ∃ (j : Nat) (m : Int), j ≤ rx.length ∧ u = iv m ∧ q = iv (j : Int) ∧ Hid ((match File.rowGo a b XS i j m (rx.drop j) with | some m => File.levelsGo a b XS (i + 1) m (XS.drop (i + 1)) | none => (0, 8)) = R) ∧ Below w3.heap.size w3 wx) (fun _ q _ => rx.length - (intOf q).toNat)
       case atStart => exact ⟨0, m, Nat.zero_le _, rfl, rfl, HG2, hbr⟩
       case round =>
        clear HG2;obtain ⟨j, m, hj, rfl, rfl, HG, hbx2⟩ := hrel
        by_cases hlt2 : j < rx.length
        ·have hw3 := hb03.next hbx2 nL;obtain ⟨br, or_, n, rfl, hbr2, hn, hcn⟩ := Sl.atI (HRR.out.1.below hw3) hlt2;have HN := lH (HRI.out n (mem_at hn));have hbj : j < b.length := by rw [← HRL.out]; exact hlt2
         obtain ⟨bb, ob, sb, rfl, hbb, hsb1, hcb1⟩ := Sl.atS (hsb.below hw3) hbj;obtain ⟨ba2, oa2, sa2, hA2, hba2, hsa2, hca2⟩ := Sl.atS (hsa.below hw3) hai;have hse : sa2 = sa := by have h5 := HAI.out; rw [hsa2] at h5; injection h5
         injection hA2 with hA2;injection hA2 with e5 e6;subst e5 e6 hse;have HX := HG.out;rw [drop_at hn, File.rowGo] at HX;have HX2 := lH HX;have b0 := (HB3.out.under hbx2).cell 0;have HCK : Hid (File.cellOk a b XS i j n = ((decide (n = 0) == decide (sa2 ≠ sb)) && (XS.take i).all fun row => !(decide (0 < n) && decide (n ≤ File.great (row.take j))))) := lH (by unfold File.cellOk; rw [HAI.out, hsb1]; simp);have hjl : (j : Int) < (rx.length : Int) := (by omega);have hbjl : (j : Int) < (b.length : Int) := (by omega);have hail : (i : Int) < (a.length : Int) := (by omega);clear HX HG hn hsa2 hsb1 hca1
         by_cases hn0 : n = 0
         ·subst hn0
          by_cases hab : sa2 = sb
          ·have hst : (sa2.toList == sb.toList) = true := by rw [str_eq]; simpa using hab
           have HBAD : Hid ((0, 8) = R) := lH (by have h5 := HX2.out; rw [HCK.out] at h5; simpa [hab] using h5);clear hab HCK HX2;have RC := run_cutTo (rwE Int) tyRows (some ⟨bx, ox, none⟩) rs.length d i (Nat.le_trans hi hcd)
           go_upto_region 15 with fail
           go_quiet (fail)
           have hqd : Below w3.heap.size w3 (wr.drewN nq) := ⟨hbx2.os, hbx2.tape, hbx2.output, hbx2.size, hbx2.block⟩;generalize wr.drewN nq = wq at *;(go_wp2_with fail);go_ret2;exact ⟨by rw [← HBAD.out]; rfl, hb03.next hqd nL⟩
          ·have hst : (sa2.toList == sb.toList) = false := by rw [str_eq]; simpa using hab
           have HOK : Hid ((∀ row ∈ XS.take i, (0 : Int) < 0 → File.great (row.take j) < 0) → (match File.rowGo a b XS i (j + 1) (File.great [m, 0]) (rx.drop (j + 1)) with | some m => File.levelsGo a b XS (i + 1) m (XS.drop (i + 1)) | none => (0, 8)) = R) := lH fun h6 => by
            have h5 := HX2.out;rw [HCK.out] at h5
            simpa [hab] using h5
           clear hab HCK HX2;have RC := run_cutTo (rwE Int) tyRows (some ⟨bx, ox, none⟩) rs.length d i (Nat.le_trans hi hcd)
           go_upto_region 15 with fail
           go_quiet (fail)
           have hqd : Below w3.heap.size w3 (wr.drewN nq) := ⟨hbx2.os, hbx2.tape, hbx2.output, hbx2.size, hbx2.block⟩;generalize wr.drewN nq = wq at *;(go_wp2_with fail)
           go_loopw [68] (fun q wz => ∃ (k : Nat), k ≤ i ∧ q = iv (k : Int) ∧ Below w3.heap.size w3 wz) (fun q _ => i - (intOf q).toNat)
           case atStart => exact ⟨0, Nat.zero_le _, rfl, hqd⟩
           case round =>
            obtain ⟨k, hk, rfl, hbz⟩ := hrel
            by_cases hlt3 : k < i
            ·have hki : (k : Int) < (i : Int) := (by omega);obtain ⟨by_, oy, ⟨YA, YC, yx⟩, hBy, hby, hyr, hcy⟩ := Sl.atRw (hsr.below (hb03.next hbz nL)) (Nat.lt_trans hlt3 hlt);dsimp only at hcy;injection hBy with hBy;injection hBy with e5 e6;subst e5 e6;clear hyr;(go_wp2_with fail);go_roundw
             case rel => exact ⟨k + 1, by omega, by go_num, hbz⟩
             case measure => simp [intOf]; omega
            ·have HX3 := lH (HOK.out fun _ _ h7 => absurd h7 (by omega));have hki : ¬ (k : Int) < (i : Int) := (by omega)
             go_wp2_with (go_at_call 28; refine (greatest_spec (some ⟨_, 0, none⟩) [m, 0] 2 _ (by simp [big]) (Sl.fresh intE _ 3 #[iv m, iv 0] [m, 0] rfl (by simp [maxLen]))).mono ?_; rintro e w4 ⟨rfl, rfl⟩)
             go_roundw
             case rel => exact ⟨j + 1, File.great [m, 0], by omega, rfl, by go_num, HX3, hbz.alloc hbz.size _⟩
             case measure => simp [intOf]; omega
         ·have hnp : 0 < n := by have h5 := HN.out; omega
          by_cases hab : sa2 = sb
          ·have hst : (sa2.toList == sb.toList) = true := by rw [str_eq]; simpa using hab
           have HOK : Hid ((∀ row ∈ XS.take i, File.great (row.take j) < n) → (match File.rowGo a b XS i (j + 1) (File.great [m, n]) (rx.drop (j + 1)) with | some m => File.levelsGo a b XS (i + 1) m (XS.drop (i + 1)) | none => (0, 8)) = R) := lH fun h6 => by
            have h5 := HX2.out;rw [HCK.out] at h5
            have h7 : ((XS.take i).all fun row => !(decide (0 < n) && decide (n ≤ File.great (row.take j)))) = true := by
             rw [List.all_eq_true];intro row hrow;have := h6 row hrow;simp;exact Or.inr this
            rw [h7] at h5
            simpa [hab, hn0] using h5
           have HBAD : Hid (∀ row ∈ XS.take i, n ≤ File.great (row.take j) → (0, 8) = R) := lH fun row hrow h6 => by
            have h5 := HX2.out;rw [HCK.out] at h5
            have h7 : ((XS.take i).all fun row => !(decide (0 < n) && decide (n ≤ File.great (row.take j)))) = false := by
             rw [List.all_eq_false];exact ⟨row, hrow, by simp; exact ⟨hnp, h6⟩⟩
            rw [h7] at h5
            simpa using h5
           have hn0q : (n == 0) = false := by simpa using hn0
           clear hab HCK HX2;have RC := run_cutTo (rwE Int) tyRows (some ⟨bx, ox, none⟩) rs.length d i (Nat.le_trans hi hcd)
           go_upto_region 15 with fail
           go_quiet (fail)
           have hqd : Below w3.heap.size w3 (wr.drewN nq) := ⟨hbx2.os, hbx2.tape, hbx2.output, hbx2.size, hbx2.block⟩;generalize wr.drewN nq = wq at *;(go_wp2_with fail)
           go_loopw [68] (fun q wz => ∃ (k : Nat), k ≤ i ∧ q = iv (k : Int) ∧ Hid (∀ t, t < k → ∀ row, XS[t]? = some row → File.great (row.take j) < n) ∧ Below w3.heap.size w3 wz) (fun q _ => i - (intOf q).toNat)
           case atStart => exact ⟨0, Nat.zero_le _, rfl, fun t h => absurd h (Nat.not_lt_zero t), hqd⟩
           case round =>
            obtain ⟨k, hk, rfl, HLT, hbz⟩ := hrel
            by_cases hlt3 : k < i
            ·have hki : (k : Int) < (i : Int) := (by omega);obtain ⟨by_, oy, ⟨YA, YC, yx⟩, hBy, hby, hyr, hcy⟩ := Sl.atRw (hsr.below (hb03.next hbz nL)) (Nat.lt_trans hlt3 hlt);dsimp only at hcy;injection hBy with hBy;injection hBy with e5 e6;subst e5 e6;have hxk : XS[k]? = some yx := by rw [HXS.out, List.getElem?_map, hyr]; rfl
             have hyl : yx.length = b.length := by
              have := List.all_eq_true.1 HALL.out yx (mem_at hxk)
              simpa using this
             obtain ⟨hy1, hy2⟩ := hrr _ (mem_at hyr);have RY := run_cutTo intE tyInts YA yx.length YC j (by dsimp only at hy2; omega)
             have HGR : Hid (Calls Tryz.prog 28 #[.slice YA j YC] wr fun e w' => e = .returned (iv (File.great (yx.take j))) ∧ wr = w') := lH (by
              have h6 : (yx.take j).length = j := by rw [List.length_take]; omega
              have := greatest_spec YA (yx.take j) YC wr (by rw [h6]; unfold big; omega) (Sl.take (hy1.below (hb03.next hbz nL)) j);rw [h6] at this;exact this)
             obtain ⟨G, hG⟩ : ∃ G, G = File.great (yx.take j) := ⟨_, rfl⟩;rw [← hG] at HGR;have HG := lH hG;have HXK := lH hxk;clear hyr hxk hyl hy1 hy2 hG
             by_cases hge : n ≤ G
             ·have HB2 : Hid ((0, 8) = R) := lH (HBAD.out yx (by rw [List.mem_take_iff_getElem]; obtain ⟨h7, h8⟩ := List.getElem?_eq_some_iff.1 HXK.out; exact ⟨k, by omega, h8⟩) (by rw [← HG.out]; exact hge))
              go_wp2_with (go_at_call 28; refine HGR.out.mono ?_; rintro e w4 ⟨rfl, rfl⟩)
              go_ret2;exact ⟨by rw [← HB2.out]; rfl, hb03.next hbz nL⟩
             ·have HLT2 : Hid (∀ t, t < k + 1 → ∀ row, XS[t]? = some row → File.great (row.take j) < n) := lH fun t ht row hrow => by
               by_cases h9 : t = k
               ·subst h9;rw [HXK.out] at hrow;injection hrow with hrow;rw [← hrow, ← HG.out];omega
               ·exact HLT.out t (by omega) row hrow
              go_wp2_with (go_at_call 28; refine HGR.out.mono ?_; rintro e w4 ⟨rfl, rfl⟩)
              go_roundw
              case rel => exact ⟨k + 1, by omega, by go_num, HLT2, hbz⟩
              case measure => simp [intOf]; omega
            ·have HX3 := lH (HOK.out fun row hrow => by
              obtain ⟨t, ht, he⟩ := List.mem_take_iff_getElem.1 hrow;exact HLT.out t (by omega) row (by rw [← he]; exact List.getElem?_eq_getElem (by omega)))
             have hki : ¬ (k : Int) < (i : Int) := (by omega)
             go_wp2_with (go_at_call 28; refine (greatest_spec (some ⟨_, 0, none⟩) [m, n] 2 _ (by simp [big]) (Sl.fresh intE _ 3 #[iv m, iv n] [m, n] rfl (by simp [maxLen]))).mono ?_; rintro e w4 ⟨rfl, rfl⟩)
             go_roundw
             case rel => exact ⟨j + 1, File.great [m, n], by omega, rfl, by go_num, HX3, hbz.alloc hbz.size _⟩
             case measure => simp [intOf]; omega
          ·have hst : (sa2.toList == sb.toList) = false := by rw [str_eq]; simpa using hab
           have HBAD : Hid ((0, 8) = R) := lH (by have h5 := HX2.out; rw [HCK.out] at h5; simpa [hab, hn0] using h5);have hn0q : (n == 0) = false := by simpa using hn0
           clear hab HCK HX2;have RC := run_cutTo (rwE Int) tyRows (some ⟨bx, ox, none⟩) rs.length d i (Nat.le_trans hi hcd)
           go_upto_region 15 with fail
           go_quiet (fail)
           have hqd : Below w3.heap.size w3 (wr.drewN nq) := ⟨hbx2.os, hbx2.tape, hbx2.output, hbx2.size, hbx2.block⟩;generalize wr.drewN nq = wq at *;(go_wp2_with fail);go_ret2;exact ⟨by rw [← HBAD.out]; rfl, hb03.next hqd nL⟩
        ·have hje : j = rx.length := (by omega);have HG1 := HG.out;rw [hje, List.drop_length, File.rowGo] at HG1;have HG2 := lH HG1;clear HG1 HG hje;(go_wp2_with fail);go_roundw
         case rel => exact ⟨i + 1, m, by omega, rfl, by go_num, HG2, hbx2⟩
         case measure => simp [intOf]; omega
      ·have hie : i = rs.length := (by omega);have HG1 := HG.out;rw [List.drop_eq_nil_of_le (by rw [HXS.out, List.length_map]; omega), File.levelsGo] at HG1;have HG2 := lH HG1;clear HG1 HG hie;(go_wp2_with fail);go_ret2;exact ⟨by rw [← HG2.out]; rfl, hb03.next hbr nL⟩
    ·rw [if_neg hin];rw [show ((rs.map Rw.xs).all fun l => l.all File.inr) = false by simpa using hin] at HE2;clear hl
     go_enter Tryz.func44, Tryz.ntmps44
     (go_wp2_with fail);refine HB2.out.mono ?_;rintro e w1 ⟨rfl, hb1⟩;(go_wp2_with fail);refine (HE1.out _ (hb0.next hb1 nL) (hB0.under hb1)).mono ?_;rintro e w2 ⟨rfl, hb2⟩;(go_wp2_with fail);refine (HE2.out _ ((hb0.next hb1 nL).next hb2 nL)).mono ?_;rintro e w3 ⟨rfl, hb3⟩;(go_wp2_with fail);go_ret2;exact ⟨rfl, ((hb0.next hb1 nL).next hb2 nL).next hb3 nL⟩
   ·rw [if_neg (fun e => hall e.2)];rw [show ((rs.map Rw.xs).all fun l => decide (l.length = b.length)) = false by simpa using hall] at HE1;clear hl
    go_enter Tryz.func44, Tryz.ntmps44
    (go_wp2_with fail);refine HB2.out.mono ?_;rintro e w1 ⟨rfl, hb1⟩;(go_wp2_with fail);refine (HE1.out _ (hb0.next hb1 nL) (hB0.under hb1)).mono ?_;rintro e w2 ⟨rfl, hb2⟩;(go_wp2_with fail);go_ret2;exact ⟨rfl, (hb0.next hb1 nL).next hb2 nL⟩
  ·rw [if_neg (fun e => hl (by simpa using e.1))];have hq : ((rs.length : Int) != (a.length : Int)) = true := by simp; omega
   go_enter Tryz.func44, Tryz.ntmps44
   go_wp2_with (go_at_call 27; refine HB2.out.mono ?_; rintro e w1 ⟨rfl, hb1⟩)
   go_ret2;exact ⟨rfl, hb0.next hb1 nL⟩
 ·rw [if_neg h];have HB2 : Hid (Calls Tryz.prog 27 #[.slice A a.length c, .slice A' b.length c'] (w.alloc (.cells #[.slice A' b.length c'] 23)) fun e w' => e = .returned (iv (errOf a b)) ∧ Below (w.alloc (.cells #[.slice A' b.length c'] 23)).heap.size (w.alloc (.cells #[.slice A' b.length c'] 23)) w') := lH HB.out;clear HB;obtain ⟨r, hr⟩ : ∃ r, r = errOf a b := ⟨_, rfl⟩;rw [← hr] at HB2 h;rw [← hr];have hne : (r != 0) = true := by simpa using h
  clear hr h
  go_enter Tryz.func44, Tryz.ntmps44
  go_wp2_with (go_at_call 27; refine HB2.out.mono ?_; rintro e w1 ⟨rfl, hb1⟩)
  go_ret2;exact ⟨rfl, hb0.next hb1 nL⟩
end Fl
end
section
open Go.RowKit
theorem wpMakeCap {α : Type} (E : Enc α) {P : Program} {t e : TypeId} (hT : SlTy P t e E.sz) {ops : Array Oper} {rest : List Oper} {o : Oper} {a : Act} {Q : Exit → Act → World → Prop} {w : World}
  (hgd : o.guard = none) (l c : Operand) (ho : o.op = .makeSlice t l c) (n m : Nat) (hl : a.eval l = iv n) (hc : a.eval c = iv m) (hnm : n ≤ m) (hm : m ≤ big)
  (h : ∀ w' cs, cs.size = m * E.sz → Blk w' w.heap.size e cs → Below w.heap.size w w' → w'.heap.size = w.heap.size + 1 → wpList P ops Q rest (a.put o.dst (.slice (some ⟨w.heap.size, 0, none⟩) n m)) w') :
  wpList P ops Q (o :: rest) a w := by
 obtain ⟨i, z, hi, hz, hsz, hby, hzc⟩ := hT.info;unfold big at hm
 have hb' : (i.bytes : Int) * (m : Int) ≤ 281474976710656 := by
  have h1 := Nat.mul_le_mul hby hm;have h : ((i.bytes * m : Nat) : Int) ≤ 281474976710656 := (by omega)
  rwa [Int.natCast_mul] at h
 have hr := run_make (P := P) w t e i z hT.ht hi hz .i64 .i64 n m (by omega) (by omega) hb' (by omega);simp only [Int.toNat_natCast] at hr;refine wpList_plain hgd fun K hK' => ?_
 unfold Oper.wp;simp [execOp, ho, hl, hc, hr, Result.andThen];exact hK' _ _ (h _ _ (by rw [size_madeCells, hsz]) (Blk.new _ _ _) (rB.alloc nL _) (by simp))
theorem run_copyE {α : Type} (E : Enc α) {P : Program} {t e ty : TypeId} (hT : SlTy P t e E.sz) {w : World} {g : Nat} {cur : Array Value} (hB : Blk w g e cur) {A : Option Addr} {ys : List α} (hs : Sl E w A ys) (dl dc c k : Nat)
  (hk : k = Nat.min ys.length dl) (hfit : k * E.sz ≤ cur.size) :
  ∃ w2, (Builtin.copy_ #[t, t] ty #[.slice (some ⟨g, 0, none⟩) dl dc, .slice A ys.length c]).run P w = .ok (iv k) w2 ∧ Blk w2 g e ((ys.take k).flatMap E.cells ++ cur.toList.drop (k * E.sz)).toArray ∧ Below g w w2 := by
 obtain ⟨i, z, hi, hz, hsz, hby, hzc⟩ := hT.info
 by_cases h0 : k = 0
 ·refine ⟨w, ?_, ?_, rB⟩
  ·cases A with
   | none => simp [Builtin.copy_, run_underlying hT.ht, Builtin.lenOf, Builtin.firstCells, sizeOf, typeInfo, hi, ← hk, h0, storeCells]; rfl
   | some ad => simp [Builtin.copy_, run_underlying hT.ht, Builtin.lenOf, Builtin.firstCells, sizeOf, typeInfo, hi, ← hk, h0, storeCells]; rfl
  ·simp [h0]; exact hB
 ·have hys : ys ≠ [] := by
   rintro rfl;simp at hk;omega
  obtain ⟨b, off, rfl, hb, hc⟩ := hs hys;have hkl : k ≤ ys.length := by rw [hk]; exact Nat.min_le_left _ _
  have hlen : ((ys.take k).flatMap E.cells).length = k * E.sz := by rw [flat_length, List.length_take, Nat.min_eq_left hkl]
  have hl := run_loadCells_list (P := P) w ⟨b, off, none⟩ ((ys.take k).flatMap E.cells) fun j u hu => by
   obtain ⟨q, y, q', rfl, hq, hu⟩ := flat_inv E _ j u hu;rw [Addr.add_lit, ← Nat.add_assoc];refine hc q y ?_ q' u hu;rw [List.getElem?_take] at hq
   split at hq
   ·exact hq
   ·cases hq
  have hst := run_storeCells_at P g 0 e ((ys.take k).flatMap E.cells) 0 cur w hB (by simpa [hlen] using hfit) fun u hu => by
   obtain ⟨y, _, hu⟩ := List.mem_flatMap.1 hu;exact E.one y u hu
  simp only [Nat.zero_add, Nat.add_zero, List.take_zero, List.nil_append, hlen] at hst hl;refine ⟨w.setRow g ((ys.take k).flatMap E.cells ++ cur.toList.drop (k * E.sz)).toArray, ?_, setRow_heap w g cur _ e (0, 0) hB, below_setRow (Below.refl g w) nL _⟩;simp only [Builtin.copy_, run_underlying hT.ht, Builtin.lenOf, Builtin.firstCells, sizeOf, typeInfo, hi, hsz, ← hk];simp [hl, hst, Builtin.firstCells, run_underlying hT.ht, sizeOf, typeInfo, Builtin.lenOf, hi, hsz, ← hk, Result.andThen, goInt]
theorem wpCopyE {α : Type} (E : Enc α) {P : Program} {t e : TypeId} (hT : SlTy P t e E.sz) {ops : Array Oper} {rest : List Oper} {o : Oper} {a : Act} {Q : Exit → Act → World → Prop} {w : World}
  (hgd : o.guard = none) (d s : Operand) (ho : o.op = .call { callee := .builtin .copy, args := #[d, s], argTypes := #[t, t] }) {g : Nat} {cur : Array Value} (hB : Blk w g e cur) {A : Option Addr} {ys : List α} (hs : Sl E w A ys) (dl dc c k : Nat)
  (hd : a.eval d = .slice (some ⟨g, 0, none⟩) dl dc) (hse : a.eval s = .slice A ys.length c) (hk : k = Nat.min ys.length dl) (hfit : k * E.sz ≤ cur.size)
  (h : ∀ w', Blk w' g e ((ys.take k).flatMap E.cells ++ cur.toList.drop (k * E.sz)).toArray → Below g w w' → wpList P ops Q rest (a.put o.dst (iv k)) w') : wpList P ops Q (o :: rest) a w := by
 obtain ⟨w2, hr, hB2, hb2⟩ := run_copyE E (ty := o.type) hT hB hs dl dc c k hk hfit;refine wpList_plain hgd fun K hK => ?_
 unfold Oper.wp;simp [execOp, ho, resolve, invoke, builtin, hd, hse, hr, Result.andThen];exact hK _ _ (h w2 hB2 hb2)
theorem Own.ofHead {α : Type} {E : Enc α} {e : TypeId} {B : Nat} {w : World} {g n m : Nat} {xs : List α} {rest : List Value} (h : Blk w g e (xs.flatMap E.cells ++ rest).toArray) (hB : B ≤ g) (hn : xs.length = n) (hnm : n ≤ m) (hm : m ≤ maxLen) (hr : n * E.sz + rest.length = m * E.sz) :
  Own E e B w (.slice (some ⟨g, 0, none⟩) n m) xs := by
 subst hn;exact ⟨flat_length E xs, .inr ⟨g, m, _, rfl, hB, h, hnm, hm, by rw [List.size_toArray, List.length_append, flat_length, hr], by simp [← flat_length E xs]⟩⟩
theorem stepAppA {α : Type} (E : Enc α) {P : Program} {t e : TypeId} (hT : SlTy P t e E.sz) {ops : Array Oper} {o : Oper} {a : Act} {K : Act → World → Prop} {Q : Exit → Act → World → Prop} {E' : Prop} {w : World}
  (hgd : o.guard = none) (s x : Operand) (ho : o.op = .call { callee := .builtin .append, args := #[s, x], argTypes := #[t, t] })
  {B : Nat} {v : Value} {xs : List α} (hown : Own E e B w v xs) {A : Option Addr} {n c : Nat} {ys : List α} (hy : Sl E w A ys) (hyn : n = ys.length) (hs : a.eval s = v) (hx : a.eval x = .slice A n c)
  (hB : B ≤ w.heap.size) (hn : xs.length + ys.length ≤ big)
  (h : ∀ v' w', Own E e B w' v' (xs ++ ys) → Below B w w' → (∀ b, b < w.heap.size → v.ownBlock ≠ some b → w'.heap[b]? = w.heap[b]?) → K (a.put o.dst v') w') :
  if Region.wanted o (yielded ops a.tmps) = true then Oper.wp P o a w K Q else E' := by
 subst hyn;have hw : Region.wanted o (yielded ops a.tmps) = true := by simp [Region.wanted, hgd]
 rw [if_pos hw];obtain ⟨i, z, hi, hz, hsz, hby, hzc⟩ := hT.info;unfold big at hn;have hlt := Own.lt hown
 cases A with
 | none =>
  have hys : ys = [] := by
   by_cases h0 : ys = []
   ·exact h0
   ·obtain ⟨b, off, hA, _⟩ := hy h0
    cases hA
  subst hys
  have hrun : (Builtin.append_ #[t, t] o.type #[v, .slice none 0 c]).run P w = .ok v w := by
   rcases hown.2 with ⟨rfl, hn'⟩ | ⟨g, cap, cur, rfl, _, _, hnc, _⟩
   ·simp [Builtin.append_, run_underlying hT.ht, sizeOf, typeInfo, hi, Builtin.lenOf, Builtin.firstCells]
   ·simp [Builtin.append_, run_underlying hT.ht, sizeOf, typeInfo, hi, Builtin.lenOf, Builtin.firstCells, hnc, storeCells]
  simp only [List.length_nil] at hx;unfold Oper.wp;simp [execOp, ho, resolve, invoke, builtin, hs, hx, hrun, Result.andThen];exact h v w (by simpa using hown) rB fun _ _ _ => rfl
 | some ad =>
  refine wp_append_own w s x t ho B e i z E.sz i.bytes hT.ht hi hz hsz rfl hzc E.pos v xs.length (xs.flatMap E.cells) hs hown
   ad ys.length c (ys.flatMap E.cells) hx (flat_length E ys) ?_ ?_ (by unfold maxLen; omega) (by have := Nat.mul_le_mul hn hby; omega) hB ?_
  ·intro j u hu;obtain ⟨k, y, k', rfl, hk, hu⟩ := flat_inv E ys j u hu;obtain ⟨b, off, hA, _, hc⟩ := hy (by intro e; subst e; simp at hk);injection hA with hA;subst hA;rw [Addr.add_lit];rw [← Nat.add_assoc];exact hc k y hk k' u hu
  ·intro u hu;obtain ⟨y, _, hu⟩ := List.mem_flatMap.1 hu;exact E.one y u hu
  ·intro v' w' hown' hg _;exact h v' w' (by unfold Own; simpa using hown') ((Below.refl B w).grown hg hB fun k hk => (hlt k hk).1) fun b hb hv => hg.block b hb (fun e => hv e.symm)
end
section
namespace Fl
open Go.RowKit Go.ChangeShapes
theorem drop_cut {f : List ByteArray} (i : Nat) : f.drop i = File.cut f i f.length := by
 unfold File.cut;rw [List.take_of_length_le (by rw [List.length_drop]; exact Nat.le_refl _)]
set_option maxHeartbeats 4000000 in
theorem made_spec (A : Option Addr) (f : List ByteArray) (c k : Nat) (B : Option Addr) (o d : Nat) (B' : Option Addr) (new : List ByteArray) (d' : Nat) (w : World) (hf : f.length ≤ 100000) (hn : new.length ≤ 100000) (hk : k + o ≤ f.length) (hc : f.length ≤ c)
  (hs : Sl strE w A f) (hs' : Sl strE w B' new) :
  Calls Tryz.prog 106 #[.slice A f.length c, .agg #[iv (k : Int), .slice B o d, .slice B' new.length d']] w fun e w' => ∃ v, e = .returned v ∧ Own strE 9 w.heap.size w' v (f.take k ++ (new ++ f.drop (k + o))) ∧ Below w.heap.size w w' := by
 have e1 : IntKind.i64.wrap ((f.length : Int) + (new.length : Int)) = ((f.length + new.length : Nat) : Int) := IntWalk.i64_in _ (by omega);have e2 : IntKind.i64.wrap ((k : Int) + (o : Int)) = ((k + o : Nat) : Int) := IntWalk.i64_in _ (by omega);have RC : ∀ W : World, (Instr.slice 23 (.slice A f.length c) (some (iv ((k + o : Nat) : Int))) none none).run Tryz.prog W = .ok (.slice (cutA A c (k + o) 1) (f.length - (k + o)) (c - (k + o))) W := run_cutFrom strE tyStrs A f.length c (k + o) hk;have hdl : (f.drop (k + o)).length = f.length - (k + o) := List.length_drop;have HDL := lH hdl
 have HSD : Hid (Sl strE w (cutA A c (k + o) 1) (f.drop (k + o))) := lH (by
  rw [drop_cut];exact Sl.cut hs hc hk nL)
 generalize cutA A c (k + o) 1 = X at RC HSD;generalize f.length - (k + o) = m3 at RC HDL;generalize c - (k + o) = n3 at RC;have HKO : Hid (∃ q, q = k + o) := lH ⟨_, rfl⟩;obtain ⟨q, hq⟩ := HKO.out;rw [← hq] at e2 RC HSD HDL hdl ⊢;have hkq : k ≤ f.length := (by omega);have HQ := lH hq;clear hq hk
 go_enter Tryz.func106, Tryz.ntmps106
 go_upto_region 1 with fail
 have hM : Blk (w.alloc (.cells #[iv (k : Int), .slice B o d, .slice B' new.length d'] 36)) w.heap.size 36 #[iv (k : Int), .slice B o d, .slice B' new.length d'] := Blk.new _ _ _;have hb1 : Below w.heap.size w (w.alloc (.cells #[iv (k : Int), .slice B o d, .slice B' new.length d'] 36)) := rB.alloc nL _;generalize w.alloc (.cells #[iv (k : Int), .slice B o d, .slice B' new.length d'] 36) = w1 at *;have m1 := hM.cell;have l1 := hM.lt
 go_upto_region 3 with (first
  | (at_make; refine wpMakeCap strE tyStrs rfl _ _ rfl k (f.length + new.length) rfl (by first | rfl | exact congrArg iv e1) (by omega) (by unfold big; omega) ?_; intro w3 cs hcs hB3 hb3 hz3; have hM3 := hM.under hb3; have m3 := hM3.cell; have l3 := hM3.lt)
  | (refine wpCopyE strE tyStrs rfl _ _ rfl hB3 (hs.below (hb1.next hb3 nL)) k (f.length + new.length) c k rfl rfl (by simp [Nat.min_def]; omega) (by rw [hcs]; exact Nat.mul_le_mul_right _ (by omega)) ?_; intro w4 hB4 hb4))
 have hb14 : Below w1.heap.size w1 w4 := hb3.trans hb4;have hM4 := hM.under hb14
 have hO4 : Own strE 9 w1.heap.size w4 (.slice (some ⟨w1.heap.size, 0, none⟩) k (f.length + new.length)) (f.take k) := Own.ofHead (n := k) (m := f.length + new.length) hB4 nL (by rw [List.length_take]; omega) (by omega) (by unfold maxLen; omega) (by
  have hz : strE.sz = 1 := rfl;simp only [List.length_drop, Array.length_toList, hcs, hz]; omega)
 have HO4 := lH (hO4.below (Below.refl w4.heap.size w4).drew);have HS0 : Hid (∀ z : World, Below w1.heap.size w4 z → Below w1.heap.size w4 z ∧ (z.cell? ⟨w.heap.size, 0, none⟩ = some (iv (k : Int)) ∧ z.cell? ⟨w.heap.size, 1, none⟩ = some (.slice B o d) ∧ z.cell? ⟨w.heap.size, 2, none⟩ = some (.slice B' new.length d'))) := lH fun z h => ⟨h, (hM4.below h l1).cell 0, (hM4.below h l1).cell 1, (hM4.below h l1).cell 2⟩
 have HK0 := lH (HS0.out w4.drew rB.drew);have HN : Hid (∀ z : World, Below w1.heap.size w4 z → Sl strE z B' new) := lH fun z h => hs'.below ((hb1.next hb14 nL).trans (h.mono hb1.size))
 have HD : Hid (∀ z : World, Below w1.heap.size w4 z → Sl strE z X (f.drop q)) := lH fun z h => HSD.out.below ((hb1.next hb14 nL).trans (h.mono hb1.size))
 have HZ4 := lH hb14.size;have HTK : Hid ((f.take k).length = k) := lH (by rw [List.length_take]; omega);have HB04 := lH (hb1.next hb14 nL);have HBZ := lH hb1.size;have HX0 := lH (Below.refl w1.heap.size w4).drew;have HBG : Hid ((f.take k).length + new.length ≤ big) := lH (by rw [HTK.out]; unfold big; omega);have HBG2 : Hid ((f.take k ++ new).length + (f.drop q).length ≤ big) := lH (by rw [List.length_append, HTK.out, List.length_drop]; unfold big; omega);clear hM m1 hB3 hb3 hz3 hM3 m3 l3 hB4 hb4 hb14 hM4 hO4 hcs hb1 HSD hs hs' hdl
 go_region_held3 (fun z => Below w1.heap.size w4 z ∧ (z.cell? ⟨w.heap.size, 0, none⟩ = some (iv (k : Int)) ∧ z.cell? ⟨w.heap.size, 1, none⟩ = some (.slice B o d) ∧ z.cell? ⟨w.heap.size, 2, none⟩ = some (.slice B' new.length d')))
  (first | with_reducible assumption | exact HK0.out | exact HS0.out _ HX2.out | exact HS0.out _ HX1.out)
  (first
   | (refine stepAppA strE tyStrs (by rfl) _ _ (by rfl) HO4.out (HN.out _ HX0.out) rfl (by rfl) (by rfl) HZ4.out HBG.out ?_; intro v1 x1 ho1 hbx1 _; have HX1 := lH (HX0.out.trans hbx1); have HO1 := lH ho1; have HZ1 := lH (Nat.le_trans HZ4.out HX1.out.size); clear ho1 hbx1)
   | (refine stepAppA strE tyStrs (by rfl) _ _ (by rfl) HO1.out (HD.out _ HX1.out) HDL.out.symm (by rfl) (by rfl) HZ1.out HBG2.out ?_; intro v2 x2 ho2 hbx2 _; have HX2 := lH (HX1.out.trans hbx2); have HO2 := lH ho2; clear ho2 hbx2))
 all_goals
  (go_wp2_with fail);go_ret;exact ⟨_, rfl, by rw [← List.append_assoc]; exact HO2.out.base HBZ.out, HB04.out.trans (HX2.out.mono HBZ.out)⟩
end Fl
end
section
namespace Fl
open Go.RowKit Go.ChangeShapes
structure EdV where
 at_ : Int
 A : Option Addr
 c : Nat
 old : List ByteArray
 A' : Option Addr
 c' : Nat
 new : List ByteArray
def EdV.ed (r : EdV) : File.Edit ByteArray := ⟨r.at_, r.old, r.new⟩
def EdV.v (r : EdV) : Value := .agg #[iv r.at_, .slice r.A r.old.length r.c, .slice r.A' r.new.length r.c']
def edE : Enc EdV := ⟨fun r => [iv r.at_, .slice r.A r.old.length r.c, .slice r.A' r.new.length r.c'], 3, fun _ => rfl, fun _ u h => by simp at h; rcases h with rfl | rfl | rfl <;> rfl, by decide⟩
structure EdOk (w : World) (r : EdV) : Prop where
 old : Sl strE w r.A r.old
 new : Sl strE w r.A' r.new
 oc : r.old.length ≤ r.c
 nc : r.new.length ≤ r.c'
theorem EdOk.below {w w' : World} {r : EdV} (h : EdOk w r) (hb : Below w.heap.size w w') : EdOk w' r := ⟨h.old.below hb, h.new.below hb, h.oc, h.nc⟩
theorem eds_of {B : Nat} {w : World} : ∀ {rs : List RawEd} {xs : List (File.Edit ByteArray)}, EdsR B w rs xs → ∃ vs : List EdV, vs.map EdV.ed = xs ∧ (∀ r ∈ vs, EdOk w r) ∧ vs.flatMap edE.cells = rs.flatMap rawE.cells ∧ vs.length = rs.length
 | [], [], _ => ⟨[], rfl, fun _ h => (by cases h), rfl, rfl⟩
 | r :: rs, x :: xs, ⟨h, h2⟩ => by
  obtain ⟨vs, k1, k2, k3, k4⟩ := eds_of h2;obtain ⟨p1, p2, p3, p4, p5⟩ := h;obtain ⟨a, A, n, c, A', n', c'⟩ := r;obtain ⟨xa, xo, xn⟩ := x;simp only at p1 p2 p3 p4 p5;subst p1 p2 p3;obtain ⟨_, _, e1, c1, _⟩ := p4.form;obtain ⟨_, _, e2, c2, _⟩ := p5.form;injection e1 with _ _ e1;injection e2 with _ _ e2;subst e1 e2;refine ⟨⟨a, A, c, xo, A', c', xn⟩ :: vs, by simp [EdV.ed, k1], fun r hr => ?_, by rw [List.flatMap_cons, List.flatMap_cons, k3]; rfl, by simp [k4]⟩
  rcases List.mem_cons.1 hr with rfl | hr
  ·exact ⟨p4.sl, p5.sl, c1, c2⟩
  ·exact k2 r hr
theorem own_eds {e : TypeId} {B : Nat} {w : World} {v : Value} {rs : List RawEd} {vs : List EdV} (h : Own rawE e B w v rs) (hc : vs.flatMap edE.cells = rs.flatMap rawE.cells) (hl : vs.length = rs.length) : Own edE e B w v vs := by
 unfold Own at h ⊢;rw [hc, hl];exact h
theorem tyEds : SlTy Tryz.prog 32 36 3 := tyEdits
theorem Sl.atEd {w : World} {A : Option Addr} {vs : List EdV} {k : Nat} (h : Sl edE w A vs) (hk : k < vs.length) :
  ∃ b off x, A = some ⟨b, off, none⟩ ∧ b < w.heap.size ∧ vs[k]? = some x ∧ w.cell? ⟨b, off + k * 3, none⟩ = some (iv x.at_) ∧ w.cell? ⟨b, off + k * 3 + 1, none⟩ = some (.slice x.A x.old.length x.c) ∧ w.cell? ⟨b, off + k * 3 + 2, none⟩ = some (.slice x.A' x.new.length x.c') := by
 obtain ⟨b, off, x, hA, hb, hx, hc⟩ := h.at_ hk;exact ⟨b, off, x, hA, hb, hx, by simpa [edE] using hc 0 (iv x.at_) rfl, by simpa [edE] using hc 1 _ rfl, by simpa [edE] using hc 2 _ rfl⟩
structure SmallC (xs : List (File.Edit ByteArray)) : Prop where
 many : xs.length ≤ 25
 old : ∀ x ∈ xs, x.old.length ≤ 24
 new : ∀ x ∈ xs, x.new.length ≤ 24
set_option maxHeartbeats 4000000 in
theorem has0_spec (lo hi : Nat) (A1 : Option Addr) (n1 c1 : Nat) (A : Option Addr) (base : List ByteArray) (c : Nat) (vs : List EdV) (C : Option Addr) (cc : Nat) (w : World) (hm : base.length ≤ 24) (hc : base.length ≤ c) (hlo : lo ≤ hi) (hhi : hi ≤ base.length)
  (hsm : SmallC (vs.map EdV.ed)) (hch : File.Chain lo (vs.map EdV.ed)) (hwi : File.Within hi (vs.map EdV.ed)) (hs : Sl strE w A base) (hv : Sl edE w C vs) (hok : ∀ r ∈ vs, EdOk w r) :
  Calls Tryz.prog 116 #[.agg #[iv (lo : Int), iv (hi : Int), .slice C vs.length cc, .slice A1 n1 c1], .slice A base.length c, iv 0] w fun e w' => ∃ v, e = .returned v ∧ Own strE 9 w.heap.size w' v (File.hasGo base hi lo (vs.map EdV.ed)) ∧ Below w.heap.size w w' := by
 have hb1 : Below w.heap.size w (w.alloc (.cells #[iv (lo : Int), iv (hi : Int), .slice C vs.length cc, .slice A1 n1 c1] 163)) := rB.alloc nL _;have hM : Blk (w.alloc (.cells #[iv (lo : Int), iv (hi : Int), .slice C vs.length cc, .slice A1 n1 c1] 163)) w.heap.size 163 #[iv (lo : Int), iv (hi : Int), .slice C vs.length cc, .slice A1 n1 c1] := Blk.new _ _ _
 have HCL : Hid (∀ W, Below w.heap.size w W → Calls Tryz.prog 19 #[.slice (cutA A c lo 1) (hi - lo) (c - lo)] W fun e w' => ∃ v, e = .returned v ∧ Own strE 9 W.heap.size w' v (File.cut base lo hi) ∧ Below W.heap.size W w') := lH fun W hW => by
  have h1 : (File.cut base lo hi).length = hi - lo := File.cut_length hhi hlo;have := cloneS (cutA A c lo 1) (File.cut base lo hi) (c - lo) W (by rw [h1]; unfold big; omega) (Sl.cut (hs.below hW) hc hlo hhi);rw [h1] at this;exact this
 have RC : ∀ W : World, (Instr.slice 23 (.slice A base.length c) (some (iv (lo : Int))) (some (iv (hi : Int))) none).run Tryz.prog W = .ok (.slice (cutA A c lo 1) (hi - lo) (c - lo)) W := run_cut strE tyStrs A base.length c lo hi hlo (Nat.le_trans hhi hc);generalize cutA A c lo 1 = X1 at RC HCL;generalize hi - lo = m3 at RC HCL;generalize c - lo = n3 at RC HCL;have hvl : vs.length ≤ 25 := by have := hsm.many; rwa [List.length_map] at this
 have e1 : IntKind.i64.wrap ((vs.length : Int) - 1) = (vs.length : Int) - 1 := IntWalk.i64_in _ (by omega);have HV := lH hv;have m1 := hM.cell;have l1 := hM.lt
 have HLB : Hid (∀ p, (File.hasGo base hi lo ((vs.map EdV.ed).drop p)).length ≤ 100000) := lH fun p => by
  have h1 := File.hasGo_len (base := base) (hi := hi) (M := 24) (c := (vs.map EdV.ed).drop p) (at_ := lo) fun x hx => hsm.new x (List.mem_of_mem_drop hx)
  have h2 : ((vs.map EdV.ed).drop p).length ≤ 25 := by rw [List.length_drop, List.length_map]; omega
  have h3 : ((vs.map EdV.ed).drop p).length * (base.length + 24) ≤ 25 * 48 := Nat.mul_le_mul h2 (by omega);omega
 go_enter Tryz.func116, Tryz.ntmps116
 go_upto_region 1 with fail
 generalize w.alloc (.cells #[iv (lo : Int), iv (hi : Int), .slice C vs.length cc, .slice A1 n1 c1] 163) = w1 at *
 go_wp2_with (go_at_call 19; refine (HCL.out _ hb1).mono ?_; rintro e w2 ⟨v, rfl, ho2, hb2⟩; have hM2 := hM.under hb2; have m2 := hM2.cell; have l2 := hM2.lt)
 have hb02 := hb1.next hb2 nL
 go_loopw [7, 8] (fun u q wr => ∃ (p : Nat), p ≤ vs.length ∧ q = iv ((p : Int) - 1) ∧ Hid (Own strE 9 w.heap.size wr u (File.hasGo base hi lo ((vs.map EdV.ed).drop p))) ∧ Below w2.heap.size w2 wr) (fun _ q _ => (intOf q + 1).toNat)
 case atStart => exact ⟨vs.length, Nat.le_refl _, rfl, by rw [List.drop_of_length_le (by rw [List.length_map]; exact Nat.le_refl _)]; exact ho2.base hb1.size, rB⟩
 case round =>
  obtain ⟨p, hp, rfl, HO, hbr⟩ := hrel;have hMr := hM2.under hbr;have b0 := hMr.cell 0;have b1 := hMr.cell 1;have b2 := hMr.cell 2;have b3 := hMr.cell 3;have lr := hMr.lt
  by_cases hlt : 0 < p
  ·obtain ⟨q, rfl⟩ : ∃ q, p = q + 1 := ⟨p - 1, by omega⟩;have hqi : (0 : Int) ≤ (q : Int) := (by omega);have e2 : ((q + 1 : Nat) : Int) - 1 = (q : Int) := (by omega);have hql : (q : Int) < (vs.length : Int) := (by omega);rw [e2];obtain ⟨bx, ox, x, hC, hbx, hx, hc0, hc1, hc2⟩ := Sl.atEd (HV.out.below (hb02.next hbr nL)) (show q < vs.length by omega);subst hC;have hxm := mem_at hx;have hd : (vs.map EdV.ed).drop q = x.ed :: (vs.map EdV.ed).drop (q + 1) := drop_at (by rw [List.getElem?_map, hx]; rfl);have hsp : vs.map EdV.ed = (vs.map EdV.ed).take q ++ x.ed :: (vs.map EdV.ed).drop (q + 1) := by rw [← hd, List.take_append_drop]
   have hch2 := hch;rw [hsp] at hch2;obtain ⟨k1, k2⟩ := File.Chain.suf hch2;have hmem : x.ed ∈ vs.map EdV.ed := List.mem_map_of_mem hxm;have hmade := File.made_has (base := base) k1 k2.2 (fun y hy => hwi y (List.mem_of_mem_drop hy)) (hwi _ hmem) hhi;have hlo2 : x.at_ - (lo : Int) = ((x.at_.toNat - lo : Nat) : Int) := by have : (lo : Int) ≤ x.at_ := k1; omega
   have hmd : File.hasGo base hi lo ((vs.map EdV.ed).drop q) = (File.hasGo base hi lo ((vs.map EdV.ed).drop (q + 1))).take (x.at_.toNat - lo) ++ (x.new ++ (File.hasGo base hi lo ((vs.map EdV.ed).drop (q + 1))).drop (x.at_.toNat - lo + x.old.length)) := by
    rw [hd, ← hmade.2];have e3 : (x.ed.at_ - (lo : Int)).toNat = x.at_.toNat - lo := by show (x.at_ - (lo : Int)).toNat = _; omega
    unfold File.made;simp only [e3];rfl
   have hfit : x.at_.toNat - lo + x.old.length ≤ (File.hasGo base hi lo ((vs.map EdV.ed).drop (q + 1))).length := by
    have h1 := hmade.1;have : x.ed.hi = x.at_.toNat + x.old.length := rfl;have : (lo : Int) ≤ x.at_ := k1;omega
   have hat : x.at_.toNat ≤ 24 := by
    have h1 : x.ed.hi ≤ hi := hwi _ hmem;have : x.ed.hi = x.at_.toNat + x.old.length := rfl;omega
   have hpos : 0 ≤ x.at_ := by have : (lo : Int) ≤ x.at_ := k1; omega
   have hnew : x.new.length ≤ 24 := hsm.new _ hmem;have HOK := lH (hok x hxm);have HMD := lH hmd;have HFIT := lH hfit;have HOut := HO.out;obtain ⟨Y, hY⟩ : ∃ Y, Y = File.hasGo base hi lo ((vs.map EdV.ed).drop (q + 1)) := ⟨_, rfl⟩;rw [← hY] at HMD HFIT HOut;have HYL : Y.length ≤ 100000 := by rw [hY]; exact HLB.out _
   obtain ⟨Yv, cy, rfl, hcy, _⟩ := HOut.form;have e3 : IntKind.i64.wrap (x.at_ - (lo : Int)) = ((x.at_.toNat - lo : Nat) : Int) := by rw [← hlo2]; exact IntWalk.i64_in _ (by omega)
   have HOO := lH HOut;have e4 : IntKind.i64.wrap ((q : Int) - 1) = (q : Int) - 1 := IntWalk.i64_in _ (by omega);generalize x.at_.toNat - lo = kk at e3 HMD HFIT;clear hx hd hsp hch2 k1 k2 hmade hmd hfit HO HOut hmem hxm hY hlo2
   go_upto_region 6 with fail
   have hNb : Below wr.heap.size wr (wr.alloc (.cells #[iv x.at_, .slice x.A x.old.length x.c, .slice x.A' x.new.length x.c'] 36)) := rB.alloc nL _;have hNx : Blk (wr.alloc (.cells #[iv x.at_, .slice x.A x.old.length x.c, .slice x.A' x.new.length x.c'] 36)) wr.heap.size 36 #[iv x.at_, .slice x.A x.old.length x.c, .slice x.A' x.new.length x.c'] := Blk.new _ _ _;generalize wr.alloc (.cells #[iv x.at_, .slice x.A x.old.length x.c, .slice x.A' x.new.length x.c'] 36) = wN at *;have n0 := hNx.cell 0;have n1 := hNx.cell 1;have n2 := hNx.cell 2;have nl := hNx.lt;have nf := hNx.frozen 0;have hMN := hMr.under hNb;have a0 := hMN.cell 0
   go_upto_region 7 with fail
   have hNs := hNx.set_ 0 (iv (kk : Int));have hbS : Below wr.heap.size wr (wN.setCell ⟨wr.heap.size, 0, none⟩ (iv (kk : Int))) := hNb.setCell (p := ⟨wr.heap.size, 0, none⟩) nL _;generalize wN.setCell ⟨wr.heap.size, 0, none⟩ (iv (kk : Int)) = wS at *;have s0 := hNs.cell 0;have s1 := hNs.cell 1;have s2 := hNs.cell 2;have sl := hNs.lt;have hb2S : Below w2.heap.size w2 wS := hbr.next hbS nL;have HMS := lH (made_spec Yv Y cy kk x.A x.old.length x.c x.A' x.new x.c' wS HYL (by omega) HFIT.out hcy (Sl.below HOO.out.sl hbS) (HOK.out.new.below (hb02.next hb2S nL)));clear n0 n1 n2 nf a0 hMN hNx hNb hNs hbS
   go_wp2_with (go_at_call 106; refine HMS.out.mono ?_; rintro e w5 ⟨v5, rfl, ho5, hb5⟩)
   go_roundw
   case rel => exact ⟨q, by omega, rfl, by rw [HMD.out]; exact ho5.base (hb02.next hb2S nL).size, hb2S.next hb5 nL⟩
   case measure => simp [intOf]
  ·obtain rfl : p = 0 := by omega
   (go_wp2_with fail);go_ret;exact ⟨_, rfl, HO.out, hb02.next hbr nL⟩
set_option maxHeartbeats 4000000 in
theorem has1_spec (lo hi : Nat) (A0 : Option Addr) (n0 c0 : Nat) (A : Option Addr) (base : List ByteArray) (c : Nat) (vs : List EdV) (C : Option Addr) (cc : Nat) (w : World) (hm : base.length ≤ 24) (hc : base.length ≤ c) (hlo : lo ≤ hi) (hhi : hi ≤ base.length)
  (hsm : SmallC (vs.map EdV.ed)) (hch : File.Chain lo (vs.map EdV.ed)) (hwi : File.Within hi (vs.map EdV.ed)) (hs : Sl strE w A base) (hv : Sl edE w C vs) (hok : ∀ r ∈ vs, EdOk w r) :
  Calls Tryz.prog 116 #[.agg #[iv (lo : Int), iv (hi : Int), .slice A0 n0 c0, .slice C vs.length cc], .slice A base.length c, iv 1] w fun e w' => ∃ v, e = .returned v ∧ Own strE 9 w.heap.size w' v (File.hasGo base hi lo (vs.map EdV.ed)) ∧ Below w.heap.size w w' := by
 have hb1 : Below w.heap.size w (w.alloc (.cells #[iv (lo : Int), iv (hi : Int), .slice A0 n0 c0, .slice C vs.length cc] 163)) := rB.alloc nL _;have hM : Blk (w.alloc (.cells #[iv (lo : Int), iv (hi : Int), .slice A0 n0 c0, .slice C vs.length cc] 163)) w.heap.size 163 #[iv (lo : Int), iv (hi : Int), .slice A0 n0 c0, .slice C vs.length cc] := Blk.new _ _ _
 have HCL : Hid (∀ W, Below w.heap.size w W → Calls Tryz.prog 19 #[.slice (cutA A c lo 1) (hi - lo) (c - lo)] W fun e w' => ∃ v, e = .returned v ∧ Own strE 9 W.heap.size w' v (File.cut base lo hi) ∧ Below W.heap.size W w') := lH fun W hW => by
  have h1 : (File.cut base lo hi).length = hi - lo := File.cut_length hhi hlo;have := cloneS (cutA A c lo 1) (File.cut base lo hi) (c - lo) W (by rw [h1]; unfold big; omega) (Sl.cut (hs.below hW) hc hlo hhi);rw [h1] at this;exact this
 have RC : ∀ W : World, (Instr.slice 23 (.slice A base.length c) (some (iv (lo : Int))) (some (iv (hi : Int))) none).run Tryz.prog W = .ok (.slice (cutA A c lo 1) (hi - lo) (c - lo)) W := run_cut strE tyStrs A base.length c lo hi hlo (Nat.le_trans hhi hc);generalize cutA A c lo 1 = X1 at RC HCL;generalize hi - lo = m3 at RC HCL;generalize c - lo = n3 at RC HCL;have hvl : vs.length ≤ 25 := by have := hsm.many; rwa [List.length_map] at this
 have e1 : IntKind.i64.wrap ((vs.length : Int) - 1) = (vs.length : Int) - 1 := IntWalk.i64_in _ (by omega);have HV := lH hv;have m1 := hM.cell;have l1 := hM.lt
 have HLB : Hid (∀ p, (File.hasGo base hi lo ((vs.map EdV.ed).drop p)).length ≤ 100000) := lH fun p => by
  have h1 := File.hasGo_len (base := base) (hi := hi) (M := 24) (c := (vs.map EdV.ed).drop p) (at_ := lo) fun x hx => hsm.new x (List.mem_of_mem_drop hx)
  have h2 : ((vs.map EdV.ed).drop p).length ≤ 25 := by rw [List.length_drop, List.length_map]; omega
  have h3 : ((vs.map EdV.ed).drop p).length * (base.length + 24) ≤ 25 * 48 := Nat.mul_le_mul h2 (by omega);omega
 go_enter Tryz.func116, Tryz.ntmps116
 go_upto_region 1 with fail
 generalize w.alloc (.cells #[iv (lo : Int), iv (hi : Int), .slice A0 n0 c0, .slice C vs.length cc] 163) = w1 at *
 go_wp2_with (go_at_call 19; refine (HCL.out _ hb1).mono ?_; rintro e w2 ⟨v, rfl, ho2, hb2⟩; have hM2 := hM.under hb2; have m2 := hM2.cell; have l2 := hM2.lt)
 have hb02 := hb1.next hb2 nL
 go_loopw [7, 8] (fun u q wr => ∃ (p : Nat), p ≤ vs.length ∧ q = iv ((p : Int) - 1) ∧ Hid (Own strE 9 w.heap.size wr u (File.hasGo base hi lo ((vs.map EdV.ed).drop p))) ∧ Below w2.heap.size w2 wr) (fun _ q _ => (intOf q + 1).toNat)
 case atStart => exact ⟨vs.length, Nat.le_refl _, rfl, by rw [List.drop_of_length_le (by rw [List.length_map]; exact Nat.le_refl _)]; exact ho2.base hb1.size, rB⟩
 case round =>
  obtain ⟨p, hp, rfl, HO, hbr⟩ := hrel;have hMr := hM2.under hbr;have b0 := hMr.cell 0;have b1 := hMr.cell 1;have b2 := hMr.cell 2;have b3 := hMr.cell 3;have lr := hMr.lt
  by_cases hlt : 0 < p
  ·obtain ⟨q, rfl⟩ : ∃ q, p = q + 1 := ⟨p - 1, by omega⟩;have hqi : (0 : Int) ≤ (q : Int) := (by omega);have e2 : ((q + 1 : Nat) : Int) - 1 = (q : Int) := (by omega);have hql : (q : Int) < (vs.length : Int) := (by omega);rw [e2];obtain ⟨bx, ox, x, hC, hbx, hx, hc0, hc1, hc2⟩ := Sl.atEd (HV.out.below (hb02.next hbr nL)) (show q < vs.length by omega);subst hC;have hxm := mem_at hx;have hd : (vs.map EdV.ed).drop q = x.ed :: (vs.map EdV.ed).drop (q + 1) := drop_at (by rw [List.getElem?_map, hx]; rfl);have hsp : vs.map EdV.ed = (vs.map EdV.ed).take q ++ x.ed :: (vs.map EdV.ed).drop (q + 1) := by rw [← hd, List.take_append_drop]
   have hch2 := hch;rw [hsp] at hch2;obtain ⟨k1, k2⟩ := File.Chain.suf hch2;have hmem : x.ed ∈ vs.map EdV.ed := List.mem_map_of_mem hxm;have hmade := File.made_has (base := base) k1 k2.2 (fun y hy => hwi y (List.mem_of_mem_drop hy)) (hwi _ hmem) hhi;have hlo2 : x.at_ - (lo : Int) = ((x.at_.toNat - lo : Nat) : Int) := by have : (lo : Int) ≤ x.at_ := k1; omega
   have hmd : File.hasGo base hi lo ((vs.map EdV.ed).drop q) = (File.hasGo base hi lo ((vs.map EdV.ed).drop (q + 1))).take (x.at_.toNat - lo) ++ (x.new ++ (File.hasGo base hi lo ((vs.map EdV.ed).drop (q + 1))).drop (x.at_.toNat - lo + x.old.length)) := by
    rw [hd, ← hmade.2];have e3 : (x.ed.at_ - (lo : Int)).toNat = x.at_.toNat - lo := by show (x.at_ - (lo : Int)).toNat = _; omega
    unfold File.made;simp only [e3];rfl
   have hfit : x.at_.toNat - lo + x.old.length ≤ (File.hasGo base hi lo ((vs.map EdV.ed).drop (q + 1))).length := by
    have h1 := hmade.1;have : x.ed.hi = x.at_.toNat + x.old.length := rfl;have : (lo : Int) ≤ x.at_ := k1;omega
   have hat : x.at_.toNat ≤ 24 := by
    have h1 : x.ed.hi ≤ hi := hwi _ hmem;have : x.ed.hi = x.at_.toNat + x.old.length := rfl;omega
   have hpos : 0 ≤ x.at_ := by have : (lo : Int) ≤ x.at_ := k1; omega
   have hnew : x.new.length ≤ 24 := hsm.new _ hmem;have HOK := lH (hok x hxm);have HMD := lH hmd;have HFIT := lH hfit;have HOut := HO.out;obtain ⟨Y, hY⟩ : ∃ Y, Y = File.hasGo base hi lo ((vs.map EdV.ed).drop (q + 1)) := ⟨_, rfl⟩;rw [← hY] at HMD HFIT HOut;have HYL : Y.length ≤ 100000 := by rw [hY]; exact HLB.out _
   obtain ⟨Yv, cy, rfl, hcy, _⟩ := HOut.form;have e3 : IntKind.i64.wrap (x.at_ - (lo : Int)) = ((x.at_.toNat - lo : Nat) : Int) := by rw [← hlo2]; exact IntWalk.i64_in _ (by omega)
   have HOO := lH HOut;have e4 : IntKind.i64.wrap ((q : Int) - 1) = (q : Int) - 1 := IntWalk.i64_in _ (by omega);generalize x.at_.toNat - lo = kk at e3 HMD HFIT;clear hx hd hsp hch2 k1 k2 hmade hmd hfit HO HOut hmem hxm hY hlo2
   go_upto_region 6 with fail
   have hNb : Below wr.heap.size wr (wr.alloc (.cells #[iv x.at_, .slice x.A x.old.length x.c, .slice x.A' x.new.length x.c'] 36)) := rB.alloc nL _;have hNx : Blk (wr.alloc (.cells #[iv x.at_, .slice x.A x.old.length x.c, .slice x.A' x.new.length x.c'] 36)) wr.heap.size 36 #[iv x.at_, .slice x.A x.old.length x.c, .slice x.A' x.new.length x.c'] := Blk.new _ _ _;generalize wr.alloc (.cells #[iv x.at_, .slice x.A x.old.length x.c, .slice x.A' x.new.length x.c'] 36) = wN at *;have n0 := hNx.cell 0;have n1 := hNx.cell 1;have n2 := hNx.cell 2;have nl := hNx.lt;have nf := hNx.frozen 0;have hMN := hMr.under hNb;have a0 := hMN.cell 0
   go_upto_region 7 with fail
   have hNs := hNx.set_ 0 (iv (kk : Int));have hbS : Below wr.heap.size wr (wN.setCell ⟨wr.heap.size, 0, none⟩ (iv (kk : Int))) := hNb.setCell (p := ⟨wr.heap.size, 0, none⟩) nL _;generalize wN.setCell ⟨wr.heap.size, 0, none⟩ (iv (kk : Int)) = wS at *;have s0 := hNs.cell 0;have s1 := hNs.cell 1;have s2 := hNs.cell 2;have sl := hNs.lt;have hb2S : Below w2.heap.size w2 wS := hbr.next hbS nL;have HMS := lH (made_spec Yv Y cy kk x.A x.old.length x.c x.A' x.new x.c' wS HYL (by omega) HFIT.out hcy (Sl.below HOO.out.sl hbS) (HOK.out.new.below (hb02.next hb2S nL)));clear n0 n1 n2 nf a0 hMN hNx hNb hNs hbS
   go_wp2_with (go_at_call 106; refine HMS.out.mono ?_; rintro e w5 ⟨v5, rfl, ho5, hb5⟩)
   go_roundw
   case rel => exact ⟨q, by omega, rfl, by rw [HMD.out]; exact ho5.base (hb02.next hb2S nL).size, hb2S.next hb5 nL⟩
   case measure => simp [intOf]
  ·obtain rfl : p = 0 := by omega
   (go_wp2_with fail);go_ret;exact ⟨_, rfl, HO.out, hb02.next hbr nL⟩
end Fl
end
section
open Go.RowKit Go.Shelf
structure KeptBut (n g : Nat) (X Y : World) : Prop where
 size : X.heap.size ≤ Y.heap.size
 same : ∀ b, b < n → b ≠ g → Y.heap[b]? = X.heap[b]?
theorem KeptBut.refl (n g : Nat) (X : World) : KeptBut n g X X := ⟨Nat.le_refl _, fun _ _ _ => rfl⟩
theorem KeptBut.trans {n g : Nat} {X Y Z : World} (h : KeptBut n g X Y) (k : KeptBut n g Y Z) : KeptBut n g X Z := ⟨Nat.le_trans h.size k.size, fun b hb hg => (k.same b hb hg).trans (h.same b hb hg)⟩
theorem KeptBut.alloc (n g : Nat) (X : World) (o : Obj) (hn : n ≤ X.heap.size) : KeptBut n g X (X.alloc o) := ⟨by simp, fun b hb _ => Below.heap_alloc X o b (by omega)⟩
theorem KeptBut.of_below {n g : Nat} {X Y : World} (h : Below X.heap.size X Y) (hn : n ≤ X.heap.size) : KeptBut n g X Y := ⟨h.size, fun b hb _ => h.block b (by omega)⟩
theorem KeptBut.set_ {n g : Nat} {X : World} (p : Addr) (hp : p.block = g ∨ n ≤ p.block) (u : Value) : KeptBut n g X (X.setCell p u) := ⟨by simp [World.setCell], fun b hb hg => Below.heap_setCell X p u b (by omega)⟩
def SeqAll {α : Type} (F : Fence) (n : Nat) (P : Program) (gf : Nat) (lb : Array Value) (encs : α → Array Value) (xs : List α) (g : Nat) (w : World) : Prop :=
 ∀ (l : Nat) (J : Nat → World → Prop) (W : World), KeptBut w.heap.size g w W →
  (∀ k X Y row, J k X → X.grownBy Y row → (∀ r, row = some r → r = W.heap.size) → J k Y) →
  (∀ k x X, xs[k]? = some x → J k X → W.heap.size < X.heap.size → YieldAt F (n - 1) P l (encs x) X fun e Y =>
   e = .returned (.bool true) ∧ J (k + 1) Y ∧ X.heap.size ≤ Y.heap.size ∧ ∀ b, (b < w.heap.size ∨ b = W.heap.size) → b ≠ g → Y.heap[b]? = X.heap[b]?) →
  J 0 W →
  CallsIn F n P gf (#[.func (.yield l) #[] #[]] ++ lb) W fun e W' => (∃ v, e = .returned v) ∧ J xs.length W'
theorem grown_putObj (W : World) (l : Nat) (o : Obj) : W.grownBy (W.putObj l o) (some l) := grownBy_putObj' W l o
theorem wpIn_rangeAll {α : Type} {F : Fence} {n : Nat} {P : Program} {f : Operand} {ps : Array Tmp} {assign body : Code} {Q : Exit → Act → World → Prop} {a : Act} {w : World}
  (hro : F.round = none) (h1 : 1 ≤ n) {gf : Nat} {lb : Array Value} (hf : a.eval f = .func (.func gf) #[] lb) (hFg : F.fn gf) (eg : ∀ args w, (callFunc gf args).run P w = .ok (.enter gf args) w)
  {encs : α → Array Value} {xs : List α} {g : Nat} (hg : g < w.heap.size) (hseq : SeqAll F (n - 1) P gf lb encs xs g w) (hps : ∀ x, (encs x).size = ps.size)
  (I : Nat → World → Prop) (hI : ∀ k X Y row, I k X → X.grownBy Y row → (∀ r, row = some r → w.heap.size ≤ r ∧ r < w.heap.size + 3) → I k Y) (h0 : I 0 w)
  (Ax : Nat → Act → World → Prop) (hAx : ∀ k a' X Y row, Ax k a' X → X.grownBy Y row → (∀ r, row = some r → w.heap.size ≤ r ∧ r < w.heap.size + 3) → Ax k a' Y)
  (hassign : ∀ (l k : Nat) (x : α) (X : World) (K : Act → World → Prop), xs[k]? = some x → I k X → w.heap.size + 2 < X.heap.size → (∀ a' Y, KeptBut (w.heap.size + 3) g X Y → Ax k a' Y → K a' Y) →
   assign.wpIn (F.inRound l) (n - 1 - 1) P (Exit.then K (fun _ _ _ => False)) { tmps := (ps.zip (encs x)).foldl (fun t (p, v) => t.setIfInBounds p v) a.tmps, defers := [] } X)
  (hbody : ∀ (l k : Nat) (x : α) (a' : Act) (X : World), xs[k]? = some x → Ax k a' X → w.heap.size + 2 < X.heap.size →
   body.wpIn (F.inRound l) (n - 1 - 1) P (Exit.then (fun _ Y => KeptBut (w.heap.size + 3) g X Y ∧ I (k + 1) Y) (fun _ _ _ => False)) a' X)
  (hdone : ∀ W : World, I xs.length W → W.heap[w.heap.size]? = some (.deferred (some [])) → Q .normal { a with defers := { target := .collected w.heap.size, args := #[] } :: a.defers } W) :
  (Code.rangeFunc f ps assign body).wpIn F n P Q a w := by
 refine wpIn_rangeFunc ?_;intro fn hfn;rw [hro];obtain ⟨rec, hrec⟩ : ∃ rec : LoopState → Loop, rec = fun st => { state := st, pending := none, fn, tmps := a.tmps, params := ps, assign, body, defers := w.heap.size } := ⟨_, rfl⟩
 have hst : ∀ st, (rec st).state = st ∧ (rec st).pending = none ∧ (rec st).params = ps := fun st => by rw [hrec]; exact ⟨rfl, rfl, rfl⟩
 obtain ⟨W1, hW1⟩ : ∃ W1, (w.alloc (.deferred (some []))).alloc (.loop (rec .ready)) = W1 := ⟨_, rfl⟩;have hz1 : W1.heap.size = w.heap.size + 2 := by rw [← hW1]; simp
 have hL1 : W1.heap[w.heap.size + 1]? = some (.loop (rec .ready)) := by
  rw [← hW1];have := World.alloc_heap_new (w.alloc (.deferred (some []))) (.loop (rec .ready))
  rwa [World.size_alloc] at this
 have hD1 : W1.heap[w.heap.size]? = some (.deferred (some [])) := by
  rw [← hW1]; exact (Below.heap_alloc _ _ _ (by simp)).trans (World.alloc_heap_new w _)
 have hI1 : I 0 W1 := by
  rw [← hW1];exact hI _ _ _ none (hI _ _ _ none h0 (World.grownBy_alloc _ _ _) (fun r e => by cases e)) (World.grownBy_alloc _ _ _) (fun r e => by cases e)
 have hk1 : KeptBut w.heap.size g w W1 := by
  rw [← hW1];exact (KeptBut.alloc _ _ _ _ nL).trans (KeptBut.alloc _ _ _ _ (by simp))
 refine ⟨w.heap.size + 1, [{ target := .collected w.heap.size, args := #[] }], W1, { target := .fn (.func gf) lb, args := #[.func (.yield (w.heap.size + 1)) #[] #[]] }, W1, gf,
  #[.func (.yield (w.heap.size + 1)) #[] #[]] ++ lb, W1, ?_, ?_, ?_, ?_, fun _ => h1, ?_⟩
 ·rw [← hW1, hrec];exact run_enterLoop_outer _ _ _ _ _
 ·simp only [resolve, hf];simp [go_sem]
 ·intro f' hf';simp [Target.leads] at hf';subst hf';exact hFg
 ·simp [invoke, go_sem, eg]
 refine (hseq (w.heap.size + 1) (fun k X => I k X ∧ X.heap[w.heap.size + 1]? = some (.loop (rec .ready)) ∧ X.heap[w.heap.size]? = some (.deferred (some []))) W1 hk1 ?_ ?_ ⟨hI1, hL1, hD1⟩).mono ?_
 ·rintro k X Y row ⟨hi, hl, hd⟩ hgr hr;rw [hz1] at hr;refine ⟨hI k X Y row hi hgr fun r e => ?_, ?_, ?_⟩
  ·have := hr r e;omega
  ·rw [hgr.block _ (Array.getElem?_eq_some_iff.1 hl).1 (fun e => by have := hr _ e.symm; omega)];exact hl
  ·rw [hgr.block _ (Array.getElem?_eq_some_iff.1 hd).1 (fun e => by have := hr _ e.symm; omega)];exact hd
 ·rintro k x X hx ⟨hi, hl, hd⟩ hlt;rw [hz1] at hlt;have hy := run_yield (P := P) (args := encs x) hl (by rw [(hst _).2.2]; exact hps x);rw [hrec] at hy;refine ⟨fn, _, assign, body, hy, roundIn_of_wpIn hfn (hassign _ k x X _ hx hi hlt ?_)⟩;intro a' Xa hka hax;have hla := (hka.same (w.heap.size + 1) (by omega) (by omega)).trans hl;have hda := (hka.same w.heap.size (by omega) (by omega)).trans hd;have hza : w.heap.size + 2 < Xa.heap.size := Nat.lt_of_lt_of_le hlt hka.size;refine ⟨_, run_beginRound hla (hst _).1, ?_⟩;have hbr : ({ rec .ready with state := .busy } : Loop) = rec .busy := by rw [hrec]
  rw [hbr];have hl2 : (Xa.putObj (w.heap.size + 1) (.loop (rec .busy))).heap[w.heap.size + 1]? = some (.loop (rec .busy)) := World.putObj_heap_same (by omega);have hd2 : (Xa.putObj (w.heap.size + 1) (.loop (rec .busy))).heap[w.heap.size]? = some (.deferred (some [])) := (World.putObj_heap_other (by omega)).trans hda;refine wpIn_mono (hbody _ k x a' _ hx (hAx k a' _ _ _ hax (grown_putObj _ _ _) (fun r e => by cases e; omega)) (by rw [World.putObj_size]; exact hza)) ?_;rintro e a3 X3 hp
  cases e with
  | normal =>
   obtain ⟨hk3, hi3⟩ := hp;have hl3 := (hk3.same (w.heap.size + 1) (by omega) (by omega)).trans hl2;have hd3 := (hk3.same w.heap.size (by omega) (by omega)).trans hd2;have hr := run_endRound (P := P) none hl3;have her : ({ rec .busy with state := if (none : Option Code).isNone then .ready else .done, pending := none } : Loop) = rec .ready := by rw [hrec]; rfl
   rw [her] at hr;have hz3 := hk3.size;rw [World.putObj_size] at hz3;refine ⟨_, _, hr, rfl, ⟨hI _ _ _ _ hi3 (grown_putObj _ _ _) (fun r e => by cases e; omega), World.putObj_heap_same (by omega), (World.putObj_heap_other (by omega)).trans hd3⟩, ?_, fun b hb hbg => ?_⟩
   ·rw [World.putObj_size];have := hka.size;omega
   ·rw [hz1] at hb;rw [World.putObj_heap_other (by omega), hk3.same b (by omega) hbg, World.putObj_heap_other (by omega), hka.same b (by omega) hbg]
  | _ => exact hp.elim
 ·rintro e W2 ⟨⟨v, rfl⟩, hi, hl, hd⟩;have hr := run_endLoop (P := P) hl (by rw [(hst _).1]; simp);rw [(hst _).2.1] at hr;exact ⟨none, _, hr, hdone _ (hI _ _ _ _ hi (grown_putObj _ _ _) (fun r e => by cases e; omega)) ((World.putObj_heap_other (by omega)).trans hd)⟩
end
section
namespace Fl
open Go.RowKit Go.ChangeShapes Go.Shelf
attribute [local go_sem] Oper.semAt_some
def mergeV : Nat → List EdV → List EdV → List (Bool × EdV)
 | 0, _, _ => []
 | _ + 1, [], [] => []
 | n + 1, [], y :: d => (true, y) :: mergeV n [] d
 | n + 1, x :: c, [] => (false, x) :: mergeV n c []
 | n + 1, x :: c, y :: d => if y.at_ < x.at_ then (true, y) :: mergeV n (x :: c) d else (false, x) :: mergeV n c (y :: d)
theorem mergeV_map : ∀ (n : Nat) (c d : List EdV), (mergeV n c d).map (fun p => (p.1, p.2.ed)) = File.mergeGo n (c.map EdV.ed) (d.map EdV.ed) := by
 intro n
 induction n with
 | zero => intro c d; rfl
 | succ n ih =>
  intro c d
  cases c with
  | nil =>
   cases d with
   | nil => rfl
   | cons y d => simp only [mergeV, List.map_cons, List.map_nil, File.mergeGo, ih]
  | cons x c =>
   cases d with
   | nil => simp only [mergeV, List.map_cons, List.map_nil, File.mergeGo, ih]
   | cons y d =>
    simp only [mergeV, List.map_cons, File.mergeGo]
    show List.map _ (if y.at_ < x.at_ then _ else _) = if y.at_ < x.at_ then _ else _
    split <;> simp [ih]
theorem mergeV_length : ∀ (n : Nat) (c d : List EdV), c.length + d.length = n → (mergeV n c d).length = n := by
 intro n
 induction n with
 | zero => intro c d h; rfl
 | succ n ih =>
  intro c d h
  cases c with
  | nil =>
   cases d with
   | nil => simp at h
   | cons y d => simp only [mergeV, List.length_cons, ih [] d (by simpa using h)]
  | cons x c =>
   cases d with
   | nil => simp only [mergeV, List.length_cons, ih c [] (by simpa using h)]
   | cons y d =>
    simp only [mergeV];simp only [List.length_cons] at h
    split <;> simp only [List.length_cons]
    ·rw [ih (x :: c) d (by simp only [List.length_cons]; omega)]
    ·rw [ih c (y :: d) (by simp only [List.length_cons]; omega)]
def encP (p : Bool × EdV) : Array Value := #[iv (if p.1 then 1 else 0), p.2.v]
def numAt (w : World) (g o : Nat) : Nat := match w.cell? ⟨g, o, none⟩ with
 | some (.int _ n) => n.toNat
 | _ => 0
structure Edits (w : World) (A : Option Addr) (vs : List EdV) (g : Nat) : Prop where
 sl : Sl edE w A vs
 apart : vs ≠ [] → ∀ b off, A = some ⟨b, off, none⟩ → b ≠ g
theorem Edits.kept {w W : World} {A : Option Addr} {vs : List EdV} {g : Nat} (h : Edits w A vs g) (hk : KeptBut w.heap.size g w W) : Sl edE W A vs := fun hne => by
 obtain ⟨b, off, hA, hb, hc⟩ := h.sl hne;refine ⟨b, off, hA, Nat.lt_of_lt_of_le hb hk.size, fun i x hx j u hu => ?_⟩;rw [World.cell?_of_block (w := w) (hk.same b hb (h.apart hne b off hA))];exact hc i x hx j u hu
theorem grown_setCell (W : World) (g o : Nat) (v : Value) : W.grownBy (W.setCell ⟨g, o, none⟩ v) (some g) :=
 ⟨rfl, rfl, rfl, by simp [World.setCell], fun b _ hb => Below.heap_setCell W ⟨g, o, none⟩ v b (fun e => hb (by rw [e]))⟩
set_option maxHeartbeats 4000000 in
theorem edits1_all (n : Nat) (hn : 1 ≤ n) (p : Nat) (A0 : Option Addr) (c0 : Nat) (A1 : Option Addr) (c1 : Nat) (vs0 vs1 : List EdV) (g : Nat) (w : World)
  (hp : Blk w p 161 #[.slice A0 vs0.length c0, .slice A1 vs1.length c1]) (hpg : p ≠ g) (h0 : Edits w A0 vs0 g) (h1 : Edits w A1 vs1 g) (hl : vs0.length + vs1.length ≤ 1000) (hgl : g < w.heap.size) :
  SeqAll Fence.wide n Tryz.prog 146 #[.pointer (some ⟨p, 0, none⟩)] encP (mergeV (vs0.length + vs1.length) vs0 vs1) g w := by
 intro l J W hk hJ hY hJ0;refine callsIn_of_wp Tryz.func146 rfl trivial ?_ rfl;simp only [Tryz.ntmps146, List.size_toArray, List.length_cons, List.length_nil, Nat.reduceAdd, Nat.reduceSub, Array.replicate_succ, Array.replicate_zero, List.push_toArray, List.append_toArray, List.nil_append, List.cons_append];have hJa : J 0 (W.alloc (.cells #[iv 0, iv 0] 75)) := hJ 0 _ _ none hJ0 (World.grownBy_alloc _ _ _) (fun r e => by cases e);have hAt : Blk (W.alloc (.cells #[iv 0, iv 0] 75)) W.heap.size 75 #[iv 0, iv 0] := Blk.new _ _ _;have hka : KeptBut w.heap.size g w (W.alloc (.cells #[iv 0, iv 0] 75)) := hk.trans (KeptBut.alloc _ _ _ _ hk.size);have HE0 := lH h0;have HE1 := lH h1;have HP := lH hp;have hplt := hp.lt;have hWz := hk.size;clear h0 h1 hp hJ0 hk;obtain ⟨xs, hxs⟩ : ∃ xs, xs = mergeV (vs0.length + vs1.length) vs0 vs1 := ⟨_, rfl⟩;rw [← hxs] at hY ⊢;have HXL : Hid (xs.length = vs0.length + vs1.length) := lH (by rw [hxs]; exact mergeV_length _ _ _ rfl)
 have HX0 : Hid (xs.drop 0 = mergeV (vs0.length + vs1.length - 0) (vs0.drop 0) (vs1.drop 0)) := lH (by rw [hxs]; rfl);have HY := lH hY;have HJ := lH hJ;clear hxs hY hJ
 gi_wp2
 generalize W.alloc (.cells #[iv 0, iv 0] 75) = Wa at *
 gi_loopw [4] (fun _ wr => ∃ (i j : Nat), i ≤ vs0.length ∧ j ≤ vs1.length ∧ Blk wr W.heap.size 75 #[iv (i : Int), iv (j : Int)] ∧ J (i + j) wr ∧ KeptBut w.heap.size g w wr ∧ Hid (xs.drop (i + j) = mergeV (vs0.length + vs1.length - (i + j)) (vs0.drop i) (vs1.drop j)))
  (fun _ wr => vs0.length + vs1.length - (numAt wr W.heap.size 0 + numAt wr W.heap.size 1))
 case atStart => exact ⟨0, 0, Nat.zero_le _, Nat.zero_le _, hAt, hJa, hka, HX0⟩
 case round =>
  obtain ⟨i, j, hi, hj, hat, hJr, hkr, HX⟩ := hrel;have a0 := hat.cell 0;have a1 := hat.cell 1;have al := hat.lt;have hpr : Blk wr p 161 #[.slice A0 vs0.length c0, .slice A1 vs1.length c1] := (hkr.same p hplt hpg).trans HP.out;have p0 := hpr.cell 0;have p1 := hpr.cell 1;have pl := hpr.lt
  by_cases hi0 : i < vs0.length
  ·obtain ⟨b0, o0, x, hA0, hb0, hx, x0, x1, x2⟩ := Sl.atEd (HE0.out.kept hkr) hi0;have hi0i : (i : Int) < (vs0.length : Int) := (by omega);have hi0e : ((i : Int) == (vs0.length : Int)) = false := by simp; omega
   by_cases hj0 : j < vs1.length
   ·obtain ⟨b1, o1, y, hA1, hb1, hy, y0, y1, y2⟩ := Sl.atEd (HE1.out.kept hkr) hj0;have hj0i : (j : Int) < (vs1.length : Int) := (by omega);subst hA0 hA1
    by_cases hlt : y.at_ < x.at_
    ·have hd : xs.drop (i + j) = (true, y) :: mergeV (vs0.length + vs1.length - (i + (j + 1))) (vs0.drop i) (vs1.drop (j + 1)) := by
      rw [HX.out, drop_at hx, drop_at hy, show vs0.length + vs1.length - (i + j) = (vs0.length + vs1.length - (i + (j + 1))) + 1 by omega];simp only [mergeV];rw [if_pos hlt]
     have hxk : xs[i + j]? = some (true, y) := by
      have h6 := congrArg List.head? hd;rw [List.head?_drop] at h6
      simpa using h6
     have HD2 : Hid (xs.drop (i + (j + 1)) = mergeV (vs0.length + vs1.length - (i + (j + 1))) (vs0.drop i) (vs1.drop (j + 1))) := lH (by
      rw [show i + (j + 1) = (i + j) + 1 by omega, ← List.drop_drop, hd, show i + j + 1 = i + (j + 1) by omega];rfl)
     clear hd HX
     gi_wp2
     gi_quiet (fail)
     have hgr : wr.grownBy (wr.drewN (nq + 1)) none := ⟨rfl, rfl, rfl, Nat.le_refl _, fun _ _ _ => rfl⟩;obtain ⟨fn, tmps, assign, body, hy2, hR⟩ := HY.out (i + j) _ (wr.drewN (nq + 1)) hxk (HJ.out _ _ _ none hJr hgr (fun r e => by cases e)) al;have hy3 : (Instr.yield l #[Value.int .i64 1, .agg #[iv y.at_, .slice y.A y.old.length y.c, .slice y.A' y.new.length y.c']]).run Tryz.prog (wr.drewN (nq + 1)) = .ok (.round l fn tmps assign body) (wr.drewN (nq + 1)) := hy2;clear hy2;have hmix : (Tryz.prog).follows .mixedOrders = true := by kernel_rfl
     gi_wp2_with fail
     gi_region_with_o (refine hR.mono ?_; rintro e W3 ⟨rfl, hJ3, hz3, hk3⟩)
     all_goals
      have hat3 : Blk W3 W.heap.size 75 #[iv (i : Int), iv (j : Int)] := (hk3 W.heap.size (.inr rfl) (by omega)).trans hat;have hkr3 : KeptBut w.heap.size g w W3 := hkr.trans ⟨hz3, fun b hb hbg => hk3 b (.inl hb) hbg⟩;have c0 := hat3.cell 0;have c1 := hat3.cell 1;have cl := hat3.lt;have cf := hat3.frozen 1;have ew : IntKind.i64.wrap ((j : Int) + 1) = ((j + 1 : Nat) : Int) := IntWalk.i64_in _ (by omega);have hat4 := hat3.set_ 1 (iv ((j + 1 : Nat) : Int));have hkr4 : KeptBut w.heap.size g w (W3.setCell ⟨W.heap.size, 1, none⟩ (iv ((j + 1 : Nat) : Int))) := hkr3.trans (KeptBut.set_ _ (.inr hWz) _)
      have HJ4 : Hid (J (i + (j + 1)) (W3.setCell ⟨W.heap.size, 1, none⟩ (iv ((j + 1 : Nat) : Int)))) := lH (by
       rw [show i + (j + 1) = i + j + 1 by omega];exact HJ.out _ W3 _ (some W.heap.size) hJ3 (grown_setCell W3 W.heap.size 1 _) (fun r e => by cases e; rfl))
      gi_wp2
      go_roundw
      case rel => exact ⟨i, (j + 1), by omega, by omega, hat4, HJ4.out, hkr4, HD2⟩
      case measure =>
       have e0 : numAt wr W.heap.size 0 = i := by unfold numAt; rw [a0]; simp
       have e1 : numAt wr W.heap.size 1 = j := by unfold numAt; rw [a1]; simp
       have f0 := hat4.cell 0;have f1 := hat4.cell 1;have e2 : numAt (W3.setCell ⟨W.heap.size, 1, none⟩ (iv ((j + 1 : Nat) : Int))) W.heap.size 0 = i := by unfold numAt; rw [f0]; simp; try omega
       have e3 : numAt (W3.setCell ⟨W.heap.size, 1, none⟩ (iv ((j + 1 : Nat) : Int))) W.heap.size 1 = (j + 1) := by unfold numAt; rw [f1]; simp; try omega
       rw [e0, e1]
       show vs0.length + vs1.length - (numAt (W3.setCell ⟨W.heap.size, 1, none⟩ (iv ((j + 1 : Nat) : Int))) W.heap.size 0 + numAt (W3.setCell ⟨W.heap.size, 1, none⟩ (iv ((j + 1 : Nat) : Int))) W.heap.size 1) < _
       rw [e2, e3];omega
    ·have hd : xs.drop (i + j) = (false, x) :: mergeV (vs0.length + vs1.length - ((i + 1) + j)) (vs0.drop (i + 1)) (vs1.drop j) := by
      rw [HX.out, drop_at hx, drop_at hy, show vs0.length + vs1.length - (i + j) = (vs0.length + vs1.length - ((i + 1) + j)) + 1 by omega];simp only [mergeV];rw [if_neg hlt]
     have hxk : xs[i + j]? = some (false, x) := by
      have h6 := congrArg List.head? hd;rw [List.head?_drop] at h6
      simpa using h6
     have HD2 : Hid (xs.drop ((i + 1) + j) = mergeV (vs0.length + vs1.length - ((i + 1) + j)) (vs0.drop (i + 1)) (vs1.drop j)) := lH (by
      rw [show (i + 1) + j = (i + j) + 1 by omega, ← List.drop_drop, hd, show i + j + 1 = (i + 1) + j by omega];rfl)
     clear hd HX
     gi_wp2
     gi_quiet (fail)
     have hgr : wr.grownBy (wr.drewN (nq + 1)) none := ⟨rfl, rfl, rfl, Nat.le_refl _, fun _ _ _ => rfl⟩;obtain ⟨fn, tmps, assign, body, hy2, hR⟩ := HY.out (i + j) _ (wr.drewN (nq + 1)) hxk (HJ.out _ _ _ none hJr hgr (fun r e => by cases e)) al;have hy3 : (Instr.yield l #[Value.int .i64 0, .agg #[iv x.at_, .slice x.A x.old.length x.c, .slice x.A' x.new.length x.c']]).run Tryz.prog (wr.drewN (nq + 1)) = .ok (.round l fn tmps assign body) (wr.drewN (nq + 1)) := hy2;clear hy2;have hmix : (Tryz.prog).follows .mixedOrders = true := by kernel_rfl
     gi_wp2_with fail
     gi_region_with_o (refine hR.mono ?_; rintro e W3 ⟨rfl, hJ3, hz3, hk3⟩)
     all_goals
      have hat3 : Blk W3 W.heap.size 75 #[iv (i : Int), iv (j : Int)] := (hk3 W.heap.size (.inr rfl) (by omega)).trans hat;have hkr3 : KeptBut w.heap.size g w W3 := hkr.trans ⟨hz3, fun b hb hbg => hk3 b (.inl hb) hbg⟩;have c0 := hat3.cell 0;have c1 := hat3.cell 1;have cl := hat3.lt;have cf := hat3.frozen 0;have ew : IntKind.i64.wrap ((i : Int) + 1) = ((i + 1 : Nat) : Int) := IntWalk.i64_in _ (by omega);have hat4 := hat3.set_ 0 (iv ((i + 1 : Nat) : Int));have hkr4 : KeptBut w.heap.size g w (W3.setCell ⟨W.heap.size, 0, none⟩ (iv ((i + 1 : Nat) : Int))) := hkr3.trans (KeptBut.set_ _ (.inr hWz) _)
      have HJ4 : Hid (J ((i + 1) + j) (W3.setCell ⟨W.heap.size, 0, none⟩ (iv ((i + 1 : Nat) : Int)))) := lH (by
       rw [show (i + 1) + j = i + j + 1 by omega];exact HJ.out _ W3 _ (some W.heap.size) hJ3 (grown_setCell W3 W.heap.size 0 _) (fun r e => by cases e; rfl))
      gi_wp2
      go_roundw
      case rel => exact ⟨(i + 1), j, by omega, by omega, hat4, HJ4.out, hkr4, HD2⟩
      case measure =>
       have e0 : numAt wr W.heap.size 0 = i := by unfold numAt; rw [a0]; simp
       have e1 : numAt wr W.heap.size 1 = j := by unfold numAt; rw [a1]; simp
       have f0 := hat4.cell 0;have f1 := hat4.cell 1;have e2 : numAt (W3.setCell ⟨W.heap.size, 0, none⟩ (iv ((i + 1 : Nat) : Int))) W.heap.size 0 = (i + 1) := by unfold numAt; rw [f0]; simp; try omega
       have e3 : numAt (W3.setCell ⟨W.heap.size, 0, none⟩ (iv ((i + 1 : Nat) : Int))) W.heap.size 1 = j := by unfold numAt; rw [f1]; simp; try omega
       rw [e0, e1]
       show vs0.length + vs1.length - (numAt (W3.setCell ⟨W.heap.size, 0, none⟩ (iv ((i + 1 : Nat) : Int))) W.heap.size 0 + numAt (W3.setCell ⟨W.heap.size, 0, none⟩ (iv ((i + 1 : Nat) : Int))) W.heap.size 1) < _
       rw [e2, e3];omega
   ·have hj0i : ¬ (j : Int) < (vs1.length : Int) := (by omega);subst hA0
    have hd : xs.drop (i + j) = (false, x) :: mergeV (vs0.length + vs1.length - ((i + 1) + j)) (vs0.drop (i + 1)) (vs1.drop j) := by
     rw [HX.out, drop_at hx, List.drop_eq_nil_of_le (show vs1.length ≤ j by omega), show vs0.length + vs1.length - (i + j) = (vs0.length + vs1.length - ((i + 1) + j)) + 1 by omega];simp only [mergeV]
    have hxk : xs[i + j]? = some (false, x) := by
     have h6 := congrArg List.head? hd;rw [List.head?_drop] at h6
     simpa using h6
    have HD2 : Hid (xs.drop ((i + 1) + j) = mergeV (vs0.length + vs1.length - ((i + 1) + j)) (vs0.drop (i + 1)) (vs1.drop j)) := lH (by
     rw [show (i + 1) + j = (i + j) + 1 by omega, ← List.drop_drop, hd, show i + j + 1 = (i + 1) + j by omega];rfl)
    clear hd HX
    gi_wp2
    gi_quiet (fail)
    have hgr : wr.grownBy (wr.drewN (nq + 1)) none := ⟨rfl, rfl, rfl, Nat.le_refl _, fun _ _ _ => rfl⟩;obtain ⟨fn, tmps, assign, body, hy2, hR⟩ := HY.out (i + j) _ (wr.drewN (nq + 1)) hxk (HJ.out _ _ _ none hJr hgr (fun r e => by cases e)) al;have hy3 : (Instr.yield l #[Value.int .i64 0, .agg #[iv x.at_, .slice x.A x.old.length x.c, .slice x.A' x.new.length x.c']]).run Tryz.prog (wr.drewN (nq + 1)) = .ok (.round l fn tmps assign body) (wr.drewN (nq + 1)) := hy2;clear hy2;have hmix : (Tryz.prog).follows .mixedOrders = true := by kernel_rfl
    gi_wp2_with fail
    gi_region_with_o (refine hR.mono ?_; rintro e W3 ⟨rfl, hJ3, hz3, hk3⟩)
    all_goals
     have hat3 : Blk W3 W.heap.size 75 #[iv (i : Int), iv (j : Int)] := (hk3 W.heap.size (.inr rfl) (by omega)).trans hat;have hkr3 : KeptBut w.heap.size g w W3 := hkr.trans ⟨hz3, fun b hb hbg => hk3 b (.inl hb) hbg⟩;have c0 := hat3.cell 0;have c1 := hat3.cell 1;have cl := hat3.lt;have cf := hat3.frozen 0;have ew : IntKind.i64.wrap ((i : Int) + 1) = ((i + 1 : Nat) : Int) := IntWalk.i64_in _ (by omega);have hat4 := hat3.set_ 0 (iv ((i + 1 : Nat) : Int));have hkr4 : KeptBut w.heap.size g w (W3.setCell ⟨W.heap.size, 0, none⟩ (iv ((i + 1 : Nat) : Int))) := hkr3.trans (KeptBut.set_ _ (.inr hWz) _)
     have HJ4 : Hid (J ((i + 1) + j) (W3.setCell ⟨W.heap.size, 0, none⟩ (iv ((i + 1 : Nat) : Int)))) := lH (by
      rw [show (i + 1) + j = i + j + 1 by omega];exact HJ.out _ W3 _ (some W.heap.size) hJ3 (grown_setCell W3 W.heap.size 0 _) (fun r e => by cases e; rfl))
     gi_wp2
     go_roundw
     case rel => exact ⟨(i + 1), j, by omega, by omega, hat4, HJ4.out, hkr4, HD2⟩
     case measure =>
      have e0 : numAt wr W.heap.size 0 = i := by unfold numAt; rw [a0]; simp
      have e1 : numAt wr W.heap.size 1 = j := by unfold numAt; rw [a1]; simp
      have f0 := hat4.cell 0;have f1 := hat4.cell 1;have e2 : numAt (W3.setCell ⟨W.heap.size, 0, none⟩ (iv ((i + 1 : Nat) : Int))) W.heap.size 0 = (i + 1) := by unfold numAt; rw [f0]; simp; try omega
      have e3 : numAt (W3.setCell ⟨W.heap.size, 0, none⟩ (iv ((i + 1 : Nat) : Int))) W.heap.size 1 = j := by unfold numAt; rw [f1]; simp; try omega
      rw [e0, e1]
      show vs0.length + vs1.length - (numAt (W3.setCell ⟨W.heap.size, 0, none⟩ (iv ((i + 1 : Nat) : Int))) W.heap.size 0 + numAt (W3.setCell ⟨W.heap.size, 0, none⟩ (iv ((i + 1 : Nat) : Int))) W.heap.size 1) < _
      rw [e2, e3];omega
  ·have hi0i : ¬ (i : Int) < (vs0.length : Int) := (by omega);have hi0e : ((i : Int) == (vs0.length : Int)) = true := by simp; omega
   by_cases hj0 : j < vs1.length
   ·obtain ⟨b1, o1, y, hA1, hb1, hy, y0, y1, y2⟩ := Sl.atEd (HE1.out.kept hkr) hj0;have hj0i : (j : Int) < (vs1.length : Int) := (by omega);subst hA1
    have hd : xs.drop (i + j) = (true, y) :: mergeV (vs0.length + vs1.length - (i + (j + 1))) (vs0.drop i) (vs1.drop (j + 1)) := by
     rw [HX.out, drop_at hy, List.drop_eq_nil_of_le (show vs0.length ≤ i by omega), show vs0.length + vs1.length - (i + j) = (vs0.length + vs1.length - (i + (j + 1))) + 1 by omega];simp only [mergeV]
    have hxk : xs[i + j]? = some (true, y) := by
     have h6 := congrArg List.head? hd;rw [List.head?_drop] at h6
     simpa using h6
    have HD2 : Hid (xs.drop (i + (j + 1)) = mergeV (vs0.length + vs1.length - (i + (j + 1))) (vs0.drop i) (vs1.drop (j + 1))) := lH (by
     rw [show i + (j + 1) = (i + j) + 1 by omega, ← List.drop_drop, hd, show i + j + 1 = i + (j + 1) by omega];rfl)
    clear hd HX
    gi_wp2
    gi_quiet (fail)
    have hgr : wr.grownBy (wr.drewN (nq + 1)) none := ⟨rfl, rfl, rfl, Nat.le_refl _, fun _ _ _ => rfl⟩;obtain ⟨fn, tmps, assign, body, hy2, hR⟩ := HY.out (i + j) _ (wr.drewN (nq + 1)) hxk (HJ.out _ _ _ none hJr hgr (fun r e => by cases e)) al;have hy3 : (Instr.yield l #[Value.int .i64 1, .agg #[iv y.at_, .slice y.A y.old.length y.c, .slice y.A' y.new.length y.c']]).run Tryz.prog (wr.drewN (nq + 1)) = .ok (.round l fn tmps assign body) (wr.drewN (nq + 1)) := hy2;clear hy2;have hmix : (Tryz.prog).follows .mixedOrders = true := by kernel_rfl
    gi_wp2_with fail
    gi_region_with_o (refine hR.mono ?_; rintro e W3 ⟨rfl, hJ3, hz3, hk3⟩)
    all_goals
     have hat3 : Blk W3 W.heap.size 75 #[iv (i : Int), iv (j : Int)] := (hk3 W.heap.size (.inr rfl) (by omega)).trans hat;have hkr3 : KeptBut w.heap.size g w W3 := hkr.trans ⟨hz3, fun b hb hbg => hk3 b (.inl hb) hbg⟩;have c0 := hat3.cell 0;have c1 := hat3.cell 1;have cl := hat3.lt;have cf := hat3.frozen 1;have ew : IntKind.i64.wrap ((j : Int) + 1) = ((j + 1 : Nat) : Int) := IntWalk.i64_in _ (by omega);have hat4 := hat3.set_ 1 (iv ((j + 1 : Nat) : Int));have hkr4 : KeptBut w.heap.size g w (W3.setCell ⟨W.heap.size, 1, none⟩ (iv ((j + 1 : Nat) : Int))) := hkr3.trans (KeptBut.set_ _ (.inr hWz) _)
     have HJ4 : Hid (J (i + (j + 1)) (W3.setCell ⟨W.heap.size, 1, none⟩ (iv ((j + 1 : Nat) : Int)))) := lH (by
      rw [show i + (j + 1) = i + j + 1 by omega];exact HJ.out _ W3 _ (some W.heap.size) hJ3 (grown_setCell W3 W.heap.size 1 _) (fun r e => by cases e; rfl))
     gi_wp2
     go_roundw
     case rel => exact ⟨i, (j + 1), by omega, by omega, hat4, HJ4.out, hkr4, HD2⟩
     case measure =>
      have e0 : numAt wr W.heap.size 0 = i := by unfold numAt; rw [a0]; simp
      have e1 : numAt wr W.heap.size 1 = j := by unfold numAt; rw [a1]; simp
      have f0 := hat4.cell 0;have f1 := hat4.cell 1;have e2 : numAt (W3.setCell ⟨W.heap.size, 1, none⟩ (iv ((j + 1 : Nat) : Int))) W.heap.size 0 = i := by unfold numAt; rw [f0]; simp; try omega
      have e3 : numAt (W3.setCell ⟨W.heap.size, 1, none⟩ (iv ((j + 1 : Nat) : Int))) W.heap.size 1 = (j + 1) := by unfold numAt; rw [f1]; simp; try omega
      rw [e0, e1]
      show vs0.length + vs1.length - (numAt (W3.setCell ⟨W.heap.size, 1, none⟩ (iv ((j + 1 : Nat) : Int))) W.heap.size 0 + numAt (W3.setCell ⟨W.heap.size, 1, none⟩ (iv ((j + 1 : Nat) : Int))) W.heap.size 1) < _
      rw [e2, e3];omega
   ·have hj0i : ¬ (j : Int) < (vs1.length : Int) := (by omega);have hJe : J xs.length wr := by rw [HXL.out, show vs0.length + vs1.length = i + j by omega]; exact hJr
    gi_wp2
    go_end0
    exact ⟨⟨_, rfl⟩, hJe⟩
end Fl
end
section
open Go.RowKit
theorem rowsIn_wide {n : Nat} {P : Program} {row : String} {args : Array Value} {w : World} {R : Value → World → Prop} (h : Rows P row args w R) : RowsIn Fence.wide n P row args w R :=
 fun c cs _ => let ⟨v, w', r, s⟩ := h c cs; ⟨v, w', r, stepsIn_wide.2 s⟩
section
variable {P : Program} {ops : Array Oper} {Q : Exit → Act → World → Prop} {n l : Nat}
theorem opIn_of_op {o : Oper} {a : Act} {w : World} {K : Act → World → Prop} (hd : ∀ c, o.op ≠ .defer c) (h : o.wp P a w K Q) : o.wpIn (Fence.wide.inRound l) n P a w K Q := by
 unfold Oper.wpIn;refine ⟨fun _ _ => trivial, ?_⟩;rw [Oper.semAt_eq _ _ _ hd];unfold Oper.wp at h;generalize (execOp a.eval o).run P w = r at *
 cases r with
 | ok x w' =>
  cases x <;> simp only [Oper.upon, Oper.uponIn] at h ⊢ <;>
   first
    | exact h
    | exact h.elim
    | exact ⟨fun e => (by cases e), CallsIn.inRound l (callsIn_wide.2 h)⟩
    | exact ⟨fun e => (by cases e), rowsIn_wide h⟩
 | halt x w' => cases x <;> simp only [Oper.upon, Oper.uponIn] at h ⊢ <;> exact h
theorem anyIn_of_any {md : Region.Mode} (hno : ∀ (i : Nat) (o : Oper), ops[i]? = some o → ∀ c, o.op ≠ .defer c) (hQ : ¬ LetsOut Q) : ∀ (fuel : Nat) (listed : Array Bool) (a : Act) (w : World), wpAny P md ops Q fuel listed a w → wpAnyIn (Fence.wide.inRound l) n P md ops Q fuel listed a w := by
 intro fuel
 induction fuel with
 | zero => intro listed a w h; exact h
 | succ fuel ih =>
  intro listed a w h;refine ⟨h.1, fun i hi => ?_⟩;have h2 := h.2 i hi;unfold wpOp at h2;unfold wpOpIn
  cases ho : ops[i]? with
  | none => rw [ho] at h2; exact ih _ _ _ h2
  | some o =>
   rw [ho] at h2;simp only at h2 ⊢
   split
   ·rename_i hw
    rw [if_pos hw] at h2
    rcases h2 with h2 | h2
    ·exact opIn_of_op (hno i o ho) (Oper.wp_mono (fun a w => ih _ a w) h2)
    ·exact absurd h2.2 hQ
   ·rename_i hw
    rw [if_neg hw] at h2;exact ⟨fun _ _ => trivial, ih _ _ _ h2⟩
def noDefer (ops : List Oper) : Bool := ops.all fun o => match o.op with
 | .defer _ => false
 | _ => true
theorem noDefer_spec {L : List Oper} (h : noDefer L = true) : ∀ (i : Nat) (o : Oper), L.toArray[i]? = some o → ∀ c, o.op ≠ .defer c := fun i o ho c e => by
 have hm : o ∈ L := by rw [List.getElem?_toArray] at ho; exact List.mem_of_getElem? ho
 have := List.all_eq_true.1 h o hm;rw [e] at this
 cases this
theorem wpIn_round_quiet {id : Nat} {a : Act} {w : World} {L : List Oper} (hm : P.follows .mixedOrders = true) (hB : Region.lexB .any L.toArray = true) (hno : noDefer L = true) (hQ : ¬ LetsOut Q)
  (h : wpQuiet P L.toArray (fun w' => ∃ n, w' = w.drewN n) (fun a' => ∀ w', (∃ n, w' = w.drewN n) → Q .normal a' w') L a) : (Code.region id L.toArray true).wpIn (Fence.wide.inRound l) n P Q a w := by
 simp only [Region.lexB, Bool.and_eq_true] at hB;refine wpIn_region_any hm (anyIn_of_any (noDefer_spec hno) hQ _ _ _ _ (wpAny_of_quiet (C := fun w' => ∃ n, w' = w.drewN n) (Q := fun a' => ∀ w', (∃ n, w' = w.drewN n) → Q .normal a' w') (fun _ w' hw' h => h w' hw') _ _ _ _ ⟨1, rfl⟩ ?_));have := wpAnyQ_lex (C := fun w' => ∃ n, w' = w.drewN n) (md := .any) hB.1 L 0 (Array.replicate L.toArray.size false) a (by simp) (by simpa using hB.2) h
 simpa using this
theorem wpIn_round_held {S : World → Prop} {id : Nat} {a : Act} {w : World} {L : List Oper} (hm : P.follows .mixedOrders = true) (hno : noDefer L = true) (hQ : ¬ LetsOut Q) (hS : S w.drew)
  (h : S w.drew → wpAnyH P .any L.toArray Q S L.toArray.size (Array.replicate L.toArray.size false) a w.drew) : (Code.region id L.toArray true).wpIn (Fence.wide.inRound l) n P Q a w :=
 wpIn_region_any hm (anyIn_of_any (noDefer_spec hno) hQ _ _ _ _ (wpAny_of_held _ _ _ _ (h hS)))
end
theorem stepApp1At {α : Type} (E : Enc α) {P : Program} {t e : TypeId} (hT : SlTy P t e E.sz) {ops : Array Oper} {o : Oper} {a : Act} {K : Act → World → Prop} {Q : Exit → Act → World → Prop} {E' : Prop} {w : World}
  (hgd : o.guard = none) (s x : Operand) (ho : o.op = .call { callee := .builtin .append, args := #[s, x], argTypes := #[t, t] })
  {B : Nat} {v : Value} {xs : List α} (hown : Own E e B w v xs) {g off : Nat} {y : α} (hy : Sl E w (some ⟨g, off, none⟩) [y]) (hs : a.eval s = v) (hx : a.eval x = .slice (some ⟨g, off, none⟩) 1 1)
  (hB : B ≤ w.heap.size) (hn : xs.length + 1 ≤ big)
  (h : ∀ v' w', Own E e B w' v' (xs ++ [y]) → Below B w w' → (∀ b, b < w.heap.size → v.ownBlock ≠ some b → w'.heap[b]? = w.heap[b]?) → (v'.ownBlock = v.ownBlock ∨ v'.ownBlock = some w.heap.size) → K (a.put o.dst v') w') :
  if Region.wanted o (yielded ops a.tmps) = true then Oper.wp P o a w K Q else E' := by
 have hw : Region.wanted o (yielded ops a.tmps) = true := by simp [Region.wanted, hgd]
 rw [if_pos hw];obtain ⟨i, z, hi, hz, hsz, hby, hzc⟩ := hT.info;unfold big at hn
 obtain ⟨v', w', hr, h2, h3, _, h5⟩ := run_append_own_at (P := P) w B t o.type e i z E.sz i.bytes hT.ht hi hz hsz rfl hzc E.pos v xs.length (xs.flatMap E.cells) hown
  ⟨g, off, none⟩ 1 1 ([y].flatMap E.cells) (flat_length E [y]) (fun j u hu => by
   obtain ⟨k, y', k', rfl, hk, hu⟩ := flat_inv E [y] j u hu;obtain ⟨b, off', hA, _, hc⟩ := hy (by simp);injection hA with hA;injection hA with e1 e2;subst e1 e2;rw [Addr.add_lit];have := hc k y' hk k' u hu;rw [show off + k * E.sz + k' = off + (k * E.sz + k') from by omega] at this;exact this) (fun u hu => by
   obtain ⟨y', _, hu⟩ := List.mem_flatMap.1 hu;exact E.one y' u hu) (by unfold maxLen; omega) (by have := Nat.mul_le_mul hn hby; omega) hB
 unfold Oper.wp execOp;simp only [ho, resolve, invoke, builtin, Sem.run_bind, Sem.run_pure, Result.andThen_ok, List.map_toArray, List.map_cons, List.map_nil, hs, hx, hr];exact h v' w' (by unfold Own; simpa using h2) ((Below.refl B w).grown h3 hB fun k hk => (Own.lt hown k hk).1) (fun b hb hv => h3.block b hb (fun e => hv e.symm)) h5
theorem wpApp1In {F : Fence} {m : Nat} {α : Type} (E : Enc α) {P : Program} {t e : TypeId} (hT : SlTy P t e E.sz) {ops : Array Oper} {rest : List Oper} {o : Oper} {a : Act} {Q : Exit → Act → World → Prop} {w : World} {arr : Array Value}
  (hgd : o.guard = none) (s x : Operand) (ho : o.op = .call { callee := .builtin .append, args := #[s, x], argTypes := #[t, t] })
  {B : Nat} {v : Value} {xs : List α} (hown : Own E e B w v xs) (y : α) (harr : arr.toList = E.cells y) (hs : a.eval s = v) {G : Nat} (hG : G = w.heap.size) (hx : a.eval x = .slice (some ⟨G, 0, none⟩) 1 1)
  (hB : B ≤ w.heap.size) (hn : xs.length + 1 ≤ big)
  (h : ∀ v' w', Own E e B w' v' (xs ++ [y]) → Below B w w' → (∀ b, b < w.heap.size → v.ownBlock ≠ some b → w'.heap[b]? = w.heap[b]?) → wpListIn F m P ops Q rest (a.put o.dst v') w') :
  wpListIn F m P ops Q (o :: rest) a (w.alloc (.cells arr e)) := by
 subst hG;obtain ⟨i, z, hi, hz, hsz, hby, hzc⟩ := hT.info;unfold big at hn
 refine wpListIn_append_own (w.alloc (.cells arr e)) hgd s x t ho B e i z E.sz i.bytes hT.ht hi hz hsz rfl hzc E.pos v xs.length (xs.flatMap E.cells) hs (World.ownsRow.alloc hown _)
  ⟨w.heap.size, 0, none⟩ 1 1 (E.cells y) hx (by rw [E.len]; omega) ?_ (E.one y) (by unfold maxLen; omega) (by have := Nat.mul_le_mul hn hby; omega) (by simp; omega) ?_
 ·intro j u hu;rw [Addr.add_lit, Nat.zero_add, cell_of_row _ w.heap.size j arr e (0, 0) (heap_alloc_new w _), ← hu, ← harr, Array.getElem?_toList]
 ·intro v' w' hown' hg _;have hlt := Own.lt hown;refine h v' w' (by unfold Own; simpa using hown') ?_ (fun b hb hv => ?_)
  ·exact ((Below.refl B w).alloc hB _).grown hg (by simp; omega) fun k hk => (hlt k hk).1
  ·rw [hg.block b (by simp; omega) (fun e => hv e.symm)];exact Below.heap_alloc w _ b hb
end
end Go.Proofs.YtblgkmdadholmabGreatDoor
