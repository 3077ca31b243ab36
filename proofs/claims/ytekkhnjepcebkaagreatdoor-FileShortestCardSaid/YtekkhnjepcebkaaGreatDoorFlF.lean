/- Package file: a text that is parsed. Conditions: the library's table of powers of ten lies as the program's text lays it. -/
import Derived.Test.YtekkhnjepcebkaaGreatDoorFlE
set_option linter.unusedVariables false
set_option linter.unusedSimpArgs false
namespace Go.Proofs.YtekkhnjepcebkaaGreatDoor
namespace File
def lines : Nat → List ByteArray → List UInt8 → Nat → (Int × Nat) ⊕ (List ByteArray × List UInt8 × Nat)
  | 0, _, _, k => .inl (11, k)
  | n + 1, out, l, k =>
    if nextB l = 61 then .inr (out, l, k)
    else if out.length = 24 then .inl (if isDig (nextB l) then 2 else 11, k)
    else match (readLine l k).1 with
      | some x => lines n (out ++ [ba x]) (readLine l k).2.1 (readLine l k).2.2
      | none => .inl (11, (readLine l k).2.2)
def matchAll : List UInt8 → List UInt8 → Nat → Bool × List UInt8 × Nat
  | [], l, k => (true, l, k)
  | a :: ws, l, k => if takes (· == a) l then matchAll ws (rest (· == a) l) (on (· == a) l k) else (false, l, k)
def ending : (Int × Nat) ⊕ (List ByteArray × List UInt8 × Nat) → List ByteArray × Nat × Int
  | .inl (e, k) => ([], k, e)
  | .inr (out, l, k) =>
    let t := matchAll (endOf out) (rest (· == 61) l) (on (· == 61) l k)
    if t.1 = true ∧ t.2.1 = [] then (out, 0, 0) else ([], t.2.2, 8)
/-- What Parse returns: the lines, a place, and an error. -/
def parse (s : List UInt8) : List ByteArray × Nat × Int := ending (lines 25 [] s 0)
end File
namespace Fl
open Go.RowKit
set_option maxRecDepth 100000
def slLen (v : Value) : Nat := match v with
  | .slice _ n _ => n
  | _ => 0
theorem Own.apartBlk {α : Type} {E : Enc α} {e t : TypeId} {B : Nat} {w : World} {v : Value} {xs : List α} {g : Nat} {cs : Array Value} (h : Own E e B w v xs) (hb : Blk w g t cs) (ht : t ≠ e) : v.ownBlock ≠ some g := fun hv => by
  rcases h.2 with ⟨rfl, _⟩ | ⟨g', cap, cur, rfl, _, hg, _⟩
  · cases hv
  · have hg' : g' = g := by simpa [Value.ownBlock] using hv
    unfold Blk at hb
    rw [hg', hb] at hg
    injection hg with hg
    injection hg with _ h2 _
    exact ht h2
theorem Own.only {α : Type} {E : Enc α} {e t : TypeId} {B : Nat} {w w' : World} {v : Value} {xs : List α} {g : Nat} {cs : Array Value} (h : Own E e B w v xs) (hb : Blk w g t cs) (ht : t ≠ e) (ho : Only g w w') : Own E e B w' v xs :=
  h.keep ho.below.size fun b hv => ho.other b (h.lt b hv).2 fun e => Own.apartBlk h hb ht (by rw [hv, e])
theorem takeN_ok : ∀ (n : Nat) (l : List UInt8) (k : Nat), (File.takeN n l k).1 = true → ∀ b ∈ l.take n, File.okB b = true := by
  intro n
  induction n with
  | zero => intro l k _ b hb; simp at hb
  | succ n ih =>
    intro l k h b hb
    unfold File.takeN at h
    split at h
    · rename_i ht
      cases l with
      | nil => simp at hb
      | cons c r =>
        have hc : File.okB c = true := ht
        rw [show File.rest File.okB (c :: r) = r from if_pos hc] at h
        rw [List.take_succ_cons] at hb
        rcases List.mem_cons.1 hb with rfl | hb
        · exact hc
        · exact ih _ _ h b hb
    · cases h
theorem readLine_good {l : List UInt8} {k : Nat} {x : List UInt8} (h : (File.readLine l k).1 = some x) : (File.ba x).size ≤ 40 ∧ File.okLine (File.ba x) = true := by
  unfold File.readLine at h
  dsimp only at h
  split at h
  · rename_i ht
    split at h
    · injection h with h
      subst h
      have hn := File.readNum_le l k
      have hs : (File.takeN (File.readNum l k).1 (File.readNum l k).2.2.1 (File.readNum l k).2.2.2).1 = true := by
        unfold File.runN at ht
        split at ht
        · exact ht
        · cases ht
      refine ⟨by rw [ba_size, List.length_take]; omega, ?_⟩
      unfold File.okLine
      rw [List.all_eq_true]
      intro b hb
      exact takeN_ok _ _ _ hs b (by simpa [File.ba] using hb)
    · cases h
  · cases h
theorem readLine_len (l : List UInt8) (k : Nat) : (File.readLine l k).2.2 + (File.readLine l k).2.1.length = k + l.length := by
  unfold File.readLine
  have h1 := runN_len (File.readNum l k).2.1 (File.readNum l k).1 (File.readNum l k).2.2.1 (File.readNum l k).2.2.2
  have h2 := readNum_len l k
  dsimp only
  split
  · split
    · have h3 := rest_length (· == 10) (File.runN (File.readNum l k).2.1 (File.readNum l k).1 (File.readNum l k).2.2.1 (File.readNum l k).2.2.2).2.1 (File.runN (File.readNum l k).2.1 (File.readNum l k).1 (File.readNum l k).2.2.1 (File.readNum l k).2.2.2).2.2
      dsimp only
      omega
    · dsimp only; omega
  · dsimp only; omega
theorem Good.snoc {l : List ByteArray} {x : ByteArray} (h : Good l) (hl : l.length < 24) (h1 : x.size ≤ 40) (h2 : File.okLine x = true) : Good (l ++ [x]) :=
  ⟨by simp; omega, fun s hs => by rcases List.mem_append.1 hs with h3 | h3; exact h.wide s h3; rw [List.mem_singleton.1 h3]; exact h1, fun s hs => by rcases List.mem_append.1 hs with h3 | h3; exact h.ok s h3; rw [List.mem_singleton.1 h3]; exact h2⟩
theorem Good.nil : Good [] := ⟨by simp, (fun _ h => by cases h), (fun _ h => by cases h)⟩
/-- What Parse hands back. -/
def ParseOk (B : Nat) (r : List ByteArray × Nat × Int) (e : Ending) (w' : World) : Prop := ∃ v, e = .returned (.tuple #[v, iv r.2.1, iv r.2.2]) ∧ Own strE 9 B w' v r.1 ∧ (r.2.2 ≠ 0 → v = .slice none 0 0)
set_option maxHeartbeats 8000000 in
theorem parse_spec (s : List UInt8) (w : World) (hs : s.length ≤ 1000000000) (ht : Tab w) :
    Calls Tryz.prog 47 #[.string (File.ba s)] w fun e w' => ParseOk w.heap.size (File.parse s) e w' ∧ Below w.heap.size w w' := by
  have hmf : ∀ (fn : Fn) (first cap : Array Value) (w : World), (Instr.makeFunc fn first cap).run Tryz.prog w = .ok (.func fn first cap) w := fun _ _ _ _ => rfl
  have HT := Lib.hid ht
  clear ht
  go_enter Tryz.func47, Tryz.ntmps47
  go_wp2_with fail
  have hR1 : RD (w.alloc (.cells #[.string (File.ba s), iv 0] 174)) w.heap.size s 0 := Blk.new _ _ _
  have hb1 : Below w.heap.size w (w.alloc (.cells #[.string (File.ba s), iv 0] 174)) := (Below.refl _ _).alloc (Nat.le_refl _) _
  have hz1 : w.heap.size + 1 ≤ (w.alloc (.cells #[.string (File.ba s), iv 0] 174)).heap.size := by simp
  generalize w.alloc (.cells #[.string (File.ba s), iv 0] 174) = w1 at *
  obtain ⟨L, hL⟩ : ∃ L, L = File.lines 25 [] s 0 := ⟨_, rfl⟩
  have HP : Hid (File.parse s = File.ending L) := Lib.hid (by rw [hL]; rfl)
  have HL := Lib.hid hL
  clear hL
  go_loopw [7, 8, 9] (fun v _ _ wr => ∃ (out : List ByteArray) (l : List UInt8) (k : Nat), Own strE 9 w.heap.size wr v out ∧ Good out ∧ RD wr w.heap.size l k ∧ Below w.heap.size w wr ∧ k + l.length = s.length ∧ Hid (File.lines (25 - out.length) out l k = L)) (fun v _ _ _ => 25 - slLen v)
  case atStart => exact ⟨[], s, 0, Own.nil, Good.nil, hR1, hb1, by omega, Lib.hid HL.out.symm⟩
  case round =>
    obtain ⟨out, l, k, hown, hgood, hR, hbw, hkl, hr⟩ := hrel
    obtain ⟨A, cp, rfl, hcp, hcm⟩ := hown.form
    have hom := hgood.many
    obtain ⟨m0, m1, m2⟩ := hR.agg
    obtain ⟨c, hc⟩ : ∃ c : Nat, c = (File.nextB l).toNat := ⟨_, rfl⟩
    have hc255 : c ≤ 255 := by have := (File.nextB l).toNat_lt; omega
    have HNR : Hid (∀ W : World, Calls Tryz.prog 115 #[.agg #[.string (File.ba l)]] W fun e w' => e = .returned (.int .u8 (c : Int)) ∧ Below W.heap.size W w') := Lib.hid fun W => by rw [hc]; exact next_spec l W
    have HDC : Hid (∀ W : World, Calls Tryz.prog 116 #[.int .u8 (c : Int)] W fun e w' => e = .returned (.bool (File.isDig (File.nextB l))) ∧ W = w') := Lib.hid fun W => by rw [hc]; exact digit_spec _ W
    have HONE : Hid (∀ (a : UInt8) (W : World), Calls Tryz.prog 118 #[bv a] W fun e w' => ∃ q, e = .returned (.agg #[.func (.func 169) #[] #[.pointer (some ⟨q, 0, none⟩)]]) ∧ Blk w' q 5 #[bv a] ∧ Below W.heap.size W w') := Lib.hid fun a W => one_spec a W
    have hcf := callFunc_run (P := Tryz.prog) (K := 114) (by kernel_rfl)
    by_cases h61 : c = 61
    · have h61i : ((c : Int) != 61) = false := by simp; omega
      have hn61 : File.nextB l = 61 := UInt8.toNat_inj.1 (by rw [← hc, h61]; rfl)
      have hLe : L = .inr (out, l, k) := by
        rw [← hr.out, show 25 - out.length = (24 - out.length) + 1 by omega, File.lines, if_pos hn61]
      rw [hLe] at HP
      unfold File.ending at HP
      dsimp only at HP
      have HN61 := Lib.hid hn61
      have HGO := Lib.hid hgood
      have HOW := Lib.hid hown
      clear hc h61 hn61 hLe hr HL HDC hgood hown
      go_wp2_with (go_at_call 115; refine (HNR.out _).mono ?_; rintro e w2 ⟨rfl, hb2⟩)
      refine (show Calls Tryz.prog 118 #[.int .u8 61] _ _ from HONE.out 61 _).mono ?_
      rintro e w3 ⟨q, rfl, hq, hb3⟩
      have hR3 := (hR.below hb2).below hb3
      have hb23 := hb2.trans (hb3.mono hb2.size)
      have hRg := hR.lt
      have HT1 := Lib.hid (takeOne 61 q w.heap.size k l w3 hR3 (by omega) hq)
      have HRL1 := Lib.hid (rest_length (· == 61) l k)
      obtain ⟨l1, hl1⟩ : ∃ l1, l1 = File.rest (· == 61) l := ⟨_, rfl⟩
      obtain ⟨k1, hk1⟩ : ∃ k1, k1 = File.on (· == 61) l k := ⟨_, rfl⟩
      rw [← hl1, ← hk1] at HT1 HP HRL1
      clear hl1 hk1 hb2 hb3 hR m0 m1 m2
      go_wp2_with fail
      refine HT1.out.mono ?_
      rintro e w4 ⟨rfl, hR4, hO4⟩
      have hO04 : Only w.heap.size wr w4 := (Only.of_below hb23 (Nat.le_of_lt hRg)).trans hO4
      have hown4 : Own strE 9 w.heap.size w4 (.slice A out.length cp) out := Own.only (HOW.out.below hb23) hR3 (by decide) hO4
      have hbw4 : Below w.heap.size w w4 := hbw.trans hO04.below
      have hsl4 := hown4.sl
      have HEN := Lib.hid (end_spec A out cp w4 HGO.out hsl4 (HT.out.below hbw4))
      clear HT1 hR3 hb23 hO4 hsl4
      go_wp2_with fail
      refine HEN.out.mono ?_
      rintro e w5 ⟨rfl, hb5⟩
      have hR5 := hR4.below hb5
      have hown5 := hown4.below hb5
      have hbw5 := hbw4.next hb5 (Nat.le_refl _)
      obtain ⟨T, hTe⟩ : ∃ T, T = File.matchAll (File.endOf out) l1 k1 := ⟨_, rfl⟩
      rw [← hTe] at HP
      have HTE := Lib.hid hTe
      obtain ⟨W, hW⟩ : ∃ W, W = File.endOf out := ⟨_, rfl⟩
      have hWl : W.length ≤ 1000 := by
        have := sum_bounds out
        have h2 := dec_len 5 (File.sum out).toNat (by omega)
        rw [hW]; unfold File.endOf; simp; omega
      rw [← hW] at HTE ⊢
      clear hTe hW hR4 hown4 hbw4 hb5 HEN
      go_wp2_with fail
      have hsz : (File.ba W).size = W.length := ba_size W
      have HSZ := Lib.hid hsz
      have hWs : (File.ba W).size ≤ 1000 := by omega
      clear hsz
      go_loopw [11, 64] (fun _ i wx => ∃ (j : Nat) (lj : List UInt8) (kj : Nat), j ≤ (File.ba W).size ∧ i = iv j ∧ RD wx w.heap.size lj kj ∧ Own strE 9 w.heap.size wx (.slice A out.length cp) out ∧ Below w.heap.size w wx ∧ kj + lj.length = s.length ∧ Hid (File.matchAll (W.drop j) lj kj = T)) (fun _ i _ => (File.ba W).size - (intOf i).toNat)
      case atStart => exact ⟨0, l1, k1, Nat.zero_le _, rfl, hR5, hown5, hbw5, by have := HRL1.out; omega, Lib.hid HTE.out.symm⟩
      case round =>
        clear hR5 hown5 hbw5
        obtain ⟨j, lj, kj, hj, rfl, hRj, hoj, hbj, hkj, hr⟩ := hrel
        by_cases hlt : j < (File.ba W).size
        · have hji : (j : Int) < ((File.ba W).size : Int) := by omega
          have hjl : j < W.length := by rw [← HSZ.out]; exact hlt
          have hget : (File.ba W)[j]'hlt = W[j]'hjl := by simp [File.ba, ByteArray.getElem_eq_getElem_data]
          have hr' := hr.out
          rw [List.drop_eq_getElem_cons hjl, File.matchAll] at hr'
          generalize W[j]'hjl = a at hget hr'
          have HR := Lib.hid hr'
          have HGET := Lib.hid hget
          clear hr hr' hget hjl
          have hRg := hRj.lt
          go_wp2_with fail
          rw [HGET.out]
          refine (HONE.out a _).mono ?_
          rintro e w6 ⟨q6, rfl, hq6, hb6⟩
          have hR6 := hRj.below hb6
          have HT6 := Lib.hid (takeOne a q6 w.heap.size kj lj w6 hR6 (by omega) hq6)
          cases hta : File.takes (· == a) lj
          · rw [hta] at HT6 HR
            rw [rest_no hta, on_no hta] at HT6
            simp only [Bool.false_eq_true, if_false] at HR
            clear hta
            go_upto_region 19 with (go_at_call 114; refine HT6.out.mono ?_; rintro e w7 ⟨rfl, hR7, hO7⟩)
            obtain ⟨m0, m1, m2⟩ := hR7.agg
            have hfin : Below w.heap.size w w7.drew := ((hbj.next hb6 (Nat.le_refl _)).trans hO7.below).drew
            have HX : Hid (File.parse s = ([], kj, 8)) := Lib.hid (by rw [HP.out, ← HR.out]; rfl)
            go_region
            go_wp2_with fail
            go_ret3
            refine ⟨?_, hfin⟩
            rw [HX.out]
            exact ⟨_, rfl, Own.nil, fun _ => rfl⟩
          · rw [hta] at HT6 HR
            simp only [if_true] at HR
            have HRL := Lib.hid (rest_length (· == a) lj kj)
            clear hta
            go_wp2_with (go_at_call 114; refine HT6.out.mono ?_; rintro e w7 ⟨rfl, hR7, hO7⟩)
            have hb7 : Below w.heap.size w w7 := (hbj.next hb6 (Nat.le_refl _)).trans hO7.below
            have ho7 := Own.only (hoj.below hb6) hR6 (by decide) hO7
            go_roundw
            case rel => exact ⟨j + 1, _, _, by omega, by go_num, hR7, ho7, hb7, by have := HRL.out; omega, HR⟩
            case measure => simp [intOf]; omega
        · have hji : ¬ (j : Int) < ((File.ba W).size : Int) := by omega
          have hr' := hr.out
          rw [List.drop_eq_nil_of_le (by rw [← HSZ.out]; omega)] at hr'
          have hT : T = (true, lj, kj) := by rw [← hr']; rfl
          rw [hT] at HP
          dsimp only at HP
          clear hr hr' hT HTE
          obtain ⟨m0, m1, m2⟩ := hRj.agg
          cases lj with
          | nil =>
            have h1 := ba_em
            have HX : Hid (File.parse s = (out, 0, 0)) := Lib.hid (by rw [HP.out, if_pos ⟨rfl, rfl⟩])
            go_wp2_with fail
            go_ret3
            refine ⟨?_, hbj⟩
            rw [HX.out]
            exact ⟨_, rfl, hoj, fun h => absurd rfl h⟩
          | cons b r =>
            have h1 := ba_ne (b := b) (l := r)
            have HX : Hid (File.parse s = ([], kj, 8)) := Lib.hid (by rw [HP.out, if_neg (fun h => by cases h.2)])
            go_upto_region 22 with fail
            have hfin : Below w.heap.size w wr.drew := hbj.drew
            go_region
            go_wp2_with fail
            go_ret3
            refine ⟨?_, hfin⟩
            rw [HX.out]
            exact ⟨_, rfl, Own.nil, fun _ => rfl⟩
    · have h61i : ((c : Int) != 61) = true := by simp; omega
      have hn61 : ¬ File.nextB l = 61 := fun h => h61 (by rw [hc, h]; rfl)
      have hr' := hr.out
      rw [show 25 - out.length = (24 - out.length) + 1 by omega, File.lines, if_neg hn61] at hr'
      have hmw := hR.lt
      by_cases h24 : out.length = 24
      · rw [if_pos h24] at hr'
        have h24i : ((out.length : Int) == 24) = true := by simp; omega
        have h24j : ¬ (out.length : Int) < 24 := by omega
        have h24k : ¬ out.length < 24 := by omega
        cases hd : File.isDig (File.nextB l)
        · rw [hd] at HDC hr'
          have HX : Hid (File.parse s = ([], k, 11)) := Lib.hid (by rw [HP.out, ← hr']; rfl)
          clear hr hr' hn61 hc h24 hd
          go_upto_region 11 with (first
            | (go_at_call 115; refine (HNR.out _).mono ?_; rintro e w2 ⟨rfl, hb2⟩; first | have hR3 := hR2.below hb2; obtain ⟨m3, m4, m5⟩ := hR3.agg; have hb03 := hb02.next hb2 (Nat.le_refl _) | have hR2 := hR.below hb2; obtain ⟨m0, m1, m2⟩ := hR2.agg; have hb02 := hbw.next hb2 (Nat.le_refl _))
            | (go_at_call 116; refine (HDC.out _).mono ?_; rintro e w' ⟨rfl, rfl⟩))
          have hfin := hb03.drew
          go_region
          go_wp2_with fail
          go_ret3
          refine ⟨?_, hfin⟩
          rw [HX.out]
          exact ⟨_, rfl, Own.nil, fun _ => rfl⟩
        · rw [hd] at HDC hr'
          have HX : Hid (File.parse s = ([], k, 2)) := Lib.hid (by rw [HP.out, ← hr']; rfl)
          clear hr hr' hn61 hc h24 hd
          go_upto_region 6 with (first
            | (go_at_call 115; refine (HNR.out _).mono ?_; rintro e w2 ⟨rfl, hb2⟩; first | have hR3 := hR2.below hb2; obtain ⟨m3, m4, m5⟩ := hR3.agg; have hb03 := hb02.next hb2 (Nat.le_refl _) | have hR2 := hR.below hb2; obtain ⟨m0, m1, m2⟩ := hR2.agg; have hb02 := hbw.next hb2 (Nat.le_refl _))
            | (go_at_call 116; refine (HDC.out _).mono ?_; rintro e w' ⟨rfl, rfl⟩))
          have hfin := hb03.drew
          go_region
          go_wp2_with fail
          go_ret3
          refine ⟨?_, hfin⟩
          rw [HX.out]
          exact ⟨_, rfl, Own.nil, fun _ => rfl⟩
      · rw [if_neg h24] at hr'
        have h24i : ((out.length : Int) == 24) = false := by simp; omega
        have h24j : (out.length : Int) < 24 := by omega
        have h24l : out.length < 24 := by omega
        have HLN := Lib.hid (fun (W : World) (h : RD W w.heap.size l k) => line_spec w.heap.size k l W h (by omega))
        have hll := readLine_len l k
        cases hx : (File.readLine l k).1 with
        | none =>
          rw [hx] at HLN
          have HX : Hid (File.parse s = ([], (File.readLine l k).2.2, 11)) := Lib.hid (by rw [HP.out, ← hr', hx]; rfl)
          clear hr hr' hn61 hc h24 hx
          generalize (File.readLine l k).2 = q at *
          obtain ⟨l', k'⟩ := q
          dsimp only at HLN HX hll
          go_upto_region 11 with (first
            | (go_at_call 115; refine (HNR.out _).mono ?_; rintro e w2 ⟨rfl, hb2⟩; have hR2 := hR.below hb2; have hb02 := hbw.next hb2 (Nat.le_refl _))
            | (go_at_call 117; refine (HLN.out _ hR2).mono ?_; rintro e w3 ⟨rfl, hR3, hO3⟩; obtain ⟨m3, m4, m5⟩ := hR3.agg))
          have hfin := (hb02.trans hO3.below).drew
          go_region
          go_wp2_with fail
          go_ret3
          refine ⟨?_, hfin⟩
          rw [HX.out]
          exact ⟨_, rfl, Own.nil, fun _ => rfl⟩
        | some x =>
          rw [hx] at HLN hr'
          have hxg := readLine_good hx
          have HR : Hid (File.lines (25 - (out ++ [File.ba x]).length) (out ++ [File.ba x]) (File.readLine l k).2.1 (File.readLine l k).2.2 = L) := Lib.hid (by rw [← hr']; simp only [List.length_append, List.length_singleton]; rw [show 25 - (out.length + 1) = 24 - out.length by omega])
          have hgs := hgood.snoc h24l hxg.1 hxg.2
          clear hr hr' hn61 hc h24 hx
          generalize (File.readLine l k).2 = q at *
          obtain ⟨l', k'⟩ := q
          dsimp only at HLN HR hll
          go_wp2_with (first
            | (go_at_call 115; refine (HNR.out _).mono ?_; rintro e w2 ⟨rfl, hb2⟩; have hR2 := hR.below hb2; have hb02 := hbw.next hb2 (Nat.le_refl _); have ho2 := hown.below hb2)
            | (go_at_call 117; refine (HLN.out _ hR2).mono ?_; rintro e w3 ⟨rfl, hR3, hO3⟩; have ho3 := Own.only ho2 hR2 (by decide) hO3; have hb03 := hb02.trans hO3.below)
            | (at_builtin; refine wpApp1 strE tyStrs rfl _ _ rfl ho3 (File.ba x) rfl rfl rfl hb03.size (by unfold big; omega) ?_; intro v5 w5 hown5 hb5 hot5))
          have hR5 : RD w5 w.heap.size l' k' := (hot5 _ hR3.lt (Own.apartBlk ho3 hR3 (by decide))).trans hR3
          obtain ⟨A5, c5, rfl, _, _⟩ := hown5.form
          go_roundw
          case rel => exact ⟨out ++ [File.ba x], l', k', hown5, hgs, hR5, hb03.trans hb5, by omega, HR⟩
          case measure => simp [slLen]; omega
end Fl
end Go.Proofs.YtekkhnjepcebkaaGreatDoor
