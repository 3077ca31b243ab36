/- The reference of layer 11: a text that is parsed. Conditions: lengths are below a great bound. -/
import Derived.Test.YtkhmkpcihphkcaaDoorRefFb
import Derived.Test.YtkhmkpcihphkcaaDoorRefFc
set_option linter.unusedVariables false
set_option linter.unusedSimpArgs false
namespace Go.Proofs.YtkhmkpcihphkcaaDoor
namespace File
/-- The end of a text, read with its sign. -/
theorem ending_all (out : List ByteArray) (l : List UInt8) (k : Nat) (h : nextB l = 61) :
    ending (.inr (out, l, k)) = (if (matchAll (61 :: endOf out) l k).1 = true ∧ (matchAll (61 :: endOf out) l k).2.1 = [] then (out, 0, 0) else ([], (matchAll (61 :: endOf out) l k).2.2, 8)) := by
  have ht : takes (· == 61) l = true := by
    cases l with
    | nil => exact absurd h (by decide)
    | cons b r => have : b = 61 := h; subst this; rfl
  have e : matchAll (61 :: endOf out) l k = matchAll (endOf out) (rest (· == 61) l) (on (· == 61) l k) := by
    conv => lhs; unfold matchAll
    rw [if_pos ht]
  rw [e]
  rfl
theorem lines_eq61 {n : Nat} {out : List ByteArray} {l : List UInt8} {k : Nat} (h : nextB l = 61) : lines (n + 1) out l k = .inr (out, l, k) := by
  unfold lines; rw [if_pos h]
theorem lines_full {n : Nat} {out : List ByteArray} {l : List UInt8} {k : Nat} (h : nextB l ≠ 61) (ho : out.length = 24) : lines (n + 1) out l k = .inl (if isDig (nextB l) then 2 else 11, k) := by
  unfold lines; rw [if_neg h, if_pos ho]
theorem lines_some {n : Nat} {out : List ByteArray} {l : List UInt8} {k : Nat} {x : List UInt8} (h : nextB l ≠ 61) (ho : out.length ≠ 24) (hx : (readLine l k).1 = some x) : lines (n + 1) out l k = lines n (out ++ [ba x]) (readLine l k).2.1 (readLine l k).2.2 := by
  conv => lhs; unfold lines
  rw [if_neg h, if_neg ho, hx]
theorem lines_none {n : Nat} {out : List ByteArray} {l : List UInt8} {k : Nat} (h : nextB l ≠ 61) (ho : out.length ≠ 24) (hx : (readLine l k).1 = none) : lines (n + 1) out l k = .inl (11, (readLine l k).2.2) := by
  conv => lhs; unfold lines
  rw [if_neg h, if_neg ho, hx]
theorem lines_nil {n : Nat} {out : List ByteArray} {k : Nat} : lines (n + 1) out [] k = .inl (11, k) := by
  unfold lines
  rw [if_neg (by decide)]
  split
  · rfl
  · rfl
theorem match_nil {a : UInt8} {ws : List UInt8} {k : Nat} : matchAll (a :: ws) [] k = (false, [], k) := rfl
theorem match_no {a b : UInt8} {ws l : List UInt8} {k : Nat} (h : b ≠ a) : matchAll (a :: ws) (b :: l) k = (false, b :: l, k) := by
  unfold matchAll
  rw [if_neg (by simpa [takes] using h)]
theorem match_yes {a : UInt8} {ws l : List UInt8} {k : Nat} : matchAll (a :: ws) (a :: l) k = matchAll ws l (k + 1) := by
  conv => lhs; unfold matchAll
  rw [if_pos (takes_cons a l), rest_cons]
  congr 1
  unfold on
  rw [if_pos (takes_cons a l)]
theorem dec_no58 {n : Nat} (h : n ≤ 40) : ∀ b ∈ Lib.decDigits n, b ≠ 58 := by
  intro b hb e
  subst e
  by_cases h1 : n < 10
  · rw [Lib.decDigits_one h1] at hb
    have := List.mem_singleton.1 hb
    have := (dig_nat h1).1
    rw [← List.mem_singleton.1 hb] at this
    cases this
  · rw [Lib.decDigits_two h1 (by omega)] at hb
    have h2 := (dig_nat (m := n / 10) (by omega)).1
    have h3 := (dig_nat (m := n % 10) (by omega)).1
    rcases List.mem_cons.1 hb with e | hb
    · rw [← e] at h2; cases h2
    · rw [← List.mem_singleton.1 hb] at h3; cases h3
end File
namespace Fl
open Go.RowKit
set_option maxRecDepth 100000
theorem can_call (s : List UInt8) (hs : s.length ≤ 1500) {k i : Nat} (hi : k + i ≤ s.length) (r1 r2 : Bool) (h : File.can ((s.drop k).take i) = (r1, r2)) (w : World) :
    Calls Tryd.prog 62 #[.string (File.ba ((s.drop k).take i))] w fun e w' => e = .returned (.tuple #[.bool r1, .bool r2]) ∧ w = w' := by
  have := can_spec ((s.drop k).take i) w (by rw [List.length_take]; omega)
  rw [h] at this
  exact this
set_option maxHeartbeats 1500000 in
theorem rparse_spec (s : List UInt8) (w : World) (hs : s.length ≤ 1500) :
    Calls Tryd.prog 13 #[.string (File.ba s)] w fun e w' => ParseOk w.heap.size (File.parse s) e w' ∧ Below w.heap.size w w' := by
  obtain ⟨L, hL⟩ : ∃ L, L = File.lines 25 [] s 0 := ⟨_, rfl⟩
  have HP : Hid (File.parse s = File.ending L) := Lib.hid (by rw [hL]; rfl)
  have HL := Lib.hid hL
  clear hL
  obtain ⟨S, hS⟩ : ∃ S, S = File.ba s := ⟨_, rfl⟩
  have HSz : Hid (S.size = s.length) := Lib.hid (by rw [hS]; exact ba_size s)
  have hS15 : S.size ≤ 1500 := by have := HSz.out; omega
  have HCUT : Hid (∀ i j : Nat, i ≤ j → j ≤ S.size → ∀ W : World, (Instr.slice 9 (.string S) (some (iv (i : Int))) (some (iv (j : Int))) none).run Tryd.prog W = .ok (.string (File.ba ((s.drop i).take (j - i)))) W) := Lib.hid fun i j h1 h2 W => by rw [hS]; exact bCut h1 (by have := HSz.out; omega) W
  have HGET : Hid (∀ (k : Nat) (h : k < S.size), ∃ h' : k < s.length, S[k]'h = s[k]'h') := Lib.hid fun k h => ⟨by have := HSz.out; omega, by subst hS; rfl⟩
  rw [← hS]
  clear hS
  go_enter Tryd.func13, Tryd.ntmps13
  go_wp2_with fail
  go_loopw [5, 6, 7, 8, 9, 10, 11] (fun v f _ _ _ _ _ wr => ∃ (out : List ByteArray) (k : Nat), f = iv k ∧ k ≤ S.size ∧ Own strE 9 w.heap.size wr v out ∧ Hid (Good out) ∧ out.length ≤ 24 ∧ Hid (File.lines (25 - out.length) out (s.drop k) k = L) ∧ Below w.heap.size w wr) (fun _ f _ _ _ _ _ _ => S.size - (intOf f).toNat)
  case atStart => exact ⟨[], 0, rfl, Nat.zero_le _, Own.nil, Lib.hid Good.nil, by simp, Lib.hid HL.out.symm, Below.refl _ _⟩
  case round =>
    obtain ⟨out, k, rfl, hk, hown, HG, ho24, HLN, hbr⟩ := hrel
    obtain ⟨Ao, co, rfl, hco, _⟩ := hown.form
    by_cases hlt : k < S.size
    · have hki : (k : Int) < (S.size : Int) := by omega
      obtain ⟨hks, hget⟩ := HGET.out k hlt
      have hdr := List.drop_eq_getElem_cons hks
      have hnx : File.nextB (s.drop k) = s[k]'hks := by rw [hdr]; rfl
      generalize hv : (S[k]'hlt).toNat = v at *
      rw [hget] at hv
      by_cases h61 : v = 61
      · -- the end of the text
        have h61i : ((v : Int) != 61) = false := by simp [h61]
        have h61j : (v : Int) = 61 := by omega
        have hn61 : File.nextB (s.drop k) = 61 := by rw [hnx]; exact UInt8.toNat_inj.1 (by rw [hv, h61]; rfl)
        have hLx := HLN.out
        rw [show 25 - out.length = (24 - out.length) + 1 by omega, File.lines_eq61 hn61] at hLx
        have hP := HP.out
        rw [← hLx, File.ending_all _ _ _ hn61] at hP
        have hgd := HG.out
        have hb := sum_bounds out
        obtain ⟨n, hn⟩ : ∃ n : Nat, File.sum out = n := ⟨(File.sum out).toNat, by omega⟩
        have HSM : Hid (Calls Tryd.prog 27 #[.slice Ao out.length co] wr fun e w' => e = .returned (iv (n : Int)) ∧ Below wr.heap.size wr w') := Lib.hid (by rw [← hn]; exact rsum_spec Ao out co wr hgd.many hgd.wide hown.sl)
        obtain ⟨D, hD⟩ : ∃ D, D = File.ba (Lib.decDigits n) := ⟨_, rfl⟩
        obtain ⟨FE, hFE⟩ : ∃ FE, FE = File.ba [10] := ⟨_, rfl⟩
        obtain ⟨ws, hws⟩ : ∃ ws, ws = 61 :: File.endOf out := ⟨_, rfl⟩
        obtain ⟨WB, hWB⟩ : ∃ WB, WB = File.ba ws := ⟨_, rfl⟩
        have z1 : D.size ≤ 6 := by rw [hD, ba_size']; exact dec_len 5 _ (by omega)
        have z2 : FE.size = 1 := by rw [hFE]; rfl
        have HDG : Hid (∀ x : World, Calls Tryd.prog 63 #[iv (n : Int)] x fun e w' => e = .returned (.string D) ∧ x = w') := Lib.hid fun x => by
          rw [hD]
          exact digits_spec n x (by omega)
        have HFE : Hid (∀ x : World, Calls Tryd.prog 64 #[] x fun e w' => e = .returned (.string FE) ∧ Below x.heap.size x w') := Lib.hid fun x => by rw [hFE]; exact feed_spec x
        have hcat : (⟨#[61]⟩ : ByteArray) ++ D ++ FE = WB := by
          rw [hD, hFE, hWB, hws]
          apply ByteArray.ext
          simp [File.ba, File.endOf, hn]
        have hWz : WB.size = D.size + 2 := by rw [← hcat, ByteArray.size_append, ByteArray.size_append, z2]; show 1 + D.size + 1 = _; omega
        have HWL : Hid (WB.size = ws.length) := Lib.hid (by rw [hWB]; exact ba_size ws)
        have HWG : Hid (∀ (i : Nat) (h : i < WB.size), ∃ h' : i < ws.length, WB[i]'h = ws[i]'h') := Lib.hid fun i h => ⟨by have := HWL.out; omega, by subst hWB; rfl⟩
        rw [← hws] at hP
        obtain ⟨T, hT⟩ : ∃ T, T = File.matchAll ws (s.drop k) k := ⟨_, rfl⟩
        rw [← hT] at hP
        have HPX := Lib.hid hP
        have HT := Lib.hid hT
        have hW8 : WB.size ≤ 8 := by omega
        have hke : ((k : Int) == (S.size : Int)) = false := by simp; omega
        have hkf : ¬ (k : Int) = (S.size : Int) := by omega
        clear hD hFE hWB hws hT hP hLx hn61 hnx hdr hgd hb hn hWz h61
        go_wp2_with fail
        refine HSM.out.mono ?_
        rintro e w1 ⟨rfl, hb1⟩
        go_wp2_with fail
        refine (HDG.out w1).mono ?_
        rintro e w2 ⟨rfl, rfl⟩
        go_wp2_with fail
        refine (HFE.out w1).mono ?_
        rintro e w3 ⟨rfl, hb3⟩
        have hb03 := (hbr.next hb1 (Nat.le_refl _)).next hb3 (Nat.le_refl _)
        have hown3 := (hown.below hb1).below hb3
        clear hb1 hb3 hown HSM HDG HFE
        go_wp2_with fail
        go_loopw [13] (fun i wx => ∃ q : Nat, q ≤ WB.size ∧ i = iv q ∧ k + q ≤ S.size ∧ Hid (File.matchAll (ws.drop q) (s.drop (k + q)) (k + q) = T) ∧ Below w3.heap.size w3 wx) (fun i _ => WB.size - (intOf i).toNat)
        case atStart => exact ⟨0, Nat.zero_le _, rfl, hk, Lib.hid HT.out.symm, Below.refl _ _⟩
        case round =>
          obtain ⟨q, hq, rfl, hkq, hm, hbx⟩ := hrel
          by_cases hqw : q < WB.size
          · have hqi : (q : Int) < (WB.size : Int) := by omega
            obtain ⟨hqs, hwg⟩ := HWG.out q hqw
            have hm' := hm.out
            rw [List.drop_eq_getElem_cons hqs] at hm'
            obtain ⟨p, hp⟩ : ∃ p, p = k + q := ⟨_, rfl⟩
            have hsum : (k : Int) + (q : Int) = (p : Int) := by omega
            have eq2 : IntKind.i64.wrap (p : Int) = (p : Int) := IntWalk.i64_in _ (by omega)
            have eq1 : IntKind.i64.wrap ((k : Int) + (q : Int)) = (p : Int) := by rw [hsum]; exact eq2
            rw [← hp] at hm' hkq
            have HP2 := Lib.hid hp
            clear hp hm
            by_cases hend : p < S.size
            · have hge : ¬ (S.size : Int) ≤ (p : Int) := by omega
              have hpi : (p : Int) < (S.size : Int) := by omega
              obtain ⟨hs', hsg⟩ := HGET.out p hend
              rw [List.drop_eq_getElem_cons hs'] at hm'
              obtain ⟨v1, hv1⟩ : ∃ v1, (S[p]'hend).toNat = v1 := ⟨_, rfl⟩
              obtain ⟨v2, hv2⟩ : ∃ v2, (WB[q]'hqw).toNat = v2 := ⟨_, rfl⟩
              have hq1 := hv1
              have hq2 := hv2
              rw [hsg] at hq1
              rw [hwg] at hq2
              obtain ⟨nb, hnb⟩ : ∃ nb, nb = ((v1 : Int) != (v2 : Int)) := ⟨_, rfl⟩
              have hne : ((v1 : Int) != (v2 : Int)) = nb := hnb.symm
              have HTRUE : Hid (nb = true → File.parse s = ([], p, 8)) := Lib.hid fun h => by
                rw [hnb] at h
                have hnq : s[p]'hs' ≠ ws[q]'hqs := fun e => by
                  have : v1 = v2 := by rw [← hq1, ← hq2, e]
                  simp [this] at h
                rw [File.match_no hnq] at hm'
                rw [HPX.out, ← hm', if_neg (by rintro ⟨h, _⟩; cases h)]
              have HFALSE : Hid (nb = false → File.matchAll (ws.drop (q + 1)) (s.drop (k + (q + 1))) (k + (q + 1)) = T) := Lib.hid fun h => by
                rw [hnb] at h
                have he : v1 = v2 := by
                  have : (v1 : Int) = (v2 : Int) := by simpa using h
                  omega
                have heq : s[p]'hs' = ws[q]'hqs := UInt8.toNat_inj.1 (by rw [hq1, hq2, he])
                rw [heq, File.match_yes] at hm'
                have h2 := HP2.out
                rw [show k + (q + 1) = p + 1 by omega]; exact hm'
              clear hm' hq1 hq2 hsg hwg hv hnb
              go_wp2_with fail
              refine wp_free_lit (by kernel_rfl) 17 (by kernel_rfl) (by kernel_rfl) (by decide) (fun _ x => Below wr.heap.size wr x) (fun x x' => Below x.heap.size x x')
                [fun _ u _ => u = iv (k : Int),
                 fun _ u _ => u = iv (q : Int),
                 fun _ u _ => u = iv (p : Int),
                 fun _ u _ => u = .string S,
                 fun _ u _ => u = iv (S.size : Int),
                 fun _ u _ => u = .bool false,
                 fun _ u _ => u = .bool false,
                 fun _ u _ => u = .string S,
                 fun _ u _ => u = iv (k : Int),
                 fun _ u _ => u = iv (q : Int),
                 fun _ u _ => u = iv (p : Int),
                 fun _ u _ => u = .int .u8 (v1 : Int),
                 fun _ u _ => u = .string WB,
                 fun _ u _ => u = iv (q : Int),
                 fun _ u _ => u = .int .u8 (v2 : Int),
                 fun _ u _ => u = .bool nb,
                 fun _ u _ => u = .bool nb]
                (Below.refl _ wr).drew ?_ ?_
              · simp only [List.take_succ_cons, List.take_zero, HopL]
                refine ⟨?_, ?_, ?_, ?_, ?_, ?_, ?_, ?_, ?_, ?_, ?_, ?_, ?_, ?_, ?_, ?_, ?_, trivial⟩
                · refine ⟨fun _ _ _ _ _ h => h, fun _ _ _ _ h _ => h, fun v n x hn hR hk => ?_⟩
                  simp only [List.take_succ_cons, List.take_zero, frameF, Act.put, List.setIfInBounds_toArray, List.set_cons_zero, List.set_cons_succ]
                  exact stepF_val (by first | rfl | simp [Region.wanted, yielded, *]) (by go_simp <;> omega) ⟨rfl, Below.refl _ _, hR⟩
                · refine ⟨fun _ _ _ _ _ h => h, fun _ _ _ _ h _ => h, fun v n x hn hR hk => ?_⟩
                  simp only [List.take_succ_cons, List.take_zero, frameF, Act.put, List.setIfInBounds_toArray, List.set_cons_zero, List.set_cons_succ]
                  exact stepF_val (by first | rfl | simp [Region.wanted, yielded, *]) (by go_simp <;> omega) ⟨rfl, Below.refl _ _, hR⟩
                · refine ⟨fun _ _ _ _ _ h => h, fun _ _ _ _ h _ => h, fun v n x hn hR hk => ?_⟩
                  have h0 : v 0 = iv (k : Int) := hk 0 (by kernel_rfl)
                  have h1 : v 1 = iv (q : Int) := hk 1 (by kernel_rfl)
                  simp only [List.take_succ_cons, List.take_zero, frameF, Act.put, List.setIfInBounds_toArray, List.set_cons_zero, List.set_cons_succ]
                  exact stepF_val (by first | rfl | simp [Region.wanted, yielded, *]) (by go_simp <;> omega) ⟨rfl, Below.refl _ _, hR⟩
                · refine ⟨fun _ _ _ _ _ h => h, fun _ _ _ _ h _ => h, fun v n x hn hR hk => ?_⟩
                  simp only [List.take_succ_cons, List.take_zero, frameF, Act.put, List.setIfInBounds_toArray, List.set_cons_zero, List.set_cons_succ]
                  exact stepF_val (by first | rfl | simp [Region.wanted, yielded, *]) (by go_simp <;> omega) ⟨rfl, Below.refl _ _, hR⟩
                · refine ⟨fun _ _ _ _ _ h => h, fun _ _ _ _ h _ => h, fun v n x hn hR hk => ?_⟩
                  have h3 : v 3 = .string S := hk 3 (by kernel_rfl)
                  simp only [List.take_succ_cons, List.take_zero, frameF, Act.put, List.setIfInBounds_toArray, List.set_cons_zero, List.set_cons_succ]
                  exact stepF_val (by first | rfl | simp [Region.wanted, yielded, *]) (by go_simp <;> omega) ⟨rfl, Below.refl _ _, hR⟩
                · refine ⟨fun _ _ _ _ _ h => h, fun _ _ _ _ h _ => h, fun v n x hn hR hk => ?_⟩
                  have h2 : v 2 = iv (p : Int) := hk 2 (by kernel_rfl)
                  have h4 : v 4 = iv (S.size : Int) := hk 4 (by kernel_rfl)
                  simp only [List.take_succ_cons, List.take_zero, frameF, Act.put, List.setIfInBounds_toArray, List.set_cons_zero, List.set_cons_succ]
                  exact stepF_val (by first | rfl | simp [Region.wanted, yielded, *]) (by go_simp <;> omega) ⟨rfl, Below.refl _ _, hR⟩
                · refine ⟨fun _ _ _ _ _ h => h, fun _ _ _ _ h _ => h, fun v n x hn hR hk => ?_⟩
                  have h5 : v 5 = .bool false := hk 5 (by kernel_rfl)
                  simp only [List.take_succ_cons, List.take_zero, frameF, Act.put, List.setIfInBounds_toArray, List.set_cons_zero, List.set_cons_succ]
                  exact stepF_val (by first | rfl | simp [Region.wanted, yielded, *]) (by go_simp <;> omega) ⟨rfl, Below.refl _ _, hR⟩
                · refine ⟨fun _ _ _ _ _ h => h, fun _ _ _ _ h _ => h, fun v n x hn hR hk => ?_⟩
                  have h6 : v 6 = .bool false := hk 6 (by kernel_rfl)
                  simp only [List.take_succ_cons, List.take_zero, frameF, Act.put, List.setIfInBounds_toArray, List.set_cons_zero, List.set_cons_succ]
                  exact stepF_val (by first | rfl | simp [Region.wanted, yielded, *]) (by go_simp <;> omega) ⟨rfl, Below.refl _ _, hR⟩
                · refine ⟨fun _ _ _ _ _ h => h, fun _ _ _ _ h _ => h, fun v n x hn hR hk => ?_⟩
                  have h6 : v 6 = .bool false := hk 6 (by kernel_rfl)
                  simp only [List.take_succ_cons, List.take_zero, frameF, Act.put, List.setIfInBounds_toArray, List.set_cons_zero, List.set_cons_succ]
                  exact stepF_val (by first | rfl | simp [Region.wanted, yielded, *]) (by go_simp <;> omega) ⟨rfl, Below.refl _ _, hR⟩
                · refine ⟨fun _ _ _ _ _ h => h, fun _ _ _ _ h _ => h, fun v n x hn hR hk => ?_⟩
                  have h6 : v 6 = .bool false := hk 6 (by kernel_rfl)
                  simp only [List.take_succ_cons, List.take_zero, frameF, Act.put, List.setIfInBounds_toArray, List.set_cons_zero, List.set_cons_succ]
                  exact stepF_val (by first | rfl | simp [Region.wanted, yielded, *]) (by go_simp <;> omega) ⟨rfl, Below.refl _ _, hR⟩
                · refine ⟨fun _ _ _ _ _ h => h, fun _ _ _ _ h _ => h, fun v n x hn hR hk => ?_⟩
                  have h6 : v 6 = .bool false := hk 6 (by kernel_rfl)
                  have h8 : v 8 = iv (k : Int) := hk 8 (by kernel_rfl)
                  have h9 : v 9 = iv (q : Int) := hk 9 (by kernel_rfl)
                  simp only [List.take_succ_cons, List.take_zero, frameF, Act.put, List.setIfInBounds_toArray, List.set_cons_zero, List.set_cons_succ]
                  exact stepF_val (by first | rfl | simp [Region.wanted, yielded, *]) (by go_simp <;> omega) ⟨rfl, Below.refl _ _, hR⟩
                · refine ⟨fun _ _ _ _ _ h => h, fun _ _ _ _ h _ => h, fun v n x hn hR hk => ?_⟩
                  have h6 : v 6 = .bool false := hk 6 (by kernel_rfl)
                  have h7 : v 7 = .string S := hk 7 (by kernel_rfl)
                  have h10 : v 10 = iv (p : Int) := hk 10 (by kernel_rfl)
                  simp only [List.take_succ_cons, List.take_zero, frameF, Act.put, List.setIfInBounds_toArray, List.set_cons_zero, List.set_cons_succ]
                  exact stepF_val (by first | rfl | simp [Region.wanted, yielded, *]) (by go_simp <;> omega) ⟨rfl, Below.refl _ _, hR⟩
                · refine ⟨fun _ _ _ _ _ h => h, fun _ _ _ _ h _ => h, fun v n x hn hR hk => ?_⟩
                  have h6 : v 6 = .bool false := hk 6 (by kernel_rfl)
                  simp only [List.take_succ_cons, List.take_zero, frameF, Act.put, List.setIfInBounds_toArray, List.set_cons_zero, List.set_cons_succ]
                  exact stepF_val (by first | rfl | simp [Region.wanted, yielded, *]) (by go_simp <;> omega) ⟨rfl, Below.refl _ _, hR⟩
                · refine ⟨fun _ _ _ _ _ h => h, fun _ _ _ _ h _ => h, fun v n x hn hR hk => ?_⟩
                  have h6 : v 6 = .bool false := hk 6 (by kernel_rfl)
                  simp only [List.take_succ_cons, List.take_zero, frameF, Act.put, List.setIfInBounds_toArray, List.set_cons_zero, List.set_cons_succ]
                  exact stepF_val (by first | rfl | simp [Region.wanted, yielded, *]) (by go_simp <;> omega) ⟨rfl, Below.refl _ _, hR⟩
                · refine ⟨fun _ _ _ _ _ h => h, fun _ _ _ _ h _ => h, fun v n x hn hR hk => ?_⟩
                  have h6 : v 6 = .bool false := hk 6 (by kernel_rfl)
                  have h12 : v 12 = .string WB := hk 12 (by kernel_rfl)
                  have h13 : v 13 = iv (q : Int) := hk 13 (by kernel_rfl)
                  simp only [List.take_succ_cons, List.take_zero, frameF, Act.put, List.setIfInBounds_toArray, List.set_cons_zero, List.set_cons_succ]
                  exact stepF_val (by first | rfl | simp [Region.wanted, yielded, *]) (by go_simp <;> omega) ⟨rfl, Below.refl _ _, hR⟩
                · refine ⟨fun _ _ _ _ _ h => h, fun _ _ _ _ h _ => h, fun v n x hn hR hk => ?_⟩
                  have h6 : v 6 = .bool false := hk 6 (by kernel_rfl)
                  have h11 : v 11 = .int .u8 (v1 : Int) := hk 11 (by kernel_rfl)
                  have h14 : v 14 = .int .u8 (v2 : Int) := hk 14 (by kernel_rfl)
                  simp only [List.take_succ_cons, List.take_zero, frameF, Act.put, List.setIfInBounds_toArray, List.set_cons_zero, List.set_cons_succ]
                  exact stepF_val (by first | rfl | simp [Region.wanted, yielded, *]) (by go_simp <;> omega) ⟨rfl, Below.refl _ _, hR⟩
                · refine ⟨fun _ _ _ _ _ h => h, fun _ _ _ _ h _ => h, fun v n x hn hR hk => ?_⟩
                  have h6 : v 6 = .bool false := hk 6 (by kernel_rfl)
                  have h15 : v 15 = .bool nb := hk 15 (by kernel_rfl)
                  simp only [List.take_succ_cons, List.take_zero, frameF, Act.put, List.setIfInBounds_toArray, List.set_cons_zero, List.set_cons_succ]
                  exact stepF_val (by first | rfl | simp [Region.wanted, yielded, *]) (by go_simp <;> omega) ⟨rfl, Below.refl _ _, hR⟩
              · intro v n x hn hR hall
                have h16 : v 16 = .bool nb := hall 16 (by decide)
                clear hall hn
                simp only [List.drop_succ_cons, List.drop_zero, List.drop_nil, List.take_succ_cons, List.take_zero, frameF, Act.put, List.setIfInBounds_toArray, List.set_cons_zero, List.set_cons_succ, Nat.zero_add, Nat.reduceAdd, h16]
                have hbq := hbx.next hR (Nat.le_refl _)
                cases nb
                · have HN := Lib.hid (HFALSE.out rfl)
                  go_wp2_with fail
                  go_roundw
                  case rel => exact ⟨q + 1, hqw, by go_num, by have := HP2.out; omega, HN, hbq⟩
                  case measure => simp [intOf]; omega
                · have HX := Lib.hid (HTRUE.out rfl)
                  go_wp2_with fail
                  go_ret3
                  refine ⟨?_, hb03.next hbq (Nat.le_refl _)⟩
                  rw [HX.out]
                  exact ⟨.slice none 0 0, by go_num, Own.nil, fun _ => rfl⟩
            · have hge : (S.size : Int) ≤ (p : Int) := by omega
              have hdn : s.drop p = [] := List.drop_eq_nil_of_le (by have := HSz.out; omega)
              rw [hdn, File.match_nil] at hm'
              have HX : Hid (File.parse s = ([], p, 8)) := Lib.hid (by rw [HPX.out, ← hm', if_neg (by rintro ⟨h, _⟩; cases h)])
              clear hm' hwg hv hdn
              go_wp2_with fail
              go_quiet (fail)
              have hbq : Below w3.heap.size w3 (wr.drewN nq) := ⟨hbx.os, hbx.tape, hbx.output, hbx.size, hbx.block⟩
              generalize wr.drewN nq = wq at *
              go_wp2_with fail
              go_ret3
              refine ⟨?_, hb03.next hbq (Nat.le_refl _)⟩
              rw [HX.out]
              exact ⟨.slice none 0 0, by go_num, Own.nil, fun _ => rfl⟩
          · have hqi : ¬ (q : Int) < (WB.size : Int) := by omega
            obtain rfl : q = WB.size := by omega
            have hm' := hm.out
            have hwn : ws.drop WB.size = [] := List.drop_eq_nil_of_le (by have := HWL.out; omega)
            rw [hwn] at hm'
            have eq1 : IntKind.i64.wrap ((k : Int) + (WB.size : Int)) = (k : Int) + (WB.size : Int) := IntWalk.i64_in _ (by omega)
            have hT2 : T = (true, s.drop (k + WB.size), k + WB.size) := hm'.symm
            by_cases hend : k + WB.size < S.size
            · have hei : (k : Int) + (WB.size : Int) < (S.size : Int) := by omega
              have HX : Hid (File.parse s = ([], k + WB.size, 8)) := Lib.hid (by
                rw [HPX.out, hT2, if_neg (by
                  rintro ⟨_, h⟩
                  have := congrArg List.length h
                  rw [List.length_drop] at this
                  have := HSz.out
                  simp at *
                  omega)])
              clear hm hm' hT2 hv
              go_wp2_with fail
              go_ret3
              refine ⟨?_, hb03.next hbx (Nat.le_refl _)⟩
              rw [HX.out]
              exact ⟨.slice none 0 0, by go_num, Own.nil, fun _ => rfl⟩
            · have hei : ¬ (k : Int) + (WB.size : Int) < (S.size : Int) := by omega
              have HX : Hid (File.parse s = (out, 0, 0)) := Lib.hid (by
                rw [HPX.out, hT2, if_pos ⟨rfl, List.drop_eq_nil_of_le (by have := HSz.out; omega)⟩])
              clear hm hm' hT2 hv
              go_wp2_with fail
              go_ret3
              refine ⟨?_, hb03.next hbx (Nat.le_refl _)⟩
              rw [HX.out]
              exact ⟨_, rfl, hown3.below hbx, fun h => absurd rfl h⟩
      · have h61i : ((v : Int) != 61) = true := by simp; omega
        have h61j : ¬ (v : Int) = 61 := by omega
        have hn61 : File.nextB (s.drop k) ≠ 61 := fun h => h61 (by rw [← hv, ← hnx, h]; rfl)
        have hLx := HLN.out
        rw [show 25 - out.length = (24 - out.length) + 1 by omega] at hLx
        by_cases h24 : out.length = 24
        · rw [File.lines_full hn61 h24, hnx] at hLx
          have h24i : ((out.length : Int) == 24) = true := by simp; omega
          have h24j : (out.length : Int) = 24 := by omega
          by_cases hd : 48 ≤ v ∧ v ≤ 57
          · have hdg : File.isDig (s[k]'hks) = true := by simp [File.isDig, hv]; exact hd
            have d1 : (48 : Int) ≤ (v : Int) := by omega
            have d2 : (v : Int) ≤ 57 := by omega
            have HX : Hid (File.parse s = ([], k, 2)) := Lib.hid (by rw [HP.out, ← hLx, hdg]; rfl)
            clear hLx h61 hd hdr hnx hn61
            go_wp2_with fail
            go_ret3
            refine ⟨?_, hbr⟩
            rw [HX.out]
            exact ⟨_, rfl, Own.nil, fun _ => rfl⟩
          · have hdg : File.isDig (s[k]'hks) = false := by simp [File.isDig, hv]; omega
            have HX : Hid (File.parse s = ([], k, 11)) := Lib.hid (by rw [HP.out, ← hLx, hdg]; rfl)
            by_cases hd1 : 48 ≤ v
            · have d1 : (48 : Int) ≤ (v : Int) := by omega
              have d2 : ¬ (v : Int) ≤ 57 := by omega
              clear hLx h61 hd hdr hnx hn61
              go_wp2_with fail
              go_ret3
              refine ⟨?_, hbr⟩
              rw [HX.out]
              exact ⟨_, rfl, Own.nil, fun _ => rfl⟩
            · have d1 : ¬ (48 : Int) ≤ (v : Int) := by omega
              clear hLx h61 hd hdr hnx hn61
              go_wp2_with fail
              go_ret3
              refine ⟨?_, hbr⟩
              rw [HX.out]
              exact ⟨_, rfl, Own.nil, fun _ => rfl⟩
        · have h24i : ((out.length : Int) == 24) = false := by simp; omega
          have h24j : ¬ (out.length : Int) = 24 := by omega
          have hdl : (s.drop k).length = S.size - k := by rw [List.length_drop]; have := HSz.out; omega
          rcases File.read_line (s.drop k) k with ⟨x, j0, hx1, hx2, hx3, hls⟩ | ⟨j0, hx1, hx2, hln⟩
          · have hxg := readLine_good hx1
            rw [File.lines_some hn61 h24 hx1, hx2, hx3, List.drop_drop] at hLx
            have HN : Hid (File.lines (25 - (out ++ [File.ba x]).length) (out ++ [File.ba x]) (s.drop (k + j0)) (k + j0) = L) := Lib.hid (by
              rw [← hLx, List.length_append, List.length_singleton, show 25 - (out.length + 1) = 24 - out.length by omega])
            have HGN : Hid (Good (out ++ [File.ba x])) := Lib.hid (HG.out.snoc (by omega) hxg.1 hxg.2)
            have hj0 : j0 ≤ S.size - k := by rw [← hdl]; exact hls.le
            have hj1 := hls.pos
            have hx40 : x.length ≤ 40 := by have := hxg.1; rwa [ba_size] at this
            have HLS := Lib.hid hls
            have ho23 : out.length < 24 := by omega
            clear hLx h61 hdr hnx hn61 hx1 hx2 hx3 hls hdl h24 hxg
            go_wp2_with fail
            go_loopw [7, 8, 9] (fun t b _ wx => ∃ (p : Nat) (z : Bool), k ≤ p ∧ p ≤ k + j0 ∧ t = iv p ∧ b = .bool z ∧ (z = true ↔ p = k + j0) ∧ wr = wx) (fun t _ _ _ => S.size - (intOf t).toNat)
            case atStart => exact ⟨k, false, Nat.le_refl _, Nat.le_add_right _ _, rfl, rfl, by simp; omega, rfl⟩
            case round =>
              obtain ⟨p, z, hp0, hp1, rfl, rfl, hz, rfl⟩ := hrel
              cases z
              · have hjj : p < k + j0 := by
                  have : ¬ p = k + j0 := fun h => by have := hz.2 h; cases this
                  omega
                clear hz
                have hei : (p : Int) < (S.size : Int) := by omega
                have hrun : ∀ W : World, (Instr.slice 9 (.string S) (some (iv (k : Int))) (some (iv ((p : Int) + 1))) none).run Tryd.prog W = .ok (.string (File.ba ((s.drop k).take (p - k + 1)))) W := fun W => by
                  have := HCUT.out k (p + 1) (by omega) (by omega) W
                  rw [show p + 1 - k = p - k + 1 by omega] at this
                  exact this
                have ei : IntKind.i64.wrap ((p : Int) + 1) = (p : Int) + 1 := IntWalk.i64_in _ (by omega)
                by_cases hl : p + 1 = k + j0
                · have HC := Lib.hid (can_call s hs (k := k) (i := p - k + 1) (by have := HSz.out; omega) true true (by rw [show p - k + 1 = j0 by omega]; exact HLS.out.all) wr)
                  generalize File.ba ((s.drop k).take (p - k + 1)) = Z at *
                  go_wp2_with fail
                  refine HC.out.mono ?_
                  rintro e w1 ⟨rfl, rfl⟩
                  go_wp2_with fail
                  go_roundw
                  case rel => exact ⟨p + 1, true, by omega, by omega, by go_num, rfl, by simp [hl], trivial⟩
                  case measure => simp [intOf]; omega
                · have HC := Lib.hid (can_call s hs (k := k) (i := p - k + 1) (by have := HSz.out; omega) true false (HLS.out.pre (p - k + 1) (by omega) (by omega)) wr)
                  generalize File.ba ((s.drop k).take (p - k + 1)) = Z at *
                  go_wp2_with fail
                  refine HC.out.mono ?_
                  rintro e w1 ⟨rfl, rfl⟩
                  go_wp2_with fail
                  go_roundw
                  case rel => exact ⟨p + 1, false, by omega, by omega, by go_num, rfl, by simp [hl], trivial⟩
                  case measure => simp [intOf]; omega
              · obtain rfl : p = k + j0 := hz.1 rfl
                clear hz hp0 hp1
                have hpS : k + j0 ≤ S.size := by omega
                have hpk : k < k + j0 := by omega
                obtain ⟨dl, hdl⟩ : ∃ dl, dl = (Lib.decDigits x.length).length := ⟨_, rfl⟩
                have hdl6 : dl ≤ 6 := by rw [hdl]; exact dec_len 5 _ (by omega)
                obtain ⟨ln, hln⟩ : ∃ ln, ln = Lib.decDigits x.length ++ 58 :: x := ⟨_, rfl⟩
                have hlnl : ln.length = dl + 1 + x.length := by rw [hln, hdl]; simp; omega
                have hrun : ∀ W : World, (Instr.slice 9 (.string S) (some (iv (k : Int))) (some (iv (((k + j0 : Nat) : Int) - 1))) none).run Tryd.prog W = .ok (.string (File.ba ln)) W := fun W => by
                  have := HCUT.out k (k + j0 - 1) (by omega) (by omega) W
                  rw [show k + j0 - 1 - k = j0 - 1 by omega, HLS.out.form, ← hln] at this
                  rw [show (((k + j0 : Nat) : Int) - 1) = ((k + j0 - 1 : Nat) : Int) by omega]
                  exact this
                have hrunx : ∀ W : World, (Instr.slice 9 (.string (File.ba ln)) (some (iv ((dl : Int) + 1))) none none).run Tryd.prog W = .ok (.string (File.ba x)) W := fun W => by
                  have := bFrom (L := ln) (i := dl + 1) (by omega) W
                  have hd : ln.drop (dl + 1) = x := by
                    rw [hln, hdl, List.drop_append, List.drop_eq_nil_of_le (Nat.le_succ _), List.nil_append, Nat.add_sub_cancel_left]; rfl
                  rw [hd] at this
                  exact this
                have HBY : Hid (∀ (q : Nat) (h : q < (File.ba ln).size), q ≤ dl → (((File.ba ln)[q]'h).toNat = 58 ↔ q = dl)) := Lib.hid fun q h hq => by
                  have h' : q < ln.length := by rwa [ba_size] at h
                  rw [ba_idx h h']
                  constructor
                  · intro he
                    refine Classical.byContradiction fun hne => ?_
                    have hlt : q < (Lib.decDigits x.length).length := by omega
                    have hg : ln[q]'h' = (Lib.decDigits x.length)[q]'hlt := by
                      simp only [hln]
                      rw [List.getElem_append_left hlt]
                    rw [hg] at he
                    exact File.dec_no58 hx40 _ (List.getElem_mem hlt) (UInt8.toNat_inj.1 (by rw [he]; rfl))
                  · rintro rfl
                    have hg : ln[q]'h' = 58 := by
                      simp only [hln]
                      rw [List.getElem_append_right (by omega)]
                      simp [hdl]
                    rw [hg]; rfl
                have hlz : (File.ba ln).size = dl + 1 + x.length := by rw [ba_size, hlnl]
                have hlz2 : dl < (File.ba ln).size := by omega
                have HLZ := Lib.hid hlz
                have hlz3 : (File.ba ln).size ≤ 100 := by omega
                have ei2 : IntKind.i64.wrap (((k + j0 : Nat) : Int) - 1) = ((k + j0 : Nat) : Int) - 1 := IntWalk.i64_in _ (by omega)
                generalize File.ba ln = LN at *
                generalize k + j0 = p at *
                clear hlz hln hdl hlnl HCUT HGET
                have hnot : (!true) = false := rfl
                by_cases hei : (p : Int) < (S.size : Int)
                all_goals
                  go_wp2_with fail
                  go_loopw [11] (fun a wx => ∃ q : Nat, q ≤ dl ∧ a = iv q ∧ wr = wx) (fun a _ => dl - (intOf a).toNat)
                  case atStart => exact ⟨0, Nat.zero_le _, rfl, rfl⟩
                  case round =>
                    obtain ⟨q, hq, rfl, rfl⟩ := hrel
                    have hqs : q < LN.size := by omega
                    have h58 := HBY.out q hqs hq
                    generalize hu : (LN[q]'hqs).toNat = u at *
                    by_cases hqd : q = dl
                    · subst hqd
                      have h58i : ((u : Int) != 58) = false := by simp; omega
                      have h58j : (u : Int) = 58 := by have := h58.2 rfl; omega
                      clear h58
                      go_wp2_with (at_builtin; refine wpApp1 strE tyStrs rfl _ _ rfl hown (File.ba x) rfl rfl rfl hbr.size (by unfold big; omega) ?_; intro v5 w5 hown5 hb5 hot5)
                      go_roundw
                      case rel => exact ⟨out ++ [File.ba x], p, rfl, hpS, hown5, HGN, by simp; omega, HN, hbr.trans hb5⟩
                      case measure => simp [intOf]; omega
                    · have h58j : ¬ (u : Int) = 58 := fun h => hqd (h58.1 (by omega))
                      have h58i : ((u : Int) != 58) = true := by simp; omega
                      clear h58
                      go_wp2_with fail
                      go_roundw
                      case rel => exact ⟨q + 1, by omega, by go_num, trivial⟩
                      case measure => simp [intOf]; omega
          · rw [File.lines_none hn61 h24 hx1, hx2] at hLx
            have HX : Hid (File.parse s = ([], k + j0, 11)) := Lib.hid (by rw [HP.out, ← hLx]; rfl)
            have hj0 : j0 ≤ S.size - k := by rw [← hdl]; exact hln.le
            have HLI := Lib.hid hln
            have HDL := Lib.hid hdl
            clear hLx h61 hdr hnx hn61 hx1 hx2 hln hdl h24
            go_wp2_with fail
            go_loopw [7, 8, 9] (fun t b _ wx => ∃ p : Nat, k ≤ p ∧ p ≤ k + j0 ∧ t = iv p ∧ b = .bool false ∧ wr = wx) (fun t _ _ _ => S.size - (intOf t).toNat)
            case atStart => exact ⟨k, Nat.le_refl _, Nat.le_add_right _ _, rfl, rfl, rfl⟩
            case round =>
              obtain ⟨p, hp0, hp1, rfl, rfl, rfl⟩ := hrel
              by_cases hend : p < S.size
              · have hei : (p : Int) < (S.size : Int) := by omega
                have hrun : ∀ W : World, (Instr.slice 9 (.string S) (some (iv (k : Int))) (some (iv ((p : Int) + 1))) none).run Tryd.prog W = .ok (.string (File.ba ((s.drop k).take (p - k + 1)))) W := fun W => by
                  have := HCUT.out k (p + 1) (by omega) (by omega) W
                  rw [show p + 1 - k = p - k + 1 by omega] at this
                  exact this
                have ei : IntKind.i64.wrap ((p : Int) + 1) = (p : Int) + 1 := IntWalk.i64_in _ (by omega)
                by_cases hjj : p < k + j0
                · have HC := Lib.hid (can_call s hs (k := k) (i := p - k + 1) (by have := HSz.out; omega) true false (HLI.out.pre (p - k + 1) (by omega) (by omega)) wr)
                  generalize File.ba ((s.drop k).take (p - k + 1)) = Z at *
                  go_wp2_with fail
                  refine HC.out.mono ?_
                  rintro e w1 ⟨rfl, rfl⟩
                  go_wp2_with fail
                  go_roundw
                  case rel => exact ⟨p + 1, by omega, by omega, by go_num, rfl, trivial⟩
                  case measure => simp [intOf]; omega
                · obtain rfl : p = k + j0 := by omega
                  have hst : File.can ((s.drop k).take (j0 + 1)) = (false, false) := by
                    rcases HLI.out.stop with h | h
                    · exfalso; rw [HDL.out] at h; omega
                    · exact h
                  have HC := Lib.hid (can_call s hs (k := k) (i := k + j0 - k + 1) (by have := HSz.out; omega) false false (by rw [Nat.add_sub_cancel_left]; exact hst) wr)
                  clear hst
                  generalize File.ba ((s.drop k).take (k + j0 - k + 1)) = Z at *
                  generalize k + j0 = p at *
                  go_wp2_with fail
                  refine HC.out.mono ?_
                  rintro e w1 ⟨rfl, rfl⟩
                  go_wp2_with fail
                  go_ret3
                  refine ⟨?_, hbr⟩
                  rw [HX.out]
                  exact ⟨_, rfl, Own.nil, fun _ => rfl⟩
              · have hei : ¬ (p : Int) < (S.size : Int) := by omega
                obtain rfl : p = k + j0 := by omega
                generalize k + j0 = p at *
                go_wp2_with fail
                go_ret3
                refine ⟨?_, hbr⟩
                rw [HX.out]
                exact ⟨_, rfl, Own.nil, fun _ => rfl⟩
    · obtain rfl : k = S.size := by omega
      have hki : ¬ (S.size : Int) < (S.size : Int) := by omega
      have hLx := HLN.out
      rw [show 25 - out.length = (24 - out.length) + 1 by omega, List.drop_eq_nil_of_le (by have := HSz.out; omega), File.lines_nil] at hLx
      have HX : Hid (File.parse s = ([], S.size, 11)) := Lib.hid (by rw [HP.out, ← hLx]; rfl)
      clear hLx
      go_wp2_with fail
      go_ret3
      refine ⟨?_, hbr⟩
      rw [HX.out]
      exact ⟨_, rfl, Own.nil, fun _ => rfl⟩
end Fl
end Go.Proofs.YtkhmkpcihphkcaaDoor
