/- The reference of layer 11: what can be the beginning of a line. Conditions: lengths are below a great bound. -/
import Derived.Test.YtkhmkpcihphkcaaDoorRefFa
import Derived.Test.YtkhmkpcihphkcaaDoorFileCan
import Derived.Test.YtkhmkpcihphkcaaDoorFlH
set_option linter.unusedVariables false
set_option linter.unusedSimpArgs false
namespace Go.Proofs.YtkhmkpcihphkcaaDoor
namespace File
theorem canGo_some {f n : Nat} {s : List UInt8} {r x : Bool × Bool} (h : canGo (f + 1) n s = r) (hc : canAt n s = some x) : r = x := by
  unfold canGo at h
  rw [hc] at h
  exact h.symm
theorem canGo_none {f n : Nat} {s : List UInt8} {r : Bool × Bool} (h : canGo (f + 1) n s = r) (hc : canAt n s = none) : canGo f (n + 1) s = r := by
  unfold canGo at h
  rw [hc] at h
  exact h
end File
namespace Fl
open Go.RowKit
set_option maxRecDepth 100000
theorem bTo {L : List UInt8} {i : Nat} (h : i ≤ L.length) (W : World) : (Instr.slice 9 (.string (File.ba L)) none (some (iv (i : Int))) none).run Tryd.prog W = .ok (.string (File.ba (L.take i))) W := by
  rw [run_slice_string_to_if W 9 (File.ba L) .i64 i Tryd.underlying9, if_pos ⟨by omega, by rw [ba_size]; omega⟩]
  have : (File.ba L).extract 0 (i : Int).toNat = File.ba (L.take i) := by
    apply ByteArray.ext
    simp [File.ba]
  rw [this]
theorem bFrom {L : List UInt8} {i : Nat} (h : i ≤ L.length) (W : World) : (Instr.slice 9 (.string (File.ba L)) (some (iv (i : Int))) none none).run Tryd.prog W = .ok (.string (File.ba (L.drop i))) W := by
  rw [run_slice_string_from_if W 9 (File.ba L) .i64 i Tryd.underlying9, if_pos ⟨by omega, by rw [ba_size]; omega⟩]
  have : (File.ba L).extract (i : Int).toNat (File.ba L).size = File.ba (L.drop i) := by
    apply ByteArray.ext
    simp [File.ba, ByteArray.size]
    exact List.take_of_length_le (by simp)
  rw [this]
theorem bCut {L : List UInt8} {i j : Nat} (hi : i ≤ j) (h : j ≤ L.length) (W : World) : (Instr.slice 9 (.string (File.ba L)) (some (iv (i : Int))) (some (iv (j : Int))) none).run Tryd.prog W = .ok (.string (File.ba ((L.drop i).take (j - i)))) W := by
  rw [run_slice_string W 9 (File.ba L) .i64 .i64 i j Tryd.underlying9 (by omega) (by omega) (by rw [ba_size]; omega)]
  have : (File.ba L).extract (i : Int).toNat (j : Int).toNat = File.ba ((L.drop i).take (j - i)) := by
    apply ByteArray.ext
    simp [File.ba]
  rw [this]
theorem ba_idx {L : List UInt8} {k : Nat} (h : k < (File.ba L).size) (h' : k < L.length) : (File.ba L)[k]'h = L[k]'h' := rfl
set_option maxHeartbeats 2000000 in
theorem can_spec (s : List UInt8) (w : World) (hs : s.length ≤ 1000000) :
    Calls Tryd.prog 62 #[.string (File.ba s)] w fun e w' => e = .returned (.tuple #[.bool (File.can s).1, .bool (File.can s).2]) ∧ w = w' := by
  obtain ⟨r, hr⟩ : ∃ r, r = File.can s := ⟨_, rfl⟩
  rw [← hr]
  have H0 : Hid (File.canGo 41 0 s = r) := Lib.hid hr.symm
  clear hr
  obtain ⟨S, hS⟩ : ∃ S, S = File.ba s := ⟨_, rfl⟩
  have HSz : Hid (S.size = s.length) := Lib.hid (by rw [hS]; exact ba_size s)
  rw [← hS]
  have HS := Lib.hid hS
  clear hS
  go_enter Tryd.func62, Tryd.ntmps62
  go_wp2_with fail
  go_loopw [4, 5, 6, 7] (fun i _ _ _ wr => ∃ n : Nat, n ≤ 41 ∧ i = iv n ∧ Hid (File.canGo (41 - n) n s = r) ∧ w = wr) (fun i _ _ _ _ => 41 - (intOf i).toNat)
  case atStart => exact ⟨0, by omega, rfl, H0, rfl⟩
  case round =>
    obtain ⟨n, hn, rfl, HG, rfl⟩ := hrel
    by_cases hlt : n ≤ 40
    · have hni : (n : Int) ≤ 40 := by omega
      have hgo := HG.out
      rw [show 41 - n = (40 - n) + 1 by omega] at hgo
      obtain ⟨D, hD⟩ : ∃ D, D = File.ba (Lib.decDigits n) := ⟨_, rfl⟩
      obtain ⟨H, hH⟩ : ∃ H, H = File.ba (File.head n) := ⟨_, rfl⟩
      have hDH : D ++ ⟨#[58]⟩ = H := by rw [hD, hH]; unfold File.head; exact ba_append _ _
      have z1 : D.size ≤ 6 := by rw [hD, ba_size']; exact dec_len 5 _ (by omega)
      have HHz : Hid (H.size = (File.head n).length) := Lib.hid (by rw [hH]; exact ba_size _)
      have hHl : (File.head n).length ≤ 8 := by
        have := dec_len 5 n (by omega)
        unfold File.head
        simp
        omega
      have HDG := Lib.hid (digits_spec n w (by omega))
      rw [← hD] at HDG
      have HGO := Lib.hid hgo
      clear hgo HG hD
      have HTA : Hid (s.length ≤ (File.head n).length → ∀ W : World, (Instr.slice 9 (.string H) none (some (iv (S.size : Int))) none).run Tryd.prog W = .ok (.string (File.ba ((File.head n).take s.length))) W) := Lib.hid fun h W => by rw [hH, HSz.out]; exact bTo h W
      have HTB : Hid (¬ s.length ≤ (File.head n).length → ∀ W : World, (Instr.slice 9 (.string S) none (some (iv (H.size : Int))) none).run Tryd.prog W = .ok (.string (File.ba (s.take (File.head n).length))) W) := Lib.hid fun h W => by rw [HS.out, HHz.out]; exact bTo (by omega) W
      have HTC : Hid (¬ s.length ≤ (File.head n).length → ∀ W : World, (Instr.slice 9 (.string S) (some (iv (H.size : Int))) none none).run Tryd.prog W = .ok (.string (File.ba (s.drop (File.head n).length))) W) := Lib.hid fun h W => by rw [HS.out, HHz.out]; exact bFrom (by omega) W
      by_cases hc : s.length ≤ (File.head n).length
      · have hci : (S.size : Int) ≤ (H.size : Int) := by have := HSz.out; have := HHz.out; omega
        have hrun := HTA.out hc
        obtain ⟨P, hP⟩ : ∃ P, P = File.ba ((File.head n).take s.length) := ⟨_, rfl⟩
        rw [← hP] at hrun
        have hsq := str_eq P S
        by_cases hq : (File.head n).take s.length = s
        · have hPS : P = S := by rw [hP, HS.out, hq]
          have HX : Hid (r = (true, false)) := Lib.hid (File.canGo_some HGO.out (by unfold File.canAt; rw [if_pos hc, if_pos hq]))
          rw [decide_eq_true hPS] at hsq
          clear HTA HTB HTC hP hq hc hH hPS
          go_wp2_with fail
          refine HDG.out.mono ?_
          rintro e w1 ⟨rfl, rfl⟩
          go_wp2_with fail
          go_ret2
          exact ⟨ret_eq (by rw [HX.out]; rfl), rfl⟩
        · have hPS : ¬ P = S := fun h => hq (by rw [hP, HS.out] at h; have := congrArg File.bts h; rwa [File.bts_ba, File.bts_ba] at this)
          have HX : Hid (File.canGo (41 - (n + 1)) (n + 1) s = r) := Lib.hid (by
            rw [show 41 - (n + 1) = 40 - n by omega]
            exact File.canGo_none HGO.out (by unfold File.canAt; rw [if_pos hc, if_neg hq]))
          rw [decide_eq_false hPS] at hsq
          clear HTA HTB HTC hP hq hc hH hPS
          go_wp2_with fail
          refine HDG.out.mono ?_
          rintro e w1 ⟨rfl, rfl⟩
          go_wp2_with fail
          go_roundw
          case rel => exact ⟨n + 1, by omega, by go_num, HX, trivial⟩
          case measure => simp [intOf]; omega
      · have hci : ¬ (S.size : Int) ≤ (H.size : Int) := by have := HSz.out; have := HHz.out; omega
        have hrun := HTB.out hc
        have hrun2 := HTC.out hc
        obtain ⟨P, hP⟩ : ∃ P, P = File.ba (s.take (File.head n).length) := ⟨_, rfl⟩
        rw [← hP] at hrun
        obtain ⟨bd, hbd⟩ : ∃ bd, bd = s.drop (File.head n).length := ⟨_, rfl⟩
        obtain ⟨B, hB⟩ : ∃ B, B = File.ba bd := ⟨_, rfl⟩
        rw [← hbd, ← hB] at hrun2
        have hsq := str_eq P H
        have hbl : bd.length ≤ 1000000 := by rw [hbd, List.length_drop]; omega
        have HBz : Hid (B.size = bd.length) := Lib.hid (by rw [hB]; exact ba_size bd)
        have hB6 : B.size ≤ 1000000 := by have := HBz.out; omega
        by_cases hq : s.take (File.head n).length = File.head n
        · have hPS : P = H := by rw [hP, hH, hq]
          have HX : Hid (r = if File.bodyOk n 0 bd then (true, decide (bd.length = n + 1)) else (false, false)) := Lib.hid (File.canGo_some HGO.out (by unfold File.canAt; rw [if_neg hc, if_pos hq, ← hbd]))
          rw [decide_eq_true hPS] at hsq
          have HB := Lib.hid hB
          clear HTA HTB HTC hP hq hc hH hbd hB hPS HGO
          go_wp2_with fail
          refine HDG.out.mono ?_
          rintro e w1 ⟨rfl, rfl⟩
          go_wp2_with fail
          go_loopw [7] (fun i wx => ∃ q : Nat, q ≤ B.size ∧ i = iv q ∧ Hid (File.bodyOk n q (bd.drop q) = File.bodyOk n 0 bd) ∧ w = wx) (fun i _ => B.size - (intOf i).toNat)
          case atStart => exact ⟨0, Nat.zero_le _, rfl, rfl, rfl⟩
          case round =>
            obtain ⟨q, hq, rfl, hr, rfl⟩ := hrel
            by_cases hp : q < B.size
            · have hqi : (q : Int) < (B.size : Int) := by omega
              have hpl : q < bd.length := by have := HBz.out; omega
              have hr' := hr.out
              rw [List.drop_eq_getElem_cons hpl, File.bodyOk] at hr'
              have hget : B[q]'hp = bd[q]'hpl := by
                have h2 := HB.out
                subst h2
                rfl
              generalize hv : (B[q]'hp).toNat = v at *
              rw [hget] at hv
              generalize bd[q]'hpl = bb at *
              have HF : Hid (File.bodyOk n 0 bd = false → r = (false, false)) := Lib.hid fun h => by rw [HX.out, h]; rfl
              by_cases h1 : q < n
              · have h1i : (q : Int) < (n : Int) := by omega
                rw [if_pos h1] at hr'
                by_cases h32 : v < 32
                · have h32i : (v : Int) < 32 := by omega
                  have HN := Lib.hid (HF.out (by rw [← hr', show File.okB bb = false by simp [File.okB, hv]; omega]; rfl))
                  clear hr hr'
                  go_wp2_with fail
                  go_ret2
                  exact ⟨ret_eq (by rw [HN.out]; rfl), rfl⟩
                · have h32i : ¬ (v : Int) < 32 := by omega
                  by_cases h126 : 126 < v
                  · have h126i : (126 : Int) < (v : Int) := by omega
                    have HN := Lib.hid (HF.out (by rw [← hr', show File.okB bb = false by simp [File.okB, hv]; omega]; rfl))
                    clear hr hr'
                    go_wp2_with fail
                    go_ret2
                    exact ⟨ret_eq (by rw [HN.out]; rfl), rfl⟩
                  · have h126i : ¬ (126 : Int) < (v : Int) := by omega
                    have hne : ((q : Int) == (n : Int)) = false := by simp; omega
                    have hgt : ¬ (n : Int) < (q : Int) := by omega
                    have HN : Hid (File.bodyOk n (q + 1) (bd.drop (q + 1)) = File.bodyOk n 0 bd) := Lib.hid (by rw [← hr', show File.okB bb = true by simp [File.okB, hv]; omega, Bool.true_and])
                    clear hr hr'
                    go_wp2_with fail
                    go_roundw
                    case rel => exact ⟨q + 1, hp, by go_num, HN, trivial⟩
                    case measure => simp [intOf]; omega
              · have h1i : ¬ (q : Int) < (n : Int) := by omega
                rw [if_neg h1] at hr'
                by_cases h2 : q = n
                · have hne : ((q : Int) == (n : Int)) = true := by simp [h2]
                  have hgt : ¬ (n : Int) < (q : Int) := by omega
                  rw [if_pos h2] at hr'
                  by_cases h10 : v = 10
                  · have h10i : ((v : Int) != 10) = false := by simp [h10]
                    have h10j : (v : Int) = 10 := by omega
                    have hb10 : (bb == 10) = true := by
                      have : bb = 10 := UInt8.toNat_inj.1 (by rw [hv, h10]; rfl)
                      rw [this]; rfl
                    have HN : Hid (File.bodyOk n (q + 1) (bd.drop (q + 1)) = File.bodyOk n 0 bd) := Lib.hid (by rw [← hr', hb10, Bool.true_and])
                    clear hr hr' h10 h2
                    go_wp2_with fail
                    go_roundw
                    case rel => exact ⟨q + 1, hp, by go_num, HN, trivial⟩
                    case measure => simp [intOf]; omega
                  · have h10i : ((v : Int) != 10) = true := by simp; omega
                    have h10j : ¬ (v : Int) = 10 := by omega
                    have hb10 : (bb == 10) = false := by
                      refine beq_eq_false_iff_ne.2 fun e => h10 ?_
                      rw [← hv, e]; rfl
                    have HN := Lib.hid (HF.out (by rw [← hr', hb10]; rfl))
                    clear hr hr' h10 h2
                    go_wp2_with fail
                    go_ret2
                    exact ⟨ret_eq (by rw [HN.out]; rfl), rfl⟩
                · have hne : ((q : Int) == (n : Int)) = false := by simp; omega
                  have hgt : (n : Int) < (q : Int) := by omega
                  rw [if_neg h2] at hr'
                  have HN := Lib.hid (HF.out hr'.symm)
                  clear hr hr' h2
                  go_wp2_with fail
                  go_ret2
                  exact ⟨ret_eq (by rw [HN.out]; rfl), rfl⟩
            · have hqi : ¬ (q : Int) < (B.size : Int) := by omega
              have hr' := hr.out
              rw [List.drop_eq_nil_of_le (by have := HBz.out; omega)] at hr'
              have HN : Hid (r = (true, decide (bd.length = n + 1))) := Lib.hid (by rw [HX.out, ← hr']; rfl)
              have hle : ((B.size : Int) == (n : Int) + 1) = decide (bd.length = n + 1) := by
                rw [HBz.out]
                by_cases h : bd.length = n + 1
                · rw [decide_eq_true h, h]; simp
                · rw [decide_eq_false h]; simp; omega
              obtain ⟨bz, hbz⟩ : ∃ bz, bz = decide (bd.length = n + 1) := ⟨_, rfl⟩
              rw [← hbz] at hle HN
              clear hr hr' hbz
              go_wp2_with fail
              go_ret2
              exact ⟨ret_eq (by rw [HN.out]; rfl), rfl⟩
        · have hPS : ¬ P = H := fun h => hq (by rw [hP, hH] at h; have := congrArg File.bts h; rwa [File.bts_ba, File.bts_ba] at this)
          have HX : Hid (File.canGo (41 - (n + 1)) (n + 1) s = r) := Lib.hid (by
            rw [show 41 - (n + 1) = 40 - n by omega]
            exact File.canGo_none HGO.out (by unfold File.canAt; rw [if_neg hc, if_neg hq]))
          rw [decide_eq_false hPS] at hsq
          have hsq' : (P.toList != H.toList) = true := by unfold bne; rw [hsq]; rfl
          clear HTA HTB HTC hP hq hc hH hPS hbd hB
          go_wp2_with fail
          refine HDG.out.mono ?_
          rintro e w1 ⟨rfl, rfl⟩
          go_wp2_with fail
          go_roundw
          case rel => exact ⟨n + 1, by omega, by go_num, HX, trivial⟩
          case measure => simp [intOf]; omega
    · have hni : ¬ (n : Int) ≤ 40 := by omega
      obtain rfl : n = 41 := by omega
      have HN : Hid (r = (false, false)) := Lib.hid HG.out.symm
      clear HG
      go_wp2_with fail
      go_ret2
      exact ⟨ret_eq (by rw [HN.out]; rfl), rfl⟩
end Fl
end Go.Proofs.YtkhmkpcihphkcaaDoor
