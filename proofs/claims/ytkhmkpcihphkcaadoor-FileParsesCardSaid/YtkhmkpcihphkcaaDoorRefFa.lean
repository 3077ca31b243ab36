/- The reference of layer 11: lines, their errors, their sum, and the text of a file. Conditions: lengths are below a great bound. -/
import Derived.Test.YtkhmkpcihphkcaaDoorFlB
import Derived.Test.YtkhmkpcihphkcaaDoorMkF
import Derived.Test.YtkhmkpcihphkcaaDoorFlG
set_option linter.unusedVariables false
set_option linter.unusedSimpArgs false
namespace Go.Proofs.YtkhmkpcihphkcaaDoor
namespace Fl
open Go.RowKit
set_option maxRecDepth 100000
theorem sIdx (s : ByteArray) {k : Nat} (h : k < s.size) : (File.bts s)[k]? = some (s[k]'h) := bts_get h
set_option maxHeartbeats 1000000 in
theorem rlines_spec (A : Option Addr) (l : List ByteArray) (c : Nat) (w : World) (hm : l.length ≤ big) (hs : Sl strE w A l) :
    Calls Tryd.prog 81 #[.slice A l.length c] w fun e w' => e = .returned (iv (File.lined l)) ∧ Below w.heap.size w w' := by
  unfold big at hm
  go_enter Tryd.func81, Tryd.ntmps81
  go_wp2_with fail
  go_loopw [3] (fun i wr => ∃ k : Nat, k ≤ l.length ∧ i = iv k ∧ Hid ((l.drop k).all File.wide = l.all File.wide) ∧ Below w.heap.size w wr) (fun i _ => l.length - (intOf i).toNat)
  case atStart => exact ⟨0, by omega, rfl, rfl, (by first | assumption | exact Below.refl _ _)⟩
  case round =>
    obtain ⟨k, hk, rfl, hr, hbw⟩ := hrel
    by_cases hlt : k < l.length
    · have hki : (k : Int) < (l.length : Int) := by omega
      obtain ⟨b, off, x, rfl, hb, hx, hc0⟩ := Sl.atS (hs.below hbw) hlt
      have hr' := hr.out
      rw [drop_at hx, List.all_cons] at hr'
      by_cases h40 : 40 < x.size
      · have h40i : (40 : Int) < (x.size : Int) := by omega
        have HN : Hid (File.lined l = 10) := Lib.hid (by
          have : File.wide x = false := by simp only [File.wide, decide_eq_false_iff_not]; omega
          rw [this, Bool.false_and] at hr'
          unfold File.lined; rw [← hr']; rfl)
        clear hr hr' hx h40
        go_wp2_with fail
        go_ret
        exact ⟨ret_eq (by rw [HN.out]; rfl), (by assumption)⟩
      · have h40i : ¬ (40 : Int) < (x.size : Int) := by omega
        have HN : Hid ((l.drop (k + 1)).all File.wide = l.all File.wide) := Lib.hid (by
          have : File.wide x = true := by simp only [File.wide, decide_eq_true_eq]; omega
          rw [this, Bool.true_and] at hr'
          exact hr')
        clear hr hr' hx h40
        go_wp2_with fail
        go_roundw
        case rel => exact ⟨k + 1, by omega, by go_num, HN, (by assumption)⟩
        case measure => simp [intOf]; omega
    · have hki : ¬ (k : Int) < (l.length : Int) := by omega
      have hr' := hr.out
      rw [drop_end hlt] at hr'
      have HL : Hid (File.lined l = if l.all File.okLine then 0 else 11) := Lib.hid (by unfold File.lined; rw [← hr']; rfl)
      have HW : Hid (∀ s ∈ l, s.size ≤ 40) := Lib.hid fun s hs => by
        have := List.all_eq_true.1 hr'.symm s hs
        simp only [File.wide, decide_eq_true_eq] at this
        omega
      clear hr hr'
      go_wp2_with fail
      go_loopw [4, 5] (fun i _ wr => ∃ k : Nat, k ≤ l.length ∧ i = iv k ∧ Hid ((l.drop k).all File.okLine = l.all File.okLine) ∧ Below w.heap.size w wr) (fun i _ _ => l.length - (intOf i).toNat)
      case atStart => exact ⟨0, by omega, rfl, rfl, (by first | assumption | exact Below.refl _ _)⟩
      case round =>
        obtain ⟨k, hk, rfl, hr, hbw⟩ := hrel
        by_cases hlt : k < l.length
        · have hki : (k : Int) < (l.length : Int) := by omega
          obtain ⟨b, off, x, rfl, hb, hx, hc0⟩ := Sl.atS (hs.below hbw) hlt
          have hr' := hr.out
          rw [drop_at hx, List.all_cons] at hr'
          have HR := Lib.hid hr'
          have hx40 := HW.out x (mem_at hx)
          have HCX : Hid (∀ W, Below w.heap.size w W → W.cell? ⟨b, off + k, none⟩ = some (.string x)) := Lib.hid fun W hW => by
            obtain ⟨b', off', x', hA, _, hx', hc'⟩ := Sl.atS (hs.below hW) hlt
            cases hA
            rw [hx] at hx'; cases hx'; exact hc'
          clear hr hr' hx
          go_wp2_with fail
          go_loopw [5] (fun i wx => ∃ q : Nat, q ≤ x.size ∧ i = iv q ∧ Hid (((File.bts x).drop q).all File.okB = File.okLine x) ∧ Below w.heap.size w wx) (fun i _ => x.size - (intOf i).toNat)
          case atStart => exact ⟨0, Nat.zero_le _, rfl, rfl, (by first | assumption | exact Below.refl _ _)⟩
          case round =>
            obtain ⟨q, hq, rfl, hr, hbw2⟩ := hrel
            have hc0 := HCX.out _ hbw2
            by_cases hp : q < x.size
            · have hqi : (q : Int) < (x.size : Int) := by omega
              have hr' := hr.out
              rw [bts_drop hp, List.all_cons] at hr'
              have HQ := Lib.hid hr'
              clear hr hr'
              generalize hv : (x[q]'hp).toNat = v at *
              by_cases h32 : v < 32
              · have h32i : (v : Int) < 32 := by omega
                have hno : File.okB (x[q]'hp) = false := by simp [File.okB, hv]; omega
                have HN : Hid (File.lined l = 11) := Lib.hid (by
                  have h1 := HQ.out
                  rw [hno, Bool.false_and] at h1
                  have h2 := HR.out
                  rw [← h1, Bool.false_and] at h2
                  rw [HL.out, ← h2]; rfl)
                clear hno
                go_wp2_with fail
                go_ret
                exact ⟨ret_eq (by rw [HN.out]; rfl), (by assumption)⟩
              · by_cases h126 : 126 < v
                · have h32i : ¬ (v : Int) < 32 := by omega
                  have h126i : (126 : Int) < (v : Int) := by omega
                  have hno : File.okB (x[q]'hp) = false := by simp [File.okB, hv]; omega
                  have HN : Hid (File.lined l = 11) := Lib.hid (by
                    have h1 := HQ.out
                    rw [hno, Bool.false_and] at h1
                    have h2 := HR.out
                    rw [← h1, Bool.false_and] at h2
                    rw [HL.out, ← h2]; rfl)
                  clear hno
                  go_wp2_with fail
                  go_ret
                  exact ⟨ret_eq (by rw [HN.out]; rfl), (by assumption)⟩
                · have h32i : ¬ (v : Int) < 32 := by omega
                  have h126i : ¬ (126 : Int) < (v : Int) := by omega
                  have hyes : File.okB (x[q]'hp) = true := by simp [File.okB, hv]; omega
                  have HN : Hid (((File.bts x).drop (q + 1)).all File.okB = File.okLine x) := Lib.hid (by have h1 := HQ.out; rw [hyes, Bool.true_and] at h1; exact h1)
                  clear hyes
                  go_wp2_with fail
                  go_roundw
                  case rel => exact ⟨q + 1, hp, by go_num, HN, (by assumption)⟩
                  case measure => simp [intOf]; omega
            · have hqi : ¬ (q : Int) < (x.size : Int) := by omega
              have hr' := hr.out
              rw [bts_end hp] at hr'
              have HQ : Hid (File.okLine x = true) := Lib.hid hr'.symm
              clear hr hr'
              go_wp2_with fail
              go_roundw
              case rel => exact ⟨k + 1, by omega, by go_num, Lib.hid (by have := HR.out; rw [HQ.out, Bool.true_and] at this; exact this), (by assumption)⟩
              case measure => simp [intOf]; omega
        · have hki : ¬ (k : Int) < (l.length : Int) := by omega
          have hr' := hr.out
          rw [drop_end hlt] at hr'
          have HN : Hid (File.lined l = 0) := Lib.hid (by rw [HL.out, ← hr']; rfl)
          clear hr hr'
          go_wp2_with fail
          go_ret
          exact ⟨ret_eq (by rw [HN.out]; rfl), (by assumption)⟩
theorem rcheck_spec (A : Option Addr) (l : List ByteArray) (c : Nat) (w : World) (hm : l.length ≤ big) (hs : Sl strE w A l) :
    Calls Tryd.prog 25 #[.slice A l.length c] w fun e w' => e = .returned (iv (File.check l)) ∧ Below w.heap.size w w' := by
  have HL := Lib.hid (rlines_spec A l c w hm hs)
  by_cases h : 24 < l.length
  · have hi : (24 : Int) < (l.length : Int) := by omega
    go_enter Tryd.func25, Tryd.ntmps25
    go_wp2_with fail
    go_ret
    exact ⟨ret_eq (by unfold File.check; rw [if_pos h]; rfl), Below.refl _ _⟩
  · have hi : ¬ (24 : Int) < (l.length : Int) := by omega
    go_enter Tryd.func25, Tryd.ntmps25
    go_wp2_with (go_at_call 81; refine HL.out.mono ?_; rintro e w1 ⟨rfl, hb1⟩)
    go_ret
    exact ⟨ret_eq (by unfold File.check; rw [if_neg h]; rfl), hb1⟩
set_option maxHeartbeats 1000000 in
theorem rsum_spec (A : Option Addr) (l : List ByteArray) (c : Nat) (w : World) (hm : l.length ≤ 24) (hw : ∀ s ∈ l, s.size ≤ 40) (hs : Sl strE w A l) :
    Calls Tryd.prog 27 #[.slice A l.length c] w fun e w' => e = .returned (iv (File.sum l)) ∧ Below w.heap.size w w' := by
  have HW := Lib.hid hw
  clear hw
  go_enter Tryd.func27, Tryd.ntmps27
  go_wp2_with fail
  go_loopw [3, 4, 5] (fun n i _ wr => ∃ (k : Nat) (m : Int), k ≤ l.length ∧ i = iv k ∧ n = iv m ∧ Hid ((m + File.sumFrom k (l.drop k)) % 9973 = File.sum l) ∧ 0 ≤ m ∧ m < 9973 ∧ Below w.heap.size w wr) (fun _ i _ _ => l.length - (intOf i).toNat)
  case atStart => exact ⟨0, 0, by omega, rfl, rfl, Lib.hid (by simp [File.sum]), by omega, by omega, Below.refl _ _⟩
  case round =>
    obtain ⟨k, m, hk, rfl, rfl, hr, hm0, hm1, hbw⟩ := hrel
    by_cases hlt : k < l.length
    · have hki : (k : Int) < (l.length : Int) := by omega
      obtain ⟨b, off, x, rfl, hb, hx, hc0⟩ := Sl.atS (hs.below hbw) hlt
      have hr' := hr.out
      rw [drop_at hx] at hr'
      simp only [File.sumFrom] at hr'
      have HR := Lib.hid hr'
      have hx40 := HW.out x (mem_at hx)
      have HCX : Hid (∀ W, Below w.heap.size w W → W.cell? ⟨b, off + k, none⟩ = some (.string x)) := Lib.hid fun W hW => by
        obtain ⟨b', off', x', hA, _, hx', hc'⟩ := Sl.atS (hs.below hW) hlt
        cases hA
        rw [hx] at hx'; cases hx'; exact hc'
      have hk24 : k < 24 := by omega
      clear hx hr hr'
      go_wp2_with fail
      go_loopw [3, 5] (fun n i wx => ∃ (q : Nat) (z : Int), q ≤ x.size ∧ i = iv q ∧ n = iv z ∧ Hid ((z + File.lineSum k ((File.bts x).drop q)) % 9973 = (m + File.lineSum k (File.bts x)) % 9973) ∧ 0 ≤ z ∧ z < 9973 ∧ Below w.heap.size w wx) (fun _ i _ => x.size - (intOf i).toNat)
      case atStart => exact ⟨0, m, Nat.zero_le _, rfl, rfl, rfl, hm0, hm1, hbw⟩
      case round =>
        obtain ⟨q, z, hq, rfl, rfl, hr, hz0, hz1, hbw2⟩ := hrel
        have hc0 := HCX.out _ hbw2
        by_cases hp : q < x.size
        · have hqi : (q : Int) < (x.size : Int) := by omega
          have hr' := hr.out
          rw [bts_drop hp] at hr'
          simp only [File.lineSum] at hr'
          have hv255 : (x[q]'hp).toNat ≤ 255 := by have := (x[q]'hp).toNat_lt; omega
          generalize hv : (x[q]'hp).toNat = v at *
          have hv0 : (0 : Int) ≤ (v : Int) := by omega
          have hv1 : (v : Int) ≤ 255 := by omega
          have hp0 : 0 ≤ ((k : Int) + 1) * (v : Int) := Int.mul_nonneg (by omega) hv0
          have hp1 : ((k : Int) + 1) * (v : Int) ≤ 24 * 255 := Int.mul_le_mul (by omega) hv1 hv0 (by omega)
          have e1 : IntKind.i64.wrap (((k : Int) + 1) * (v : Int)) = ((k : Int) + 1) * (v : Int) := IntWalk.i64_in _ (by omega)
          have e2 : IntKind.i64.wrap (z + ((k : Int) + 1) * (v : Int)) = z + ((k : Int) + 1) * (v : Int) := IntWalk.i64_in _ (by omega)
          have e3 : Int.tmod (z + ((k : Int) + 1) * (v : Int)) 9973 = (z + ((k : Int) + 1) * (v : Int)) % 9973 := Int.tmod_eq_emod_of_nonneg (by omega)
          have e4 : IntKind.i64.wrap (v : Int) = (v : Int) := IntWalk.i64_in _ (by omega)
          obtain ⟨z', hz'⟩ : ∃ z', z' = (z + ((k : Int) + 1) * (v : Int)) % 9973 := ⟨_, rfl⟩
          have hz3 : 0 ≤ z' ∧ z' < 9973 := by omega
          have HQ : Hid ((z' + File.lineSum k ((File.bts x).drop (q + 1))) % 9973 = (m + File.lineSum k (File.bts x)) % 9973) := Lib.hid (by
            rw [← hr', hz', Int.emod_add_emod, Int.add_assoc])
          rw [← hz'] at e3
          clear hr hr' hz' hv0 hv1 hv255
          go_wp2_with fail
          go_roundw
          case rel => exact ⟨q + 1, z', hp, by go_num, by go_num, HQ, hz3.1, hz3.2, (by assumption)⟩
          case measure => simp [intOf]; omega
        · have hqi : ¬ (q : Int) < (x.size : Int) := by omega
          have hr' := hr.out
          rw [bts_end hp] at hr'
          simp only [File.lineSum, Int.add_zero] at hr'
          have HQ := Lib.hid hr'
          clear hr hr'
          go_wp2_with fail
          go_roundw
          case rel => exact ⟨k + 1, z, by omega, by go_num, rfl, Lib.hid (by
            rw [← HR.out, ← Int.add_assoc, ← Int.emod_add_emod (m + _), ← HQ.out, Int.emod_add_emod]), hz0, hz1, (by assumption)⟩
          case measure => simp [intOf]; omega
    · have hki : ¬ (k : Int) < (l.length : Int) := by omega
      have hr' := hr.out
      rw [drop_end hlt] at hr'
      simp only [File.sumFrom, Int.add_zero] at hr'
      have HN : Hid (File.sum l = m) := Lib.hid (by rw [← hr']; exact Int.emod_eq_of_lt hm0 hm1)
      clear hr hr'
      go_wp2_with fail
      go_ret
      exact ⟨ret_eq (by rw [HN.out]; rfl), (by assumption)⟩
theorem feed_spec (w : World) : Calls Tryd.prog 64 #[] w fun e w' => e = .returned (.string (File.ba [10])) ∧ Below w.heap.size w w' := by
  have hcv := conv_run (c := 1) (Sl.fresh byteE w 5 #[.int .u8 10] [10] rfl (by simp [maxLen]))
  have hst : strOfNums [10] = File.ba [10] := rfl
  rw [hst] at hcv
  simp only [List.length_singleton] at hcv
  go_enter Tryd.func64, Tryd.ntmps64
  go_wp2_with fail
  go_ret
  exact ⟨rfl, (Below.refl _ _).alloc (Nat.le_refl _) _⟩
theorem ba_size' (l : List UInt8) : (File.ba l).size = l.length := by simp [File.ba, ByteArray.size]
theorem dig1 : ∀ n : Fin 10, (⟨#[48, 49, 50, 51, 52, 53, 54, 55, 56, 57]⟩ : ByteArray).extract n.val (n.val + 1) = File.ba [UInt8.ofNat (48 + n.val)] := by decide +kernel
theorem digits_spec : ∀ (n : Nat) (w : World), n < 1000000 → Calls Tryd.prog 63 #[iv (n : Int)] w fun e w' => e = .returned (.string (File.ba (Lib.decDigits n))) ∧ w = w' := by
  intro n
  induction n using Nat.strongRecOn with
  | ind n ih =>
  intro w hn
  by_cases h : n < 10
  · have hi : (n : Int) < 10 := by omega
    have hd : Lib.decDigits n = [UInt8.ofNat (48 + n)] := Lib.decDigits_one h
    have he := dig1 ⟨n, h⟩
    have hrun : ∀ W : World, (Instr.slice 9 (.string ⟨#[48, 49, 50, 51, 52, 53, 54, 55, 56, 57]⟩) (some (iv (n : Int))) (some (iv ((n : Int) + 1))) none).run Tryd.prog W = .ok (.string (File.ba [UInt8.ofNat (48 + n)])) W := fun W => by
      rw [run_slice_string W 9 _ .i64 .i64 (n : Int) ((n : Int) + 1) Tryd.underlying9 (by omega) (by omega) (by show (n : Int) + 1 ≤ 10; omega), ← he]
      rfl
    rw [hd]
    clear he
    generalize File.ba [UInt8.ofNat (48 + n)] = D at *
    have e1 : IntKind.i64.wrap ((n : Int) + 1) = (n : Int) + 1 := IntWalk.i64_in _ (by omega)
    have z1 : (File.ba (Lib.decDigits (n / 10))).size ≤ 6 := by rw [ba_size']; exact dec_len 5 _ (by omega)
    have z2 : (File.ba (Lib.decDigits (n % 10))).size ≤ 6 := by rw [ba_size']; exact dec_len 5 _ (by omega)
    clear hd ih
    go_enter Tryd.func63, Tryd.ntmps63
    go_wp2_with fail
    go_ret
    exact ⟨rfl, rfl⟩
  · have hi : ¬ (n : Int) < 10 := by omega
    have hq : Int.tdiv (n : Int) 10 = ((n / 10 : Nat) : Int) := by rw [Int.tdiv_eq_ediv_of_nonneg (by omega)]; rfl
    have hr : Int.tmod (n : Int) 10 = ((n % 10 : Nat) : Int) := by rw [Int.tmod_eq_emod_of_nonneg (by omega)]; rfl
    have H1 := Lib.hid (fun W => ih (n / 10) (by omega) W (by omega))
    have H2 := Lib.hid (fun W => ih (n % 10) (by omega) W (by omega))
    have hd : Lib.decDigits n = Lib.decDigits (n / 10) ++ Lib.decDigits (n % 10) := by
      rw [Lib.decDigits, dif_neg h, Lib.decDigits_one (Nat.mod_lt _ (by omega))]
    have HD : Hid (File.ba (Lib.decDigits (n / 10)) ++ File.ba (Lib.decDigits (n % 10)) = File.ba (Lib.decDigits n)) := Lib.hid (by rw [hd]; exact ba_append _ _)
    have e1 : IntKind.i64.wrap ((n / 10 : Nat) : Int) = ((n / 10 : Nat) : Int) := IntWalk.i64_in _ (by omega)
    have z1 : (File.ba (Lib.decDigits (n / 10))).size ≤ 6 := by rw [ba_size']; exact dec_len 5 _ (by omega)
    have z2 : (File.ba (Lib.decDigits (n % 10))).size ≤ 6 := by rw [ba_size']; exact dec_len 5 _ (by omega)
    clear hd ih
    go_enter Tryd.func63, Tryd.ntmps63
    go_wp2_with fail
    refine (H1.out w).mono ?_
    rintro e w1 ⟨rfl, rfl⟩
    go_wp2_with fail
    refine (H2.out w).mono ?_
    rintro e w2 ⟨rfl, rfl⟩
    go_wp2_with fail
    go_ret
    exact ⟨ret_eq (by rw [HD.out]; rfl), rfl⟩
end Fl
end Go.Proofs.YtkhmkpcihphkcaaDoor
