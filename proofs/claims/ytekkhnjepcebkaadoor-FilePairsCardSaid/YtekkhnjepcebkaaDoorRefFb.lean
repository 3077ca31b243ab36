/- The reference of layer 11: lines, their errors, their sum, and the text of a file. Conditions: lengths are below a great bound. -/
import Derived.Test.YtekkhnjepcebkaaDoorFlB
import Derived.Test.YtekkhnjepcebkaaDoorMkF
import Derived.Test.YtekkhnjepcebkaaDoorFlG
import Derived.Test.YtekkhnjepcebkaaDoorFree
import Derived.Test.YtekkhnjepcebkaaDoorFlP
set_option linter.unusedVariables false
set_option linter.unusedSimpArgs false
namespace Go.Proofs.YtekkhnjepcebkaaDoor
namespace Fl
open Go.RowKit
set_option maxRecDepth 100000
theorem sIdx (s : ByteArray) {k : Nat} (h : k < s.size) : (File.bts s)[k]? = some (s[k]'h) := bts_get h
set_option maxHeartbeats 1000000 in
theorem rlines_spec (A : Option Addr) (l : List ByteArray) (c : Nat) (w : World) (hm : l.length ≤ big) (hs : Sl strE w A l) :
    Calls Tryd.prog 35 #[.slice A l.length c] w fun e w' => e = .returned (iv (File.lined l)) ∧ Below w.heap.size w w' := by
  unfold big at hm
  go_enter Tryd.func35, Tryd.ntmps35
  go_wp2_with fail
  go_loopw [3] (fun i wr => ∃ k : Nat, k ≤ l.length ∧ i = iv k ∧ Hid ((l.drop k).all File.wide = l.all File.wide) ∧ Below w.heap.size w wr) (fun i _ => l.length - (intOf i).toNat)
  case atStart => exact ⟨0, by omega, rfl, rfl, (by first | assumption | exact Below.refl _ _)⟩
  case round =>
    obtain ⟨k, hk, rfl, hr, hbw⟩ := hrel
    by_cases hlt : k < l.length
    · have hki : (k : Int) < (l.length : Int) := by omega
      obtain ⟨b, off, x, rfl, hb, hx, hc0⟩ := Sl.atS (hs.below hbw) hlt
      have hr' := hr.out
      rw [drop_at hx, List.all_cons] at hr'
      by_cases h40 : 40 < x.size
      · have h40i : (40 : Int) < (x.size : Int) := by omega
        have HN : Hid (File.lined l = 10) := Lib.hid (by
          have : File.wide x = false := by simp only [File.wide, decide_eq_false_iff_not]; omega
          rw [this, Bool.false_and] at hr'
          unfold File.lined; rw [← hr']; rfl)
        clear hr hr' hx h40
        go_wp2_with fail
        go_ret
        exact ⟨ret_eq (by rw [HN.out]; rfl), (by assumption)⟩
      · have h40i : ¬ (40 : Int) < (x.size : Int) := by omega
        have HN : Hid ((l.drop (k + 1)).all File.wide = l.all File.wide) := Lib.hid (by
          have : File.wide x = true := by simp only [File.wide, decide_eq_true_eq]; omega
          rw [this, Bool.true_and] at hr'
          exact hr')
        clear hr hr' hx h40
        go_wp2_with fail
        go_roundw
        case rel => exact ⟨k + 1, by omega, by go_num, HN, (by assumption)⟩
        case measure => simp [intOf]; omega
    · have hki : ¬ (k : Int) < (l.length : Int) := by omega
      have hr' := hr.out
      rw [drop_end hlt] at hr'
      have HL : Hid (File.lined l = if l.all File.okLine then 0 else 11) := Lib.hid (by unfold File.lined; rw [← hr']; rfl)
      have HW : Hid (∀ s ∈ l, s.size ≤ 40) := Lib.hid fun s hs => by
        have := List.all_eq_true.1 hr'.symm s hs
        simp only [File.wide, decide_eq_true_eq] at this
        omega
      clear hr hr'
      go_wp2_with fail
      go_loopw [4, 5] (fun i _ wr => ∃ k : Nat, k ≤ l.length ∧ i = iv k ∧ Hid ((l.drop k).all File.okLine = l.all File.okLine) ∧ Below w.heap.size w wr) (fun i _ _ => l.length - (intOf i).toNat)
      case atStart => exact ⟨0, by omega, rfl, rfl, (by first | assumption | exact Below.refl _ _)⟩
      case round =>
        obtain ⟨k, hk, rfl, hr, hbw⟩ := hrel
        by_cases hlt : k < l.length
        · have hki : (k : Int) < (l.length : Int) := by omega
          obtain ⟨b, off, x, rfl, hb, hx, hc0⟩ := Sl.atS (hs.below hbw) hlt
          have hr' := hr.out
          rw [drop_at hx, List.all_cons] at hr'
          have HR := Lib.hid hr'
          have hx40 := HW.out x (mem_at hx)
          have HCX : Hid (∀ W, Below w.heap.size w W → W.cell? ⟨b, off + k, none⟩ = some (.string x)) := Lib.hid fun W hW => by
            obtain ⟨b', off', x', hA, _, hx', hc'⟩ := Sl.atS (hs.below hW) hlt
            cases hA
            rw [hx] at hx'; cases hx'; exact hc'
          clear hr hr' hx
          go_wp2_with fail
          go_loopw [5] (fun i wx => ∃ q : Nat, q ≤ x.size ∧ i = iv q ∧ Hid (((File.bts x).drop q).all File.okB = File.okLine x) ∧ Below w.heap.size w wx) (fun i _ => x.size - (intOf i).toNat)
          case atStart => exact ⟨0, Nat.zero_le _, rfl, rfl, (by first | assumption | exact Below.refl _ _)⟩
          case round =>
            obtain ⟨q, hq, rfl, hr, hbw2⟩ := hrel
            have hc0 := HCX.out _ hbw2
            by_cases hp : q < x.size
            · have hqi : (q : Int) < (x.size : Int) := by omega
              have hr' := hr.out
              rw [bts_drop hp, List.all_cons] at hr'
              have HQ := Lib.hid hr'
              clear hr hr'
              generalize hv : (x[q]'hp).toNat = v at *
              by_cases h32 : v < 32
              · have h32i : (v : Int) < 32 := by omega
                have hno : File.okB (x[q]'hp) = false := by simp [File.okB, hv]; omega
                have HN : Hid (File.lined l = 11) := Lib.hid (by
                  have h1 := HQ.out
                  rw [hno, Bool.false_and] at h1
                  have h2 := HR.out
                  rw [← h1, Bool.false_and] at h2
                  rw [HL.out, ← h2]; rfl)
                clear hno
                go_wp2_with fail
                go_ret
                exact ⟨ret_eq (by rw [HN.out]; rfl), (by assumption)⟩
              · by_cases h126 : 126 < v
                · have h32i : ¬ (v : Int) < 32 := by omega
                  have h126i : (126 : Int) < (v : Int) := by omega
                  have hno : File.okB (x[q]'hp) = false := by simp [File.okB, hv]; omega
                  have HN : Hid (File.lined l = 11) := Lib.hid (by
                    have h1 := HQ.out
                    rw [hno, Bool.false_and] at h1
                    have h2 := HR.out
                    rw [← h1, Bool.false_and] at h2
                    rw [HL.out, ← h2]; rfl)
                  clear hno
                  go_wp2_with fail
                  go_ret
                  exact ⟨ret_eq (by rw [HN.out]; rfl), (by assumption)⟩
                · have h32i : ¬ (v : Int) < 32 := by omega
                  have h126i : ¬ (126 : Int) < (v : Int) := by omega
                  have hyes : File.okB (x[q]'hp) = true := by simp [File.okB, hv]; omega
                  have HN : Hid (((File.bts x).drop (q + 1)).all File.okB = File.okLine x) := Lib.hid (by have h1 := HQ.out; rw [hyes, Bool.true_and] at h1; exact h1)
                  clear hyes
                  go_wp2_with fail
                  go_roundw
                  case rel => exact ⟨q + 1, hp, by go_num, HN, (by assumption)⟩
                  case measure => simp [intOf]; omega
            · have hqi : ¬ (q : Int) < (x.size : Int) := by omega
              have hr' := hr.out
              rw [bts_end hp] at hr'
              have HQ : Hid (File.okLine x = true) := Lib.hid hr'.symm
              clear hr hr'
              go_wp2_with fail
              go_roundw
              case rel => exact ⟨k + 1, by omega, by go_num, Lib.hid (by have := HR.out; rw [HQ.out, Bool.true_and] at this; exact this), (by assumption)⟩
              case measure => simp [intOf]; omega
        · have hki : ¬ (k : Int) < (l.length : Int) := by omega
          have hr' := hr.out
          rw [drop_end hlt] at hr'
          have HN : Hid (File.lined l = 0) := Lib.hid (by rw [HL.out, ← hr']; rfl)
          clear hr hr'
          go_wp2_with fail
          go_ret
          exact ⟨ret_eq (by rw [HN.out]; rfl), (by assumption)⟩
theorem rcheck_spec (A : Option Addr) (l : List ByteArray) (c : Nat) (w : World) (hm : l.length ≤ big) (hs : Sl strE w A l) :
    Calls Tryd.prog 10 #[.slice A l.length c] w fun e w' => e = .returned (iv (File.check l)) ∧ Below w.heap.size w w' := by
  have HL := Lib.hid (rlines_spec A l c w hm hs)
  by_cases h : 24 < l.length
  · have hi : (24 : Int) < (l.length : Int) := by omega
    go_enter Tryd.func10, Tryd.ntmps10
    go_wp2_with fail
    go_ret
    exact ⟨ret_eq (by unfold File.check; rw [if_pos h]; rfl), Below.refl _ _⟩
  · have hi : ¬ (24 : Int) < (l.length : Int) := by omega
    go_enter Tryd.func10, Tryd.ntmps10
    go_wp2_with (go_at_call 35; refine HL.out.mono ?_; rintro e w1 ⟨rfl, hb1⟩)
    go_ret
    exact ⟨ret_eq (by unfold File.check; rw [if_neg h]; rfl), hb1⟩
end Fl
end Go.Proofs.YtekkhnjepcebkaaDoor
-- The reference of layer 11: the text of a file; files that are more than what is compared. Conditions: lengths are below a great bound.
namespace Go.Proofs.YtekkhnjepcebkaaDoor
namespace Fl
open Go.RowKit
set_option maxRecDepth 100000
set_option maxRecDepth 100000 in
theorem indexRS (A : Option Addr) (l : List (Rw ByteArray)) (c : Nat) (K : Nat) (cap : Array Value) (p : (Rw ByteArray) → Bool) (w : World) (hm : l.length ≤ big) (hs : Sl (rwE ByteArray) w A l)
    (hf : IsPred Tryd.prog w K cap rwv l p) :
    Calls Tryd.prog 50 #[.slice A l.length c, .func (.func K) #[] cap] w
    fun e w' => e = .returned (iv (findFrom p l 0)) ∧ Below w.heap.size w w' := by
  unfold big at hm
  obtain ⟨hK, hf⟩ := hf
  have HF := Lib.hid hf
  clear hf
  go_enter Tryd.func50, Tryd.ntmps50
  go_wp2
  go_loopw [5, 8] (fun u i wr => ∃ (k : Nat), k ≤ l.length ∧ i = iv k ∧ Hid (findFrom p (l.drop k) k = findFrom p l 0) ∧ Below w.heap.size w wr) (fun _ i _ => l.length - (intOf i).toNat)
  case atStart => exact ⟨0, by omega, rfl, rfl, Below.refl _ _⟩
  case round =>
    obtain ⟨k, hk, rfl, hr, hbw⟩ := hrel
    have hs1 := hs.below hbw
    by_cases hlt : k < l.length
    · obtain ⟨b, off, x, rfl, hb, hx, hc0⟩ := Sl.atRw hs1 hlt
      have hd := hr.out
      rw [drop_at hx] at hd
      simp only [findFrom] at hd
      have HD := Lib.hid hd
      clear hd
      cases hp : p x
      · go_wp2_with fail
        refine (HF.out x (mem_at hx) wr hbw).mono ?_
        rintro e w1 ⟨rfl, hb1⟩
        rw [hp]
        go_wp2_with fail
        go_roundw
        case rel => exact ⟨k + 1, by omega, by go_num, by have := HD.out; rw [hp] at this; exact this, hbw.next hb1 (Nat.le_refl _)⟩
        case measure => simp [intOf]; omega
      · go_wp2_with fail
        refine (HF.out x (mem_at hx) wr hbw).mono ?_
        rintro e w1 ⟨rfl, hb1⟩
        rw [hp]
        go_wp2_with fail
        go_ret
        exact ⟨ret_eq (by have := HD.out; rw [hp] at this; rw [← this]; rfl), hbw.next hb1 (Nat.le_refl _)⟩
    · have hd := hr.out
      rw [drop_end hlt] at hd
      have HD := Lib.hid hd
      clear hd
      go_wp2
      go_ret
      exact ⟨ret_eq (by rw [← HD.out]; rfl), hbw⟩
theorem containsRS (A : Option Addr) (l : List (Rw ByteArray)) (c : Nat) (K : Nat) (cap : Array Value) (p : (Rw ByteArray) → Bool) (w : World) (hm : l.length ≤ big) (hs : Sl (rwE ByteArray) w A l)
    (hf : IsPred Tryd.prog w K cap rwv l p) :
    Calls Tryd.prog 21 #[.slice A l.length c, .func (.func K) #[] cap] w
    fun e w' => e = .returned (.bool (l.any p)) ∧ Below w.heap.size w w' := by
  have HF := Lib.hid hf
  clear hf
  go_enter Tryd.func21, Tryd.ntmps21
  go_wp2_with (go_at_call 50; refine (indexRS A l c K cap p _ hm hs HF.out).mono ?_; rintro e w1 ⟨rfl, hb1⟩)
  go_ret
  exact ⟨ret_eq (by rw [← findFrom_nonneg p l 0 (by omega)]; rfl), hb1⟩
namespace G
def longS (s : ByteArray) : Bool := decide (60 < (s.size : Int))
def greatF (f : List ByteArray) : Bool := decide (30 < f.length) || f.any longS
end G
theorem great11_spec (s : ByteArray) (w : World) : Calls Tryd.prog 24 #[.string s] w fun e w' => e = .returned (.bool (G.longS s)) ∧ w = w' := by
  go_enter Tryd.func24, Tryd.ntmps24
  go_wp2
  go_ret
  exact ⟨rfl, rfl⟩
theorem longPred (w : World) (l : List ByteArray) : IsPred Tryd.prog w 24 #[] sv l G.longS :=
  ⟨callFunc_run (by kernel_rfl), fun x _ w' _ => (great11_spec x w').mono fun _ _ h => ⟨h.1, by rw [← h.2]; exact Below.refl _ _⟩⟩
theorem great1_spec (A : Option Addr) (l : List ByteArray) (c : Nat) (w : World) (hs : Sl strE w A l) :
    Calls Tryd.prog 22 #[.slice A l.length c] w fun e w' => e = .returned (.bool (G.greatF l)) ∧ Below w.heap.size w w' := by
  by_cases h : 30 < l.length
  · have hi : (30 : Int) < (l.length : Int) := by omega
    have hg : G.greatF l = true := by unfold G.greatF; rw [decide_eq_true h]; rfl
    rw [hg]
    go_enter Tryd.func22, Tryd.ntmps22
    go_wp2_with fail
    go_ret
    exact ⟨rfl, Below.refl _ _⟩
  · have hi : ¬ (30 : Int) < (l.length : Int) := by omega
    have hg : G.greatF l = l.any G.longS := by unfold G.greatF; rw [decide_eq_false h]; rfl
    have HC := Lib.hid (containsS A l c 24 #[] G.longS w (by unfold big; omega) hs (longPred w l))
    rw [hg]
    clear hg
    go_enter Tryd.func22, Tryd.ntmps22
    go_wp2_with fail
    refine HC.out.mono ?_
    rintro e w1 ⟨rfl, hb1⟩
    go_wp2_with fail
    go_ret
    exact ⟨rfl, hb1⟩
theorem greatPred (w : World) (rs : List (Rw ByteArray)) (hr : RowsR strE w rs) : IsPred Tryd.prog w 22 #[] rwv rs (fun r => G.greatF r.xs) :=
  ⟨callFunc_run (by kernel_rfl), fun x hx w' hw' => great1_spec x.A x.xs x.c w' ((hr x hx).1.below hw')⟩
theorem great_spec (A : Option Addr) (rs : List (Rw ByteArray)) (c : Nat) (w : World) (hm : rs.length ≤ big) (hs : Sl (rwE ByteArray) w A rs) (hr : RowsR strE w rs) :
    Calls Tryd.prog 4 #[.slice A rs.length c] w fun e w' => e = .returned (.bool (rs.any fun r => G.greatF r.xs)) ∧ Below w.heap.size w w' := by
  have HC := Lib.hid (containsRS A rs c 22 #[] (fun r => G.greatF r.xs) w hm hs (greatPred w rs hr))
  obtain ⟨q, hq⟩ : ∃ q, q = rs.any fun r => G.greatF r.xs := ⟨_, rfl⟩
  rw [← hq] at HC ⊢
  clear hq
  go_enter Tryd.func4, Tryd.ntmps4
  go_wp2_with fail
  refine HC.out.mono ?_
  rintro e w1 ⟨rfl, hb1⟩
  go_wp2_with fail
  go_ret
  exact ⟨rfl, hb1⟩
end Fl
end Go.Proofs.YtekkhnjepcebkaaDoor
