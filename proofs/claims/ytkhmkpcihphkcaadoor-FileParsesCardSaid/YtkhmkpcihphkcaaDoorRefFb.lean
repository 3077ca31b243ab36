/- The reference of layer 11: the text of a file; files that are more than what is compared. Conditions: lengths are below a great bound. -/
import Derived.Test.YtkhmkpcihphkcaaDoorRefFa
import Derived.Test.YtkhmkpcihphkcaaDoorFree
import Derived.Test.YtkhmkpcihphkcaaDoorFlP
set_option linter.unusedVariables false
set_option linter.unusedSimpArgs false
namespace Go.Proofs.YtkhmkpcihphkcaaDoor
namespace Fl
open Go.RowKit
set_option maxRecDepth 100000
set_option maxHeartbeats 2000000 in
theorem rprint_spec (A : Option Addr) (l : List ByteArray) (c : Nat) (w : World) (hg : Good l) (hs : Sl strE w A l) :
    Calls Tryd.prog 28 #[.slice A l.length c] w fun e w' => e = .returned (.string (File.ba (File.text l))) ∧ Below w.heap.size w w' := by
  have hm := hg.many
  have HG := Lib.hid hg
  clear hg
  go_enter Tryd.func28, Tryd.ntmps28
  go_wp2_with fail
  go_loopw [3, 4] (fun v i wr => ∃ (k : Nat) (acc : List UInt8), k ≤ l.length ∧ i = iv k ∧ v = .string (File.ba acc) ∧ Hid (acc ++ File.printed (l.drop k) = File.printed l) ∧ acc.length ≤ k * 50 ∧ Below w.heap.size w wr) (fun _ i _ => l.length - (intOf i).toNat)
  case atStart => exact ⟨0, [], by omega, rfl, rfl, rfl, by simp, Below.refl _ _⟩
  case round =>
    obtain ⟨k, acc, hk, rfl, rfl, hr, hac, hbr⟩ := hrel
    have haz : (File.ba acc).size = acc.length := ba_size' acc
    by_cases hlt : k < l.length
    · have hki : (k : Int) < (l.length : Int) := by omega
      obtain ⟨b, off, x0, rfl, hb, hx, hc0⟩ := Sl.atS (hs.below hbr) hlt
      have hxw := HG.out.wide x0 (mem_at hx)
      have hr' := hr.out
      rw [drop_at hx] at hr'
      simp only [File.printed] at hr'
      have HR := Lib.hid hr'
      have HFF : Hid (∀ x, Below wr.heap.size wr x → x.cell? ⟨b, off + k, none⟩ = some (.string x0)) := Lib.hid fun x h => (h.cell (p := ⟨b, off + k, none⟩) hb).trans hc0
      obtain ⟨D, hD⟩ : ∃ D, D = File.ba (Lib.decDigits x0.size) := ⟨_, rfl⟩
      obtain ⟨FE, hFE⟩ : ∃ FE, FE = File.ba [10] := ⟨_, rfl⟩
      have z1 : D.size ≤ 6 := by rw [hD, ba_size']; exact dec_len 5 _ (by omega)
      have z2 : FE.size = 1 := by rw [hFE]; rfl
      have z3 : (File.ba acc).size ≤ 2000 := by omega
      have HDG : Hid (∀ x : World, Calls Tryd.prog 63 #[iv (x0.size : Int)] x fun e w' => e = .returned (.string D) ∧ Below x.heap.size x w') := Lib.hid fun x => by
        rw [hD]
        refine (digits_spec x0.size x (by omega)).mono ?_
        rintro e w' ⟨h1, rfl⟩
        exact ⟨h1, Below.refl _ _⟩
      have HFE : Hid (∀ x : World, Calls Tryd.prog 64 #[] x fun e w' => e = .returned (.string FE) ∧ Below x.heap.size x w') := Lib.hid fun x => by rw [hFE]; exact feed_spec x
      have HNEW : Hid (File.ba acc ++ D ++ ⟨#[58]⟩ ++ x0 ++ FE = File.ba (acc ++ (Lib.decDigits x0.size ++ (58 :: (File.bts x0 ++ [10]))))) := Lib.hid (by
        rw [hD, hFE]
        apply ByteArray.ext
        simp [File.ba])
      have hal : (acc ++ (Lib.decDigits x0.size ++ (58 :: (File.bts x0 ++ [10])))).length ≤ (k + 1) * 50 := by
        have := dec_len 5 x0.size (by omega)
        simp
        omega
      clear hx hr hr' hD hFE hs hc0
      go_upto_region 5 with fail
      refine wp_free_lit (by kernel_rfl) 16 (by kernel_rfl) (by kernel_rfl) (by decide) (fun _ x => Below wr.heap.size wr x) (fun x x' => Below x.heap.size x x')
        [fun _ u _ => u = .string (File.ba acc),
         fun _ u _ => u = .slice (some ⟨b, off, none⟩) l.length c,
         fun _ u _ => u = iv (k : Int),
         fun _ u _ => u = .pointer (some ⟨b, off + k, none⟩),
         fun _ u _ => u = .string x0,
         fun _ u _ => u = iv (x0.size : Int),
         fun _ u _ => u = .string D,
         fun _ u _ => u = .string (File.ba acc ++ D),
         fun _ u _ => u = .string (File.ba acc ++ D ++ ⟨#[58]⟩),
         fun _ u _ => u = .slice (some ⟨b, off, none⟩) l.length c,
         fun _ u _ => u = iv (k : Int),
         fun _ u _ => u = .pointer (some ⟨b, off + k, none⟩),
         fun _ u _ => u = .string x0,
         fun _ u _ => u = .string (File.ba acc ++ D ++ ⟨#[58]⟩ ++ x0),
         fun _ u _ => u = .string FE,
         fun _ u _ => u = .string (File.ba acc ++ D ++ ⟨#[58]⟩ ++ x0 ++ FE)]
        (Below.refl _ wr).drew ?_ ?_
      · simp only [List.take_succ_cons, List.take_zero, HopL]
        refine ⟨?_, ?_, ?_, ?_, ?_, ?_, ?_, ?_, ?_, ?_, ?_, ?_, ?_, ?_, ?_, ?_, trivial⟩
        · refine ⟨fun _ _ _ _ _ h => h, fun _ _ _ _ h _ => h, fun v n x hn hR hk => ?_⟩
          simp only [List.take_succ_cons, List.take_zero, frameF, Act.put, List.setIfInBounds_toArray, List.set_cons_zero, List.set_cons_succ]
          exact stepF_val (by rfl) (by go_simp <;> omega) ⟨rfl, Below.refl _ _, hR⟩
        · refine ⟨fun _ _ _ _ _ h => h, fun _ _ _ _ h _ => h, fun v n x hn hR hk => ?_⟩
          simp only [List.take_succ_cons, List.take_zero, frameF, Act.put, List.setIfInBounds_toArray, List.set_cons_zero, List.set_cons_succ]
          exact stepF_val (by rfl) (by go_simp <;> omega) ⟨rfl, Below.refl _ _, hR⟩
        · refine ⟨fun _ _ _ _ _ h => h, fun _ _ _ _ h _ => h, fun v n x hn hR hk => ?_⟩
          simp only [List.take_succ_cons, List.take_zero, frameF, Act.put, List.setIfInBounds_toArray, List.set_cons_zero, List.set_cons_succ]
          exact stepF_val (by rfl) (by go_simp <;> omega) ⟨rfl, Below.refl _ _, hR⟩
        · refine ⟨fun _ _ _ _ _ h => h, fun _ _ _ _ h _ => h, fun v n x hn hR hk => ?_⟩
          have h1 : v 1 = .slice (some ⟨b, off, none⟩) l.length c := hk 1 (by kernel_rfl)
          have h2 : v 2 = iv (k : Int) := hk 2 (by kernel_rfl)
          simp only [List.take_succ_cons, List.take_zero, frameF, Act.put, List.setIfInBounds_toArray, List.set_cons_zero, List.set_cons_succ]
          exact stepF_val (by rfl) (by go_simp <;> omega) ⟨rfl, Below.refl _ _, hR⟩
        · refine ⟨fun _ _ _ _ _ h => h, fun _ _ _ _ h _ => h, fun v n x hn hR hk => ?_⟩
          have h3 : v 3 = .pointer (some ⟨b, off + k, none⟩) := hk 3 (by kernel_rfl)
          have hc1 := HFF.out x hR
          simp only [List.take_succ_cons, List.take_zero, frameF, Act.put, List.setIfInBounds_toArray, List.set_cons_zero, List.set_cons_succ]
          exact stepF_val (by rfl) (by go_simp <;> omega) ⟨rfl, Below.refl _ _, hR⟩
        · refine ⟨fun _ _ _ _ _ h => h, fun _ _ _ _ h _ => h, fun v n x hn hR hk => ?_⟩
          have h4 : v 4 = .string x0 := hk 4 (by kernel_rfl)
          simp only [List.take_succ_cons, List.take_zero, frameF, Act.put, List.setIfInBounds_toArray, List.set_cons_zero, List.set_cons_succ]
          exact stepF_val (by rfl) (by go_simp <;> omega) ⟨rfl, Below.refl _ _, hR⟩
        · refine ⟨fun _ _ _ _ _ h => h, fun _ _ _ _ h _ => h, fun v n x hn hR hk => ?_⟩
          have h5 : v 5 = iv (x0.size : Int) := hk 5 (by kernel_rfl)
          simp only [List.take_succ_cons, List.take_zero, frameF, Act.put, List.setIfInBounds_toArray, List.set_cons_zero, List.set_cons_succ]
          refine stepF_call (by rfl) (by go_simp) (HDG.out x) ?_
          rintro e x' ⟨rfl, hb⟩
          exact ⟨_, rfl, rfl, hb, hR.next hb (Nat.le_refl _)⟩
        · refine ⟨fun _ _ _ _ _ h => h, fun _ _ _ _ h _ => h, fun v n x hn hR hk => ?_⟩
          have h0 : v 0 = .string (File.ba acc) := hk 0 (by kernel_rfl)
          have h6 : v 6 = .string D := hk 6 (by kernel_rfl)
          simp only [List.take_succ_cons, List.take_zero, frameF, Act.put, List.setIfInBounds_toArray, List.set_cons_zero, List.set_cons_succ]
          exact stepF_val (by rfl) (by go_simp <;> omega) ⟨rfl, Below.refl _ _, hR⟩
        · refine ⟨fun _ _ _ _ _ h => h, fun _ _ _ _ h _ => h, fun v n x hn hR hk => ?_⟩
          have h7 : v 7 = .string (File.ba acc ++ D) := hk 7 (by kernel_rfl)
          simp only [List.take_succ_cons, List.take_zero, frameF, Act.put, List.setIfInBounds_toArray, List.set_cons_zero, List.set_cons_succ]
          exact stepF_val (by rfl) (by go_simp <;> omega) ⟨rfl, Below.refl _ _, hR⟩
        · refine ⟨fun _ _ _ _ _ h => h, fun _ _ _ _ h _ => h, fun v n x hn hR hk => ?_⟩
          simp only [List.take_succ_cons, List.take_zero, frameF, Act.put, List.setIfInBounds_toArray, List.set_cons_zero, List.set_cons_succ]
          exact stepF_val (by rfl) (by go_simp <;> omega) ⟨rfl, Below.refl _ _, hR⟩
        · refine ⟨fun _ _ _ _ _ h => h, fun _ _ _ _ h _ => h, fun v n x hn hR hk => ?_⟩
          simp only [List.take_succ_cons, List.take_zero, frameF, Act.put, List.setIfInBounds_toArray, List.set_cons_zero, List.set_cons_succ]
          exact stepF_val (by rfl) (by go_simp <;> omega) ⟨rfl, Below.refl _ _, hR⟩
        · refine ⟨fun _ _ _ _ _ h => h, fun _ _ _ _ h _ => h, fun v n x hn hR hk => ?_⟩
          have h9 : v 9 = .slice (some ⟨b, off, none⟩) l.length c := hk 9 (by kernel_rfl)
          have h10 : v 10 = iv (k : Int) := hk 10 (by kernel_rfl)
          simp only [List.take_succ_cons, List.take_zero, frameF, Act.put, List.setIfInBounds_toArray, List.set_cons_zero, List.set_cons_succ]
          exact stepF_val (by rfl) (by go_simp <;> omega) ⟨rfl, Below.refl _ _, hR⟩
        · refine ⟨fun _ _ _ _ _ h => h, fun _ _ _ _ h _ => h, fun v n x hn hR hk => ?_⟩
          have h11 : v 11 = .pointer (some ⟨b, off + k, none⟩) := hk 11 (by kernel_rfl)
          have hc1 := HFF.out x hR
          simp only [List.take_succ_cons, List.take_zero, frameF, Act.put, List.setIfInBounds_toArray, List.set_cons_zero, List.set_cons_succ]
          exact stepF_val (by rfl) (by go_simp <;> omega) ⟨rfl, Below.refl _ _, hR⟩
        · refine ⟨fun _ _ _ _ _ h => h, fun _ _ _ _ h _ => h, fun v n x hn hR hk => ?_⟩
          have h8 : v 8 = .string (File.ba acc ++ D ++ ⟨#[58]⟩) := hk 8 (by kernel_rfl)
          have h12 : v 12 = .string x0 := hk 12 (by kernel_rfl)
          simp only [List.take_succ_cons, List.take_zero, frameF, Act.put, List.setIfInBounds_toArray, List.set_cons_zero, List.set_cons_succ]
          exact stepF_val (by rfl) (by go_simp <;> omega) ⟨rfl, Below.refl _ _, hR⟩
        · refine ⟨fun _ _ _ _ _ h => h, fun _ _ _ _ h _ => h, fun v n x hn hR hk => ?_⟩
          simp only [List.take_succ_cons, List.take_zero, frameF, Act.put, List.setIfInBounds_toArray, List.set_cons_zero, List.set_cons_succ]
          refine stepF_call (by rfl) (by go_simp) (HFE.out x) ?_
          rintro e x' ⟨rfl, hb⟩
          exact ⟨_, rfl, rfl, hb, hR.next hb (Nat.le_refl _)⟩
        · refine ⟨fun _ _ _ _ _ h => h, fun _ _ _ _ h _ => h, fun v n x hn hR hk => ?_⟩
          have h13 : v 13 = .string (File.ba acc ++ D ++ ⟨#[58]⟩ ++ x0) := hk 13 (by kernel_rfl)
          have h14 : v 14 = .string FE := hk 14 (by kernel_rfl)
          simp only [List.take_succ_cons, List.take_zero, frameF, Act.put, List.setIfInBounds_toArray, List.set_cons_zero, List.set_cons_succ]
          exact stepF_val (by rfl) (by go_simp <;> omega) ⟨rfl, Below.refl _ _, hR⟩
      · intro v n x hn hR hall
        have h15 : v 15 = .string (File.ba acc ++ D ++ ⟨#[58]⟩ ++ x0 ++ FE) := hall 15 (by decide)
        clear hall hn
        simp only [List.drop_succ_cons, List.drop_zero, List.take_succ_cons, List.take_zero, frameF, Act.put, List.setIfInBounds_toArray, List.set_cons_zero, List.set_cons_succ, Nat.zero_add, Nat.reduceAdd, h15]
        go_wp2_with fail
        go_roundw
        case rel => exact ⟨k + 1, _, by omega, by go_num, by rw [HNEW.out], Lib.hid (by have := HR.out; rw [← this]; simp), hal, hbr.next hR (Nat.le_refl _)⟩
        case measure => simp [intOf]; omega
    · have hki : ¬ (k : Int) < (l.length : Int) := by omega
      have hr' := hr.out
      rw [drop_end hlt] at hr'
      simp only [File.printed, List.append_nil] at hr'
      have hb := sum_bounds l
      obtain ⟨n, hn⟩ : ∃ n : Nat, File.sum l = n := ⟨(File.sum l).toNat, by omega⟩
      have HSM : Hid (Calls Tryd.prog 27 #[.slice A l.length c] wr fun e w' => e = .returned (iv (n : Int)) ∧ Below wr.heap.size wr w') := Lib.hid (by rw [← hn]; exact rsum_spec A l c wr hm HG.out.wide (hs.below hbr))
      obtain ⟨D, hD⟩ : ∃ D, D = File.ba (Lib.decDigits n) := ⟨_, rfl⟩
      obtain ⟨FE, hFE⟩ : ∃ FE, FE = File.ba [10] := ⟨_, rfl⟩
      have z1 : D.size ≤ 6 := by rw [hD, ba_size']; exact dec_len 5 _ (by omega)
      have z2 : FE.size = 1 := by rw [hFE]; rfl
      have z3 : (File.ba acc).size ≤ 2000 := by omega
      have HDG : Hid (∀ x : World, Calls Tryd.prog 63 #[iv (n : Int)] x fun e w' => e = .returned (.string D) ∧ x = w') := Lib.hid fun x => by
        rw [hD]
        exact digits_spec n x (by omega)
      have HFE : Hid (∀ x : World, Calls Tryd.prog 64 #[] x fun e w' => e = .returned (.string FE) ∧ Below x.heap.size x w') := Lib.hid fun x => by rw [hFE]; exact feed_spec x
      have HNEW : Hid (File.ba acc ++ ⟨#[61]⟩ ++ D ++ FE = File.ba (File.text l)) := Lib.hid (by
        rw [hD, hFE]
        apply ByteArray.ext
        simp [File.ba, File.text, File.endOf, hn, ← hr'])
      clear hr hr' hD hFE hs hn hb
      go_wp2_with fail
      refine HSM.out.mono ?_
      rintro e w1 ⟨rfl, hb1⟩
      go_wp2_with fail
      refine (HDG.out w1).mono ?_
      rintro e w2 ⟨rfl, rfl⟩
      go_wp2_with fail
      refine (HFE.out w1).mono ?_
      rintro e w3 ⟨rfl, hb3⟩
      go_wp2_with fail
      go_ret
      exact ⟨ret_eq (by rw [HNEW.out]; rfl), (hbr.next hb1 (Nat.le_refl _)).next hb3 (Nat.le_refl _)⟩
set_option maxRecDepth 100000 in
theorem indexRS (A : Option Addr) (l : List (Rw ByteArray)) (c : Nat) (K : Nat) (cap : Array Value) (p : (Rw ByteArray) → Bool) (w : World) (hm : l.length ≤ big) (hs : Sl (rwE ByteArray) w A l)
    (hf : IsPred Tryd.prog w K cap rwv l p) :
    Calls Tryd.prog 117 #[.slice A l.length c, .func (.func K) #[] cap] w
    fun e w' => e = .returned (iv (findFrom p l 0)) ∧ Below w.heap.size w w' := by
  unfold big at hm
  obtain ⟨hK, hf⟩ := hf
  have HF := Lib.hid hf
  clear hf
  go_enter Tryd.func117, Tryd.ntmps117
  go_wp2
  go_loopw [5, 8] (fun u i wr => ∃ (k : Nat), k ≤ l.length ∧ i = iv k ∧ Hid (findFrom p (l.drop k) k = findFrom p l 0) ∧ Below w.heap.size w wr) (fun _ i _ => l.length - (intOf i).toNat)
  case atStart => exact ⟨0, by omega, rfl, rfl, Below.refl _ _⟩
  case round =>
    obtain ⟨k, hk, rfl, hr, hbw⟩ := hrel
    have hs1 := hs.below hbw
    by_cases hlt : k < l.length
    · obtain ⟨b, off, x, rfl, hb, hx, hc0⟩ := Sl.atRw hs1 hlt
      have hd := hr.out
      rw [drop_at hx] at hd
      simp only [findFrom] at hd
      have HD := Lib.hid hd
      clear hd
      cases hp : p x
      · go_wp2_with fail
        refine (HF.out x (mem_at hx) wr hbw).mono ?_
        rintro e w1 ⟨rfl, hb1⟩
        rw [hp]
        go_wp2_with fail
        go_roundw
        case rel => exact ⟨k + 1, by omega, by go_num, by have := HD.out; rw [hp] at this; exact this, hbw.next hb1 (Nat.le_refl _)⟩
        case measure => simp [intOf]; omega
      · go_wp2_with fail
        refine (HF.out x (mem_at hx) wr hbw).mono ?_
        rintro e w1 ⟨rfl, hb1⟩
        rw [hp]
        go_wp2_with fail
        go_ret
        exact ⟨ret_eq (by have := HD.out; rw [hp] at this; rw [← this]; rfl), hbw.next hb1 (Nat.le_refl _)⟩
    · have hd := hr.out
      rw [drop_end hlt] at hd
      have HD := Lib.hid hd
      clear hd
      go_wp2
      go_ret
      exact ⟨ret_eq (by rw [← HD.out]; rfl), hbw⟩
theorem containsRS (A : Option Addr) (l : List (Rw ByteArray)) (c : Nat) (K : Nat) (cap : Array Value) (p : (Rw ByteArray) → Bool) (w : World) (hm : l.length ≤ big) (hs : Sl (rwE ByteArray) w A l)
    (hf : IsPred Tryd.prog w K cap rwv l p) :
    Calls Tryd.prog 78 #[.slice A l.length c, .func (.func K) #[] cap] w
    fun e w' => e = .returned (.bool (l.any p)) ∧ Below w.heap.size w w' := by
  have HF := Lib.hid hf
  clear hf
  go_enter Tryd.func78, Tryd.ntmps78
  go_wp2_with (go_at_call 117; refine (indexRS A l c K cap p _ hm hs HF.out).mono ?_; rintro e w1 ⟨rfl, hb1⟩)
  go_ret
  exact ⟨ret_eq (by rw [← findFrom_nonneg p l 0 (by omega)]; rfl), hb1⟩
namespace G
def longS (s : ByteArray) : Bool := decide (60 < (s.size : Int))
def greatF (f : List ByteArray) : Bool := decide (30 < f.length) || f.any longS
end G
theorem great11_spec (s : ByteArray) (w : World) : Calls Tryd.prog 80 #[.string s] w fun e w' => e = .returned (.bool (G.longS s)) ∧ w = w' := by
  go_enter Tryd.func80, Tryd.ntmps80
  go_wp2
  go_ret
  exact ⟨rfl, rfl⟩
theorem longPred (w : World) (l : List ByteArray) : IsPred Tryd.prog w 80 #[] sv l G.longS :=
  ⟨callFunc_run (by kernel_rfl), fun x _ w' _ => (great11_spec x w').mono fun _ _ h => ⟨h.1, by rw [← h.2]; exact Below.refl _ _⟩⟩
theorem great1_spec (A : Option Addr) (l : List ByteArray) (c : Nat) (w : World) (hs : Sl strE w A l) :
    Calls Tryd.prog 79 #[.slice A l.length c] w fun e w' => e = .returned (.bool (G.greatF l)) ∧ Below w.heap.size w w' := by
  by_cases h : 30 < l.length
  · have hi : (30 : Int) < (l.length : Int) := by omega
    have hg : G.greatF l = true := by unfold G.greatF; rw [decide_eq_true h]; rfl
    rw [hg]
    go_enter Tryd.func79, Tryd.ntmps79
    go_wp2_with fail
    go_ret
    exact ⟨rfl, Below.refl _ _⟩
  · have hi : ¬ (30 : Int) < (l.length : Int) := by omega
    have hg : G.greatF l = l.any G.longS := by unfold G.greatF; rw [decide_eq_false h]; rfl
    have HC := Lib.hid (containsS A l c 80 #[] G.longS w (by unfold big; omega) hs (longPred w l))
    rw [hg]
    clear hg
    go_enter Tryd.func79, Tryd.ntmps79
    go_wp2_with fail
    refine HC.out.mono ?_
    rintro e w1 ⟨rfl, hb1⟩
    go_wp2_with fail
    go_ret
    exact ⟨rfl, hb1⟩
theorem greatPred (w : World) (rs : List (Rw ByteArray)) (hr : RowsR strE w rs) : IsPred Tryd.prog w 79 #[] rwv rs (fun r => G.greatF r.xs) :=
  ⟨callFunc_run (by kernel_rfl), fun x hx w' hw' => great1_spec x.A x.xs x.c w' ((hr x hx).1.below hw')⟩
theorem great_spec (A : Option Addr) (rs : List (Rw ByteArray)) (c : Nat) (w : World) (hm : rs.length ≤ big) (hs : Sl (rwE ByteArray) w A rs) (hr : RowsR strE w rs) :
    Calls Tryd.prog 23 #[.slice A rs.length c] w fun e w' => e = .returned (.bool (rs.any fun r => G.greatF r.xs)) ∧ Below w.heap.size w w' := by
  have HC := Lib.hid (containsRS A rs c 79 #[] (fun r => G.greatF r.xs) w hm hs (greatPred w rs hr))
  obtain ⟨q, hq⟩ : ∃ q, q = rs.any fun r => G.greatF r.xs := ⟨_, rfl⟩
  rw [← hq] at HC ⊢
  clear hq
  go_enter Tryd.func23, Tryd.ntmps23
  go_wp2_with fail
  refine HC.out.mono ?_
  rintro e w1 ⟨rfl, hb1⟩
  go_wp2_with fail
  go_ret
  exact ⟨rfl, hb1⟩
end Fl
end Go.Proofs.YtkhmkpcihphkcaaDoor
