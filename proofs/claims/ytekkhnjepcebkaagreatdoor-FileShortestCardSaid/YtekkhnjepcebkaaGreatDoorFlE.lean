/- Package file: a line that is read. No condition. -/
import Derived.Test.YtekkhnjepcebkaaGreatDoorFlD
set_option linter.unusedVariables false
set_option linter.unusedSimpArgs false
namespace Go.Proofs.YtekkhnjepcebkaaGreatDoor
namespace File
def takeN : Nat → List UInt8 → Nat → Bool × List UInt8 × Nat
  | 0, l, k => (true, l, k)
  | n + 1, l, k => if takes okB l then takeN n (rest okB l) (on okB l k) else (false, l, k)
def runN (s : Bool) (n : Nat) (l : List UInt8) (k : Nat) : Bool × List UInt8 × Nat := if s then takeN n l k else (false, l, k)
/-- What line reads: the line, if it is one, what is left, and where. -/
def readLine (l : List UInt8) (k : Nat) : Option (List UInt8) × List UInt8 × Nat :=
  let q := readNum l k
  let t := runN q.2.1 q.1 q.2.2.1 q.2.2.2
  if t.1 then (if takes (· == 10) t.2.1 then (some (q.2.2.1.take q.1), rest (· == 10) t.2.1, on (· == 10) t.2.1 t.2.2) else (none, t.2.1, t.2.2)) else (none, t.2.1, t.2.2)
theorem readNum_le (l : List UInt8) (k : Nat) : (readNum l k).1 ≤ 40 := by
  unfold readNum
  split
  · exact Nat.zero_le _
  · rename_i b r
    split
    · rename_i h
      have : b.toNat ≤ 57 := by simp [isDig] at h; exact h.2
      dsimp only
      split
      · rename_i h2; exact h2.2.2
      · show b.toNat - 48 ≤ 40; omega
    · exact Nat.zero_le _
end File
namespace Fl
open Go.RowKit
set_option maxRecDepth 100000
theorem readNum_len (l : List UInt8) (k : Nat) : (File.readNum l k).2.2.2 + (File.readNum l k).2.2.1.length = k + l.length := by
  unfold File.readNum
  split
  · rfl
  · rename_i b r
    split
    · dsimp only
      split
      · have h1 := rest_length File.isDig r (k + 1)
        have h2 := rest_length (· == 58) (File.rest File.isDig r) (File.on File.isDig r (k + 1))
        simp only [List.length_cons]
        show File.on (· == 58) (File.rest File.isDig r) (File.on File.isDig r (k + 1)) + (File.rest (· == 58) (File.rest File.isDig r)).length = _
        omega
      · have h2 := rest_length (· == 58) r (k + 1)
        simp only [List.length_cons]
        show File.on (· == 58) r (k + 1) + (File.rest (· == 58) r).length = _
        omega
    · rfl
theorem takeN_true : ∀ (n : Nat) (l : List UInt8) (k : Nat), (File.takeN n l k).1 = true → n ≤ l.length ∧ File.takeN n l k = (true, l.drop n, k + n) := by
  intro n
  induction n with
  | zero => intro l k _; exact ⟨Nat.zero_le _, rfl⟩
  | succ n ih =>
    intro l k h
    unfold File.takeN at h ⊢
    split at h
    · rename_i ht
      rw [if_pos ht]
      cases l with
      | nil => cases ht
      | cons b r =>
        have hb : File.okB b = true := ht
        rw [show File.rest File.okB (b :: r) = r from if_pos hb, show File.on File.okB (b :: r) k = k + 1 from if_pos ht] at h ⊢
        obtain ⟨h1, h2⟩ := ih r (k + 1) h
        refine ⟨by simpa using h1, ?_⟩
        rw [h2, List.drop_succ_cons, show k + 1 + n = k + (n + 1) by omega]
    · cases h
theorem runN_len (s : Bool) : ∀ (n : Nat) (l : List UInt8) (k : Nat), (File.runN s n l k).2.2 + (File.runN s n l k).2.1.length = k + l.length := by
  unfold File.runN
  cases s
  · intro n l k; rfl
  · intro n
    simp only [if_true]
    induction n with
    | zero => intro l k; rfl
    | succ n ih =>
      intro l k
      unfold File.takeN
      split
      · rw [ih, rest_length]
      · rfl
theorem runN_step (s : Bool) (n : Nat) (l : List UInt8) (k : Nat) : File.runN s (n + 1) l k = if s then File.runN (File.takes File.okB l) n (File.rest File.okB l) (File.on File.okB l k) else File.runN false n l k := by
  cases s
  · rfl
  · simp only [if_true]
    unfold File.runN
    simp only [if_true]
    rw [File.takeN]
    split
    · rfl
    · rename_i h
      have h' : File.takes File.okB l = false := by simpa using h
      rw [rest_no h', on_no h']
theorem ba_take (l : List UInt8) (n : Nat) : (File.ba l).extract 0 n = File.ba (l.take n) := by
  apply ByteArray.ext
  simp [File.ba]
set_option maxHeartbeats 4000000 in
theorem line_spec (g k : Nat) (l : List UInt8) (w : World) (hR : RD w g l k) (hk : k + l.length ≤ 1000000000) :
    Calls Tryz.prog 117 #[.pointer (some ⟨g, 0, none⟩)] w fun e w' => e = .returned (.tuple #[.string (File.ba ((File.readLine l k).1.getD [])), .bool (File.readLine l k).1.isSome]) ∧ RD w' g (File.readLine l k).2.1 (File.readLine l k).2.2 ∧ Only g w w' := by
  have HLE := Lib.hid (length_spec g k l w hR hk)
  have hg0 := hR.lt
  have hnl := File.readNum_le l k
  have hqk := readNum_len l k
  have HX : Hid (File.readLine l k = if (File.runN (File.readNum l k).2.1 (File.readNum l k).1 (File.readNum l k).2.2.1 (File.readNum l k).2.2.2).1 then
      (if File.takes (· == 10) (File.runN (File.readNum l k).2.1 (File.readNum l k).1 (File.readNum l k).2.2.1 (File.readNum l k).2.2.2).2.1 then (some ((File.readNum l k).2.2.1.take (File.readNum l k).1), File.rest (· == 10) (File.runN (File.readNum l k).2.1 (File.readNum l k).1 (File.readNum l k).2.2.1 (File.readNum l k).2.2.2).2.1, File.on (· == 10) (File.runN (File.readNum l k).2.1 (File.readNum l k).1 (File.readNum l k).2.2.1 (File.readNum l k).2.2.2).2.1 (File.runN (File.readNum l k).2.1 (File.readNum l k).1 (File.readNum l k).2.2.1 (File.readNum l k).2.2.2).2.2)
        else (none, (File.runN (File.readNum l k).2.1 (File.readNum l k).1 (File.readNum l k).2.2.1 (File.readNum l k).2.2.2).2.1, (File.runN (File.readNum l k).2.1 (File.readNum l k).1 (File.readNum l k).2.2.1 (File.readNum l k).2.2.2).2.2))
      else (none, (File.runN (File.readNum l k).2.1 (File.readNum l k).1 (File.readNum l k).2.2.1 (File.readNum l k).2.2.2).2.1, (File.runN (File.readNum l k).2.1 (File.readNum l k).1 (File.readNum l k).2.2.1 (File.readNum l k).2.2.2).2.2)) := Lib.hid rfl
  generalize File.readNum l k = q at *
  obtain ⟨n, ok, l1, k1⟩ := q
  dsimp only at HLE HX hnl hqk
  generalize File.readLine l k = rl at *
  have hl1 : l1.length ≤ 1000000000 := by omega
  go_enter Tryz.func117, Tryz.ntmps117
  go_wp2_with fail
  refine HLE.out.mono ?_
  rintro e w1 ⟨rfl, hR1, hO1⟩
  obtain ⟨m0, m1, m2⟩ := hR1.agg
  clear HLE hR
  go_wp2_with fail
  obtain ⟨T, hT⟩ : ∃ T, T = File.runN ok n l1 k1 := ⟨_, rfl⟩
  rw [← hT] at HX
  have HT := Lib.hid hT
  clear hT m0 m1
  go_loopw [5, 18] (fun v i wr => ∃ (j : Nat) (s : Bool) (lj : List UInt8) (kj : Nat), j ≤ n ∧ i = iv j ∧ v = .bool s ∧ RD wr g lj kj ∧ Only g w1 wr ∧ Hid (File.runN s (n - j) lj kj = T) ∧ kj + lj.length = k1 + l1.length) (fun _ i _ => n - (intOf i).toNat)
  case atStart => exact ⟨0, ok, l1, k1, by omega, rfl, rfl, hR1, Only.refl _ _, Lib.hid HT.out.symm, rfl⟩
  case round =>
    obtain ⟨j, s, lj, kj, hj, rfl, rfl, hRj, hOj, hr, hlj⟩ := hrel
    by_cases hlt : j < n
    · have hji : (j : Int) < (n : Int) := by omega
      have hr' := hr.out
      rw [show n - j = (n - (j + 1)) + 1 by omega, runN_step] at hr'
      cases s
      · simp only [Bool.false_eq_true, if_false] at hr'
        have HR := Lib.hid hr'
        clear hr hr'
        go_wp2_with fail
        go_roundw
        case rel => exact ⟨j + 1, false, lj, kj, by omega, by go_num, rfl, hRj, hOj, HR, hlj⟩
        case measure => simp [intOf]; omega
      · simp only [if_true] at hr'
        have HR := Lib.hid hr'
        have HTK := Lib.hid (takeOk g kj lj wr hRj (by omega))
        have HRL := Lib.hid (rest_length File.okB lj kj)
        clear hr hr'
        go_wp2_with (go_at_call 114; refine HTK.out.mono ?_; rintro e w2 ⟨rfl, hR2, hO2⟩)
        go_roundw
        case rel => exact ⟨j + 1, File.takes File.okB lj, File.rest File.okB lj, File.on File.okB lj kj, by omega, by go_num, rfl, hR2, hOj.trans hO2, HR, by have := HRL.out; omega⟩
        case measure => simp [intOf]; omega
    · have hji : ¬ (j : Int) < (n : Int) := by omega
      have hr' := hr.out
      rw [show n - j = 0 by omega] at hr'
      have hTe : T = (s, lj, kj) := by rw [← hr']; cases s <;> rfl
      rw [hTe] at HX HT
      dsimp only at HX
      have hmj := hRj.lt
      clear hr hr' hTe
      cases s
      · simp only [Bool.false_eq_true, if_false] at HX
        go_wp2_with fail
        go_ret2
        exact ⟨ret_eq (by rw [HX.out]; rfl), by rw [HX.out]; exact hRj, hO1.trans hOj⟩
      · simp only [if_true] at HX
        have hnle : n ≤ l1.length := by
          have h1 := HT.out
          cases ok
          · cases h1
          · have h2 : (File.takeN n l1 k1).1 = true := by rw [show File.takeN n l1 k1 = (true, lj, kj) from h1.symm]
            exact (takeN_true n l1 k1 h2).1
        have hnsz : (n : Int) ≤ ((File.ba l1).size : Int) := by rw [ba_size]; omega
        have HONE : Hid (∀ W : World, Calls Tryz.prog 118 #[.int .u8 10] W fun e w' => ∃ q, e = .returned (.agg #[.func (.func 169) #[] #[.pointer (some ⟨q, 0, none⟩)]]) ∧ Blk w' q 5 #[bv 10] ∧ Below W.heap.size W w') := Lib.hid fun W => one_spec 10 W
        cases ht : File.takes (· == 10) lj
        · rw [ht] at HX
          simp only [Bool.false_eq_true, if_false] at HX
          have hre := rest_no ht
          have hon := on_no ht kj
          go_wp2_with fail
          refine (HONE.out _).mono ?_
          rintro e w7 ⟨q, rfl, hq, hb7⟩
          have HTO := takeOne 10 q g kj lj w7 (hRj.below hb7) (by omega) hq
          rw [ht, hre, hon] at HTO
          have HTO2 := Lib.hid HTO
          clear hre hon ht HTO
          go_wp2_with fail
          refine HTO2.out.mono ?_
          rintro e w8 ⟨rfl, hR8, hO8⟩
          go_wp2_with fail
          go_ret2
          exact ⟨ret_eq (by rw [HX.out]; rfl), by rw [HX.out]; exact hR8, ((hO1.trans hOj).next hb7 (Nat.le_of_lt hmj)).trans hO8⟩
        · rw [ht] at HX
          simp only [if_true] at HX
          go_wp2_with fail
          refine (HONE.out _).mono ?_
          rintro e w7 ⟨q, rfl, hq, hb7⟩
          have HTO := takeOne 10 q g kj lj w7 (hRj.below hb7) (by omega) hq
          rw [ht] at HTO
          have HTO2 := Lib.hid HTO
          clear ht HTO
          go_wp2_with fail
          refine HTO2.out.mono ?_
          rintro e w8 ⟨rfl, hR8, hO8⟩
          go_wp2_with fail
          go_ret2
          exact ⟨ret_eq (by rw [HX.out]; simp [ba_take]), by rw [HX.out]; exact hR8, ((hO1.trans hOj).next hb7 (Nat.le_of_lt hmj)).trans hO8⟩
end Fl
end Go.Proofs.YtekkhnjepcebkaaGreatDoor
