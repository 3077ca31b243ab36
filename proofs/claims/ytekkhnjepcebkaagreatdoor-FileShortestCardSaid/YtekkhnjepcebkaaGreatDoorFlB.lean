/- Package file: the text of a file. Conditions: the library's table of powers of ten lies as the program's text lays it. -/
import Derived.Test.YtekkhnjepcebkaaGreatDoorFlLay
set_option linter.unusedVariables false
set_option linter.unusedSimpArgs false
namespace Go.Proofs.YtekkhnjepcebkaaGreatDoor
namespace File
def ba (l : List UInt8) : ByteArray := ⟨l.toArray⟩
def endOf (f : List ByteArray) : List UInt8 := Lib.decDigits (sum f).toNat ++ [10]
def printed : List ByteArray → List UInt8
  | [] => []
  | s :: f => Lib.decDigits s.size ++ (58 :: (bts s ++ (10 :: printed f)))
def text (f : List ByteArray) : List UInt8 := printed f ++ (61 :: endOf f)
end File
namespace Fl
open Go.RowKit
set_option maxRecDepth 100000
theorem ba_append (a b : List UInt8) : (⟨a.toArray⟩ : ByteArray) ++ (⟨b.toArray⟩ : ByteArray) = File.ba (a ++ b) := by
  apply ByteArray.ext
  simp [File.ba]
theorem dec_len : ∀ (k n : Nat), n < 10 ^ (k + 1) → (Lib.decDigits n).length ≤ k + 1 := by
  intro k
  induction k with
  | zero =>
    intro n h
    unfold Lib.decDigits
    rw [dif_pos (by simpa using h)]
    simp
  | succ k ih =>
    intro n h
    unfold Lib.decDigits
    split
    · simp
    · rw [List.length_append]
      have := ih (n / 10) (by rw [Nat.pow_succ] at h; omega)
      simp only [List.length_cons, List.length_nil]
      omega
theorem sum_bounds (l : List ByteArray) : 0 ≤ File.sum l ∧ File.sum l < 9973 := by unfold File.sum; omega
theorem end_spec (A : Option Addr) (l : List ByteArray) (c : Nat) (w : World) (hg : Good l) (hs : Sl strE w A l) (ht : Tab w) :
    Calls Tryz.prog 113 #[.slice A l.length c] w fun e w' => e = .returned (.string (File.ba (File.endOf l))) ∧ Below w.heap.size w w' := by
  have HS := Lib.hid (sum_spec A l c w hg hs)
  have hb := sum_bounds l
  obtain ⟨n, hn⟩ : ∃ n : Nat, File.sum l = n := ⟨(File.sum l).toNat, by omega⟩
  have HT := Lib.hid ht
  have HE : Hid (File.endOf l = Lib.decDigits n ++ [10]) := Lib.hid (by unfold File.endOf; rw [hn]; rfl)
  rw [hn] at HS
  have hn2 : n < 9973 := by omega
  have hdl : (Lib.decDigits n).length ≤ 6 := dec_len 5 n (by omega)
  clear hn hb ht hg
  go_enter Tryz.func113, Tryz.ntmps113
  go_wp2_with (first
    | (go_at_call 166; refine HS.out.mono ?_; rintro e w1 ⟨rfl, hb1⟩)
    | (go_at_call 111; refine (itoa_spec n (by omega) _ (HT.out.below hb1)).mono ?_; rintro e w2 ⟨rfl, hb2⟩))
  go_ret
  exact ⟨ret_eq (by rw [HE.out]; exact congrArg Value.string (ba_append _ _)), hb1.next hb2 (Nat.le_refl _)⟩
theorem ownsRow_below {w w' : World} {B : Nat} {e : TypeId} {sz : Nat} {v : Value} {n : Nat} {xs : List Value} (h : w.ownsRow B e sz v n xs) (hb : Below w.heap.size w w') : w'.ownsRow B e sz v n xs := by
  have hl := World.ownsRow.lt h
  refine ⟨h.1, ?_⟩
  rcases h.2 with hn | ⟨g, cap, cur, rfl, h1, hg, r⟩
  · exact .inl hn
  · exact .inr ⟨g, cap, cur, rfl, h1, (hb.block g (hl g rfl).2).trans hg, r⟩
theorem builderAt_below {w w' : World} {T e : TypeId} {B b : Nat} {p : Value} {bs : List Value} (h : Lib.BuilderAt T e B b p bs w) (hb : Below w.heap.size w w') : Lib.BuilderAt T e B b p bs w' := by
  have hl := h.lt
  obtain ⟨h1, v, h2, h3, h4⟩ := h
  exact ⟨h1, v, (hb.block b hl).trans h2, ownsRow_below h3 hb, h4⟩
theorem isBuilder_below {w w' : World} {T e : TypeId} {B b : Nat} {bs : List Value} (h : Lib.IsBuilder T e B b bs w) (hb : Below w.heap.size w w') : Lib.IsBuilder T e B b bs w' := by
  rcases h with h | h
  · exact Or.inl (builderAt_below h hb)
  · exact Or.inr (builderAt_below h hb)
theorem isBuilder_lt {w : World} {T e : TypeId} {B b : Nat} {bs : List Value} (h : Lib.IsBuilder T e B b bs w) : b < w.heap.size := by
  rcases h with h | h <;> exact h.lt
set_option maxHeartbeats 2000000 in
theorem print_spec (A : Option Addr) (l : List ByteArray) (c : Nat) (w : World) (hm : l.length ≤ big) (hs : Sl strE w A l) (ht : Tab w) :
    Calls Tryz.prog 46 #[.slice A l.length c] w fun e w' => e = .returned (.tuple #[.string (if File.check l = 0 then File.ba (File.text l) else ⟨#[]⟩), iv (File.check l)]) ∧ Below w.heap.size w w' := by
  have HC := Lib.hid (check_spec A l c w hm hs)
  by_cases h : File.check l = 0
  · have HG := Lib.hid (good_of_check h)
    have hlm := HG.out.many
    rw [if_pos h]
    rw [h] at HC ⊢
    have HT := Lib.hid ht
    clear h ht
    go_enter Tryz.func46, Tryz.ntmps46
    go_wp2_with (go_at_call 48; refine HC.out.mono ?_; rintro e w1 ⟨rfl, hb1⟩)
    have hI0 := Lib.fresh_isBuilder 164 5 w1
    have hb2 : Below w1.heap.size w1 (w1.alloc (.cells #[.pointer none, .slice none 0 0] 164)) := (Below.refl _ _).alloc (Nat.le_refl _) _
    go_loopw [7, 15] (fun _ i wr => ∃ (k : Nat) (acc : List UInt8), k ≤ l.length ∧ i = iv k ∧ Lib.IsBuilder 164 5 w1.heap.size w1.heap.size (Lib.byteCells acc) wr ∧ Below w1.heap.size w1 wr ∧ Hid (acc ++ File.printed (l.drop k) = File.printed l) ∧ acc.length ≤ k * 50) (fun _ i _ => l.length - (intOf i).toNat)
    case atStart => exact ⟨0, [], by omega, rfl, hI0, hb2, rfl, by simp⟩
    case round =>
      obtain ⟨k, acc, hk, rfl, hI, hbr, hr, hac⟩ := hrel
      have hb0r := hb1.next hbr (Nat.le_refl _)
      by_cases hlt : k < l.length
      · have hki : (k : Int) < (l.length : Int) := by omega
        obtain ⟨b, off, x, rfl, hb, hx, hc0⟩ := Sl.atS (hs.below hb0r) hlt
        have hxw := HG.out.wide x (mem_at hx)
        have hr' := hr.out
        rw [drop_at hx] at hr'
        simp only [File.printed] at hr'
        have HR := Lib.hid hr'
        have hdl : (Lib.decDigits x.size).length ≤ 6 := dec_len 5 x.size (by omega)
        have HIT := Lib.hid (itoa_spec x.size (by omega) wr (HT.out.below hb0r))
        clear hx hr hr'
        go_wp2_with (go_at_call 111; refine HIT.out.mono ?_; rintro e w2 ⟨rfl, hb2⟩)
        have hstr : (⟨(Lib.decDigits x.size).toArray⟩ : ByteArray) ++ ⟨#[58]⟩ ++ x ++ ⟨#[10]⟩ = File.ba (Lib.decDigits x.size ++ (58 :: (File.bts x ++ [10]))) := by
          apply ByteArray.ext
          simp [File.ba]
        have hsz : (File.ba (Lib.decDigits x.size ++ (58 :: (File.bts x ++ [10])))).size ≤ 50 := by
          show (List.toArray _).size ≤ 50
          simp
          omega
        rw [hstr]
        refine (write_spec w1.heap.size w1.heap.size (Lib.byteCells acc) _ w2 (isBuilder_below hI hb2) (by rw [Lib.byteCells_length]; omega) (Nat.le_trans hbr.size hb2.size)).mono ?_
        rintro e w3 ⟨rfl, h3, hb3⟩
        have h3' : Lib.IsBuilder 164 5 w1.heap.size w1.heap.size (Lib.byteCells (acc ++ (Lib.decDigits x.size ++ (58 :: (File.bts x ++ [10]))))) w3 := Or.inr (by rw [Lib.byteCells_append]; exact h3)
        have hb13 : Below w1.heap.size w1 w3 := (hbr.trans (hb2.mono hbr.size)).trans hb3
        clear hstr h3 hsz
        go_wp2_with fail
        go_roundw
        case rel => exact ⟨k + 1, _, by omega, by go_num, h3', hb13, Lib.hid (by have := HR.out; rw [← this]; simp), by simp; omega⟩
        case measure => simp [intOf]; omega
      · have hki : ¬ (k : Int) < (l.length : Int) := by omega
        have hr' := hr.out
        rw [drop_end hlt] at hr'
        simp only [File.printed, List.append_nil] at hr'
        have HR := Lib.hid hr'
        clear hr hr'
        have hI1 := hI
        have HE : Hid (∀ W, Below w.heap.size w W → Calls Tryz.prog 113 #[.slice A l.length c] W fun e w' => e = .returned (.string (File.ba (File.endOf l))) ∧ Below W.heap.size W w') := Lib.hid fun W hW => end_spec A l c W HG.out (hs.below hW) (HT.out.below hW)
        have hel : (File.ba (File.endOf l)).size ≤ 10 := by
          have := sum_bounds l
          have h2 := dec_len 5 (File.sum l).toNat (by omega)
          show (List.toArray (File.endOf l)).size ≤ 10
          simp [File.endOf]
          omega
        go_wp2_with (first
          | (go_at_call 112; refine (string_spec w1.heap.size w1.heap.size acc wr hI1 hbr.size).mono ?_; rintro e w3 ⟨rfl, hb3⟩; have hb03 := hb0r.trans (hb3.mono hb1.size))
          | (go_at_call 113; refine (HE.out _ hb03).mono ?_; rintro e w4 ⟨rfl, hb4⟩))
        go_ret2
        refine ⟨ret_eq ?_, hb03.next hb4 (Nat.le_refl _)⟩
        congr 1
        have : (⟨acc.toArray⟩ : ByteArray) ++ ⟨#[61]⟩ ++ File.ba (File.endOf l) = File.ba (File.text l) := by
          apply ByteArray.ext
          simp [File.ba, File.text, ← HR.out]
        exact congrArg (fun b => #[Value.string b, iv 0]) this
  · rw [if_neg h]
    have hne : (File.check l != 0) = true := by simpa using h
    clear h
    go_enter Tryz.func46, Tryz.ntmps46
    go_wp2_with (go_at_call 48; refine HC.out.mono ?_; rintro e w1 ⟨rfl, hb1⟩)
    go_ret2
    exact ⟨rfl, hb1⟩
end Fl
end Go.Proofs.YtekkhnjepcebkaaGreatDoor
