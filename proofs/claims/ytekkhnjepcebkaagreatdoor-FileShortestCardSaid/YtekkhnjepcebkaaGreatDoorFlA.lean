/- Package file: lines, their errors and their sum. Conditions: lengths are below a great bound. -/
import Derived.Test.YtekkhnjepcebkaaGreatDoorProg
import Derived.Test.YtekkhnjepcebkaaGreatDoorPred
import Derived.Test.YtekkhnjepcebkaaGreatDoorMem2
import Derived.Outline
import Derived.BigQuiet
import Derived.Deep.QuietTactic
import Derived.Lib.OthersKept
import Derived.Laws.EntriesVeiled
set_option linter.unusedVariables false
set_option linter.unusedSimpArgs false
namespace Go.Proofs.YtekkhnjepcebkaaGreatDoor
namespace File
/-- The bytes that a line may have. -/
def okB (b : UInt8) : Bool := decide (32 ≤ b.toNat) && decide (b.toNat ≤ 126)
abbrev bts (s : ByteArray) : List UInt8 := s.data.toList
def okLine (s : ByteArray) : Bool := (bts s).all okB
def wide (s : ByteArray) : Bool := decide ((s.size : Int) ≤ 40)
def lined (l : List ByteArray) : Int := if l.all wide then (if l.all okLine then 0 else 11) else 10
def check (f : List ByteArray) : Int := if 24 < f.length then 2 else lined f
/-- What a line adds to the sum. -/
def lineSum (i : Nat) : List UInt8 → Int
  | [] => 0
  | b :: l => ((i : Int) + 1) * (b.toNat : Int) + lineSum i l
def sumFrom : Nat → List ByteArray → Int
  | _, [] => 0
  | i, s :: f => lineSum i (bts s) + sumFrom (i + 1) f
def sum (f : List ByteArray) : Int := sumFrom 0 f % 9973
end File
namespace Fl
open Go.RowKit
set_option maxRecDepth 100000
abbrev sv (s : ByteArray) : Value := .string s
def strE : Enc ByteArray := ⟨fun s => [.string s], 1, fun _ => rfl, fun _ u h => by simp at h; subst h; rfl, by decide⟩
theorem tyInts : SlTy Tryz.prog 33 3 1 := slTy_of (z := iv 0) (bytes := 8) Tryz.underlying33 (by kernel_rfl) rfl (by decide)
theorem tyStrs : SlTy Tryz.prog 22 9 1 := slTy_of (z := .string ⟨#[]⟩) (bytes := 16) Tryz.underlying22 (by kernel_rfl) rfl (by decide)
theorem Sl.atS {w : World} {A : Option Addr} {xs : List ByteArray} {k : Nat} (h : Sl strE w A xs) (hk : k < xs.length) :
    ∃ b off x, A = some ⟨b, off, none⟩ ∧ b < w.heap.size ∧ xs[k]? = some x ∧ w.cell? ⟨b, off + k, none⟩ = some (.string x) := by
  obtain ⟨b, off, x, hA, hb, hx, hc⟩ := h.at_ hk
  exact ⟨b, off, x, hA, hb, hx, by simpa [strE] using hc 0 (.string x) rfl⟩
set_option maxRecDepth 100000 in
theorem indexS (A : Option Addr) (l : List ByteArray) (c : Nat) (K : Nat) (cap : Array Value) (p : ByteArray → Bool) (w : World) (hm : l.length ≤ big) (hs : Sl strE w A l)
    (hf : IsPred Tryz.prog w K cap sv l p) :
    Calls Tryz.prog 144 #[.slice A l.length c, .func (.func K) #[] cap] w
    fun e w' => e = .returned (iv (findFrom p l 0)) ∧ Below w.heap.size w w' := by
  unfold big at hm
  obtain ⟨hK, hf⟩ := hf
  have HF := Lib.hid hf
  clear hf
  go_enter Tryz.func144, Tryz.ntmps144
  go_wp2
  go_loopw [5, 8] (fun u i wr => ∃ (k : Nat), k ≤ l.length ∧ i = iv k ∧ Hid (findFrom p (l.drop k) k = findFrom p l 0) ∧ Below w.heap.size w wr) (fun _ i _ => l.length - (intOf i).toNat)
  case atStart => exact ⟨0, by omega, rfl, rfl, Below.refl _ _⟩
  case round =>
    obtain ⟨k, hk, rfl, hr, hbw⟩ := hrel
    have hs1 := hs.below hbw
    by_cases hlt : k < l.length
    · obtain ⟨b, off, x, rfl, hb, hx, hc0⟩ := Sl.atS hs1 hlt
      have hd := hr.out
      rw [drop_at hx] at hd
      simp only [findFrom] at hd
      have HD := Lib.hid hd
      clear hd
      cases hp : p x
      · go_wp2_with fail
        refine (HF.out x (mem_at hx) wr hbw).mono ?_
        rintro e w1 ⟨rfl, hb1⟩
        rw [hp]
        go_wp2_with fail
        go_roundw
        case rel => exact ⟨k + 1, by omega, by go_num, by have := HD.out; rw [hp] at this; exact this, hbw.next hb1 (Nat.le_refl _)⟩
        case measure => simp [intOf]; omega
      · go_wp2_with fail
        refine (HF.out x (mem_at hx) wr hbw).mono ?_
        rintro e w1 ⟨rfl, hb1⟩
        rw [hp]
        go_wp2_with fail
        go_ret
        exact ⟨ret_eq (by have := HD.out; rw [hp] at this; rw [← this]; rfl), hbw.next hb1 (Nat.le_refl _)⟩
    · have hd := hr.out
      rw [drop_end hlt] at hd
      have HD := Lib.hid hd
      clear hd
      go_wp2
      go_ret
      exact ⟨ret_eq (by rw [← HD.out]; rfl), hbw⟩
theorem containsS (A : Option Addr) (l : List ByteArray) (c : Nat) (K : Nat) (cap : Array Value) (p : ByteArray → Bool) (w : World) (hm : l.length ≤ big) (hs : Sl strE w A l)
    (hf : IsPred Tryz.prog w K cap sv l p) :
    Calls Tryz.prog 73 #[.slice A l.length c, .func (.func K) #[] cap] w
    fun e w' => e = .returned (.bool (l.any p)) ∧ Below w.heap.size w w' := by
  have HF := Lib.hid hf
  clear hf
  go_enter Tryz.func73, Tryz.ntmps73
  go_wp2_with (go_at_call 144; refine (indexS A l c K cap p _ hm hs HF.out).mono ?_; rintro e w1 ⟨rfl, hb1⟩)
  go_ret
  exact ⟨ret_eq (by rw [← findFrom_nonneg p l 0 (by omega)]; rfl), hb1⟩
set_option maxRecDepth 100000 in
theorem notS (K : Nat) (cap : Array Value) (p : ByteArray → Bool) (w0 w : World) (x : ByteArray) (l : List ByteArray) (g : Nat) (hx : x ∈ l) (hg : g < w.heap.size) (hc : w.cell? ⟨g, 0, none⟩ = some (.func (.func K) #[] cap)) (hb : Below w0.heap.size w0 w) (hf : IsPred Tryz.prog w0 K cap sv l p) :
    Calls Tryz.prog 183 #[sv x, .pointer (some ⟨g, 0, none⟩)] w fun e w' => e = .returned (.bool (!p x)) ∧ Below w.heap.size w w' := by
  obtain ⟨hK, hf⟩ := hf
  have HF := Lib.hid (fun w' (h : Below w.heap.size w w') => hf x hx w' (hb.next h (Nat.le_refl _)))
  clear hf hx
  skip
  go_enter Tryz.func183, Tryz.ntmps183
  go_wp2_with fail
  refine (HF.out _ (Below.refl _ _)).mono ?_
  rintro e w1 ⟨rfl, hb1⟩
  go_wp2_with fail
  go_ret
  exact ⟨rfl, hb1⟩
set_option maxRecDepth 100000 in
theorem everyS (A : Option Addr) (l : List ByteArray) (c : Nat) (K : Nat) (cap : Array Value) (p : ByteArray → Bool) (w : World) (hm : l.length ≤ big) (hs : Sl strE w A l)
    (hf : IsPred Tryz.prog w K cap sv l p) :
    Calls Tryz.prog 152 #[.slice A l.length c, .func (.func K) #[] cap] w
    fun e w' => e = .returned (.bool (l.all p)) ∧ Below w.heap.size w w' := by
  have HF := Lib.hid hf
  clear hf
  have hsf := fun (a : Addr) (c : Array Value) (w : World) => run_store Tryz.prog w a (.func (.func K) #[] c) .plain rfl
  have hmf : ∀ (fn : Fn) (first cap : Array Value) (w : World), (Instr.makeFunc fn first cap).run Tryz.prog w = .ok (.func fn first cap) w := fun _ _ _ _ => rfl
  go_enter Tryz.func152, Tryz.ntmps152
  go_wp2_with (go_at_call 73; refine (containsS A l c 183 #[.pointer (some ⟨w.heap.size, 0, none⟩)] (fun x => !p x) _ hm (hs.alloc _) ⟨callFunc_run (by kernel_rfl), fun x hx w' hw' => notS K cap p w w' x l w.heap.size hx (by have := hw'.size; simp at this; omega) ((hw'.cell (by simp)).trans (by simp [go_sem])) hw'.of_alloc HF.out⟩).mono ?_; rintro e w1 ⟨rfl, hb1⟩)
  go_ret
  exact ⟨ret_eq (by rw [List.not_any_eq_all_not]; simp), hb1.of_alloc⟩
theorem lined1_spec (s : ByteArray) (w : World) : Calls Tryz.prog 153 #[.string s] w fun e w' => e = .returned (.bool (File.wide s)) ∧ w = w' := by
  go_enter Tryz.func153, Tryz.ntmps153
  go_wp2
  go_ret
  exact ⟨rfl, rfl⟩
theorem widePred (w : World) (l : List ByteArray) : IsPred Tryz.prog w 153 #[] sv l File.wide :=
  ⟨callFunc_run (by kernel_rfl), fun x _ w' _ => (lined1_spec x w').mono fun _ _ h => ⟨h.1, by rw [← h.2]; exact Below.refl _ _⟩⟩
theorem okB_iff (b : UInt8) : File.okB b = true ↔ 32 ≤ b.toNat ∧ b.toNat ≤ 126 := by simp [File.okB]
theorem bts_get {s : ByteArray} {k : Nat} (h : k < s.size) : (File.bts s)[k]? = some (s[k]'h) := by
  have : k < s.data.toList.length := by simpa using h
  rw [List.getElem?_eq_getElem this]
  simp
  rfl
theorem bts_drop {s : ByteArray} {k : Nat} (h : k < s.size) : (File.bts s).drop k = s[k]'h :: (File.bts s).drop (k + 1) := drop_at (bts_get h)
theorem bts_end {s : ByteArray} {k : Nat} (h : ¬ k < s.size) : (File.bts s).drop k = [] := List.drop_eq_nil_of_le (by simpa using Nat.le_of_not_lt h)
set_option maxHeartbeats 2000000 in
theorem lined_spec (A : Option Addr) (l : List ByteArray) (c : Nat) (w : World) (hm : l.length ≤ big) (hs : Sl strE w A l) :
    Calls Tryz.prog 97 #[.slice A l.length c] w fun e w' => e = .returned (iv (File.lined l)) ∧ Below w.heap.size w w' := by
  unfold big at hm
  have HE := Lib.hid (everyS A l c _ #[] _ w (by unfold big; omega) hs (widePred w l))
  cases hw : l.all File.wide
  · rw [hw] at HE
    go_enter Tryz.func97, Tryz.ntmps97
    go_wp2_with (go_at_call 152; refine HE.out.mono ?_; rintro e w1 ⟨rfl, hb1⟩)
    go_ret
    exact ⟨ret_eq (by simp [File.lined, hw]), hb1⟩
  · rw [hw] at HE
    have HL : Hid (File.lined l = if l.all File.okLine then 0 else 11) := Lib.hid (by unfold File.lined; rw [hw]; rfl)
    clear hw
    go_enter Tryz.func97, Tryz.ntmps97
    go_wp2_with (go_at_call 152; refine HE.out.mono ?_; rintro e w1 ⟨rfl, hb1⟩)
    clear HE
    go_loopw [12] (fun i wr => ∃ k : Nat, k ≤ l.length ∧ i = iv k ∧ Hid ((l.drop k).all File.okLine = l.all File.okLine) ∧ Below w.heap.size w wr) (fun i _ => l.length - (intOf i).toNat)
    case atStart => exact ⟨0, by omega, rfl, rfl, hb1⟩
    case round =>
      obtain ⟨k, hk, rfl, hr, hbr⟩ := hrel
      by_cases hlt : k < l.length
      · have hki : (k : Int) < (l.length : Int) := by omega
        obtain ⟨b, off, x, rfl, hb, hx, hc0⟩ := Sl.atS (hs.below hbr) hlt
        have hr' := hr.out
        rw [drop_at hx, List.all_cons] at hr'
        have HR := Lib.hid hr'
        clear hx hr hr'
        obtain ⟨wo, rfl⟩ : ∃ wo : World, wo = wr := ⟨_, rfl⟩
        go_wp2_with fail
        go_loopw [6] (fun _ wx => ∃ pos : Nat, pos ≤ x.size ∧ wx.heap[wo.heap.size]? = some (.stringIter x pos) ∧ Below wo.heap.size wo wx ∧ Hid (((File.bts x).drop pos).all File.okB = File.okLine x)) (fun _ wx => x.size - wx.iterPos wo.heap.size)
        case atStart => exact ⟨0, Nat.zero_le _, World.iter_heap _ _ _, (Below.refl _ _).alloc (Nat.le_refl _) _, rfl⟩
        case round =>
          obtain ⟨pos, hpl, hit, hbx, hq⟩ := hrel
          by_cases hp : pos < x.size
          · have hq' := hq.out
            rw [bts_drop hp, List.all_cons] at hq'
            have HQ := Lib.hid hq'
            clear hq hq'
            by_cases ha : (x[pos]'hp).toNat < 128
            · have hnx : ∀ ty, (Instr.next (.pointer (some ⟨wo.heap.size, 0, none⟩)) true ty).run Tryz.prog wr = _ := fun ty => Lib.run_next_ascii_at wr wo.heap.size x pos ty hit hp ha
              have hit2 := Lib.iterAt_heap wr wo.heap.size x pos (pos + 1) hit
              have hbx2 := Lib.below_iterAt hbx (k := wo.heap.size) (Nat.le_refl _) x (pos + 1)
              generalize hv : (x[pos]'hp).toNat = v at *
              generalize wr.iterAt wo.heap.size x (pos + 1) = w2 at *
              by_cases h32 : v < 32
              · have hno : File.okB (x[pos]'hp) = false := by simp [File.okB, hv]; omega
                have h32i : (v : Int) < 32 := by omega
                rw [hno] at HQ
                clear hv hno
                go_wp2_with fail
                go_ret
                have h1 := HQ.out
                have h2 := HR.out
                rw [← h1] at h2
                exact ⟨ret_eq (by rw [HL.out, ← h2]; rfl), hbr.next hbx2 (Nat.le_refl _)⟩
              · by_cases h126 : 126 < v
                · have hno : File.okB (x[pos]'hp) = false := by simp [File.okB, hv]; omega
                  have h32i : ¬ (v : Int) < 32 := by omega
                  have h126i : (126 : Int) < (v : Int) := by omega
                  rw [hno] at HQ
                  clear hv hno
                  go_wp2_with fail
                  go_ret
                  have h1 := HQ.out
                  have h2 := HR.out
                  rw [← h1] at h2
                  exact ⟨ret_eq (by rw [HL.out, ← h2]; rfl), hbr.next hbx2 (Nat.le_refl _)⟩
                · have hyes : File.okB (x[pos]'hp) = true := by simp [File.okB, hv]; omega
                  have h32i : ¬ (v : Int) < 32 := by omega
                  have h126i : ¬ (126 : Int) < (v : Int) := by omega
                  rw [hyes, Bool.true_and] at HQ
                  clear hv hyes
                  go_wp2_with fail
                  go_roundw
                  case rel => exact ⟨pos + 1, hp, hit2, hbx2, HQ⟩
                  case measure =>
                    simp only [World.iterPos, hit, hit2]
                    omega
            · have hnx : ∀ ty, (Instr.next (.pointer (some ⟨wo.heap.size, 0, none⟩)) true ty).run Tryz.prog wr = _ := fun ty => Lib.run_next_any_at wr wo.heap.size x pos ty hit hp
              have hdh := (decode_high x pos hp (by omega)).1
              have hdl := decode_le x pos
              have hbx2 := Lib.below_iterAt hbx (k := wo.heap.size) (Nat.le_refl _) x (pos + (Utf8.decode x pos).2)
              have hno : File.okB (x[pos]'hp) = false := by simp [File.okB]; omega
              rw [hno] at HQ
              generalize wr.iterAt wo.heap.size x (pos + (Utf8.decode x pos).2) = w2 at *
              generalize (Utf8.decode x pos).1 = v at *
              have h32i : ¬ (v : Int) < 32 := by omega
              have h126i : (126 : Int) < (v : Int) := by omega
              clear hno
              go_wp2_with fail
              go_ret
              have h1 := HQ.out
              have h2 := HR.out
              rw [← h1] at h2
              exact ⟨ret_eq (by rw [HL.out, ← h2]; rfl), hbr.next hbx2 (Nat.le_refl _)⟩
          · have hnx : ∀ ty, (Instr.next (.pointer (some ⟨wo.heap.size, 0, none⟩)) true ty).run Tryz.prog wr = _ := fun ty => Lib.run_next_end_at wr wo.heap.size x pos ty hit hp
            have hq' := hq.out
            rw [bts_end hp] at hq'
            have HQ : Hid (File.okLine x = true) := Lib.hid hq'.symm
            clear hq hq'
            go_wp2_with fail
            go_roundw
            case rel => exact ⟨k + 1, by omega, by go_num, Lib.hid (by have := HR.out; rw [HQ.out, Bool.true_and] at this; exact this), hbr.next hbx (Nat.le_refl _)⟩
            case measure => simp [intOf]; omega
      · have hki : ¬ (k : Int) < (l.length : Int) := by omega
        go_wp2_with fail
        go_ret
        have hr' := hr.out
        rw [drop_end hlt] at hr'
        exact ⟨ret_eq (by rw [HL.out, ← hr']; rfl), hbr⟩
theorem check_spec (A : Option Addr) (l : List ByteArray) (c : Nat) (w : World) (hm : l.length ≤ big) (hs : Sl strE w A l) :
    Calls Tryz.prog 48 #[.slice A l.length c] w fun e w' => e = .returned (iv (File.check l)) ∧ Below w.heap.size w w' := by
  have HL := Lib.hid (lined_spec A l c w hm hs)
  by_cases h : 24 < l.length
  · have hi : (24 : Int) < (l.length : Int) := by omega
    go_enter Tryz.func48, Tryz.ntmps48
    go_wp2_with fail
    go_ret
    exact ⟨ret_eq (by unfold File.check; rw [if_pos h]; rfl), Below.refl _ _⟩
  · have hi : ¬ (24 : Int) < (l.length : Int) := by omega
    go_enter Tryz.func48, Tryz.ntmps48
    go_wp2_with (go_at_call 97; refine HL.out.mono ?_; rintro e w1 ⟨rfl, hb1⟩)
    go_ret
    exact ⟨ret_eq (by unfold File.check; rw [if_neg h]; rfl), hb1⟩
/-- Lines that are right. -/
structure Good (l : List ByteArray) : Prop where
  many : l.length ≤ 24
  wide : ∀ s ∈ l, s.size ≤ 40
  ok : ∀ s ∈ l, File.okLine s = true
theorem good_of_check {l : List ByteArray} (h : File.check l = 0) : Good l := by
  unfold File.check File.lined at h
  split at h
  · cases h
  · split at h
    · split at h
      · rename_i h1 h2 h3
        refine ⟨by omega, fun s hs => ?_, fun s hs => List.all_eq_true.1 h3 s hs⟩
        have := List.all_eq_true.1 h2 s hs
        simp only [File.wide, decide_eq_true_eq] at this
        omega
      · cases h
    · cases h
theorem check_of_good {l : List ByteArray} (h : Good l) : File.check l = 0 := by
  unfold File.check File.lined
  have h1 : ¬ 24 < l.length := by have := h.many; omega
  rw [if_neg h1, if_pos (List.all_eq_true.2 fun s hs => by have := h.wide s hs; simp only [File.wide, decide_eq_true_eq]; omega), if_pos (List.all_eq_true.2 fun s hs => h.ok s hs)]
set_option maxHeartbeats 2000000 in
theorem sum_spec (A : Option Addr) (l : List ByteArray) (c : Nat) (w : World) (hg : Good l) (hs : Sl strE w A l) :
    Calls Tryz.prog 166 #[.slice A l.length c] w fun e w' => e = .returned (iv (File.sum l)) ∧ Below w.heap.size w w' := by
  have hm := hg.many
  have HG := Lib.hid hg
  clear hg
  go_enter Tryz.func166, Tryz.ntmps166
  go_wp2_with fail
  go_loopw [3, 4, 10] (fun n _ i wr => ∃ (k : Nat) (m : Int), k ≤ l.length ∧ i = iv k ∧ n = iv m ∧ Hid (m + File.sumFrom k (l.drop k) = File.sumFrom 0 l) ∧ 0 ≤ m ∧ m ≤ k * 120960 ∧ Below w.heap.size w wr) (fun _ _ i _ => l.length - (intOf i).toNat)
  case atStart => exact ⟨0, 0, by omega, rfl, rfl, Lib.hid (by simp), by omega, by omega, Below.refl _ _⟩
  case round =>
    obtain ⟨k, m, hk, rfl, rfl, hr, hm0, hm1, hbr⟩ := hrel
    by_cases hlt : k < l.length
    · have hki : (k : Int) < (l.length : Int) := by omega
      obtain ⟨b, off, x, rfl, hb, hx, hc0⟩ := Sl.atS (hs.below hbr) hlt
      have hxw := HG.out.wide x (mem_at hx)
      have HXO := Lib.hid (HG.out.ok x (mem_at hx))
      have hr' := hr.out
      rw [drop_at hx] at hr'
      simp only [File.sumFrom] at hr'
      have HR := Lib.hid hr'
      clear hx hr hr'
      obtain ⟨wo, rfl⟩ : ∃ wo : World, wo = wr := ⟨_, rfl⟩
      go_wp2_with fail
      go_loopw [3, 7] (fun n _ wx => ∃ (pos : Nat) (q : Int), pos ≤ x.size ∧ n = iv q ∧ wx.heap[wo.heap.size]? = some (.stringIter x pos) ∧ Below wo.heap.size wo wx ∧ Hid (q + File.lineSum k ((File.bts x).drop pos) = m + File.lineSum k (File.bts x)) ∧ 0 ≤ q ∧ q ≤ k * 120960 + pos * 3024) (fun _ _ wx => x.size - wx.iterPos wo.heap.size)
      case atStart => exact ⟨0, m, Nat.zero_le _, rfl, World.iter_heap _ _ _, (Below.refl _ _).alloc (Nat.le_refl _) _, rfl, hm0, by omega⟩
      case round =>
        obtain ⟨pos, q, hpl, rfl, hit, hbx, hq, hq0, hq1⟩ := hrel
        by_cases hp : pos < x.size
        · have hq' := hq.out
          rw [bts_drop hp] at hq'
          simp only [File.lineSum] at hq'
          have hokb : File.okB (x[pos]'hp) = true := List.all_eq_true.1 HXO.out _ (mem_at (bts_get hp))
          rw [okB_iff] at hokb
          have ha : (x[pos]'hp).toNat < 128 := by omega
          have hnx : ∀ ty, (Instr.next (.pointer (some ⟨wo.heap.size, 0, none⟩)) true ty).run Tryz.prog wr = _ := fun ty => Lib.run_next_ascii_at wr wo.heap.size x pos ty hit hp ha
          have hit2 := Lib.iterAt_heap wr wo.heap.size x pos (pos + 1) hit
          have hbx2 := Lib.below_iterAt hbx (k := wo.heap.size) (Nat.le_refl _) x (pos + 1)
          generalize hv : (x[pos]'hp).toNat = v at *
          generalize wr.iterAt wo.heap.size x (pos + 1) = w2 at *
          have HQ := Lib.hid hq'
          have hv0 : (0 : Int) ≤ (v : Int) := by omega
          have hv1 : (v : Int) ≤ 126 := by omega
          have hp0 : 0 ≤ ((k : Int) + 1) * (v : Int) := Int.mul_nonneg (by omega) hv0
          have hp1 : ((k : Int) + 1) * (v : Int) ≤ 24 * 126 := Int.mul_le_mul (by omega) hv1 hv0 (by omega)
          have e1 : IntKind.i64.wrap (((k : Int) + 1) * (v : Int)) = ((k : Int) + 1) * (v : Int) := IntWalk.i64_in _ (by omega)
          have e2 : IntKind.i64.wrap (q + ((k : Int) + 1) * (v : Int)) = q + ((k : Int) + 1) * (v : Int) := IntWalk.i64_in _ (by omega)
          clear hv hq hq' hokb
          go_wp2_with fail
          go_roundw
          case rel => exact ⟨pos + 1, q + ((k : Int) + 1) * (v : Int), hp, by go_num, hit2, hbx2, Lib.hid (by have := HQ.out; omega), by omega, by omega⟩
          case measure =>
            simp only [World.iterPos, hit, hit2]
            omega
        · have hnx : ∀ ty, (Instr.next (.pointer (some ⟨wo.heap.size, 0, none⟩)) true ty).run Tryz.prog wr = _ := fun ty => Lib.run_next_end_at wr wo.heap.size x pos ty hit hp
          have hq' := hq.out
          rw [bts_end hp] at hq'
          simp only [File.lineSum, Int.add_zero] at hq'
          have HQ := Lib.hid hq'
          clear hq hq'
          go_wp2_with fail
          go_roundw
          case rel => exact ⟨k + 1, q, by omega, by go_num, rfl, Lib.hid (by have := HR.out; have := HQ.out; omega), hq0, by omega, hbr.next hbx (Nat.le_refl _)⟩
          case measure => simp [intOf]; omega
    · have hki : ¬ (k : Int) < (l.length : Int) := by omega
      have hr' := hr.out
      rw [drop_end hlt] at hr'
      simp only [File.sumFrom, Int.add_zero] at hr'
      have HR := Lib.hid hr'
      clear hr hr'
      go_wp2_with fail
      go_ret
      exact ⟨ret_eq (by unfold File.sum; rw [← HR.out]; first | rfl | simp), hbr⟩
theorem Sum_spec (A : Option Addr) (l : List ByteArray) (c : Nat) (w : World) (hm : l.length ≤ big) (hs : Sl strE w A l) :
    Calls Tryz.prog 132 #[.slice A l.length c] w fun e w' => e = .returned (.tuple #[iv (if File.check l = 0 then File.sum l else 0), iv (File.check l)]) ∧ Below w.heap.size w w' := by
  have HC := Lib.hid (check_spec A l c w hm hs)
  by_cases h : File.check l = 0
  · have hg := Lib.hid (good_of_check h)
    rw [if_pos h]
    rw [h] at HC ⊢
    clear h
    go_enter Tryz.func132, Tryz.ntmps132
    go_wp2_with (first
      | (go_at_call 48; refine HC.out.mono ?_; rintro e w1 ⟨rfl, hb1⟩)
      | (go_at_call 166; refine (sum_spec A l c _ hg.out (hs.below hb1)).mono ?_; rintro e w2 ⟨rfl, hb2⟩))
    go_ret2
    exact ⟨rfl, hb1.next hb2 (Nat.le_refl _)⟩
  · rw [if_neg h]
    have hne : (File.check l != 0) = true := by simpa using h
    clear h
    go_enter Tryz.func132, Tryz.ntmps132
    go_wp2_with (go_at_call 48; refine HC.out.mono ?_; rintro e w1 ⟨rfl, hb1⟩)
    go_ret2
    exact ⟨rfl, hb1⟩
end Fl
end Go.Proofs.YtekkhnjepcebkaaGreatDoor
