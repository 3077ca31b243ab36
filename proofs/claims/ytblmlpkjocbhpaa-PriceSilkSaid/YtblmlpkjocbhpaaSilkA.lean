/- Package silk, for a mill of one lot: its error. Conditions: weighings that are right. -/
import Derived.Test.YtblmlpkjocbhpaaSlicesR
import Derived.Test.YtblmlpkjocbhpaaStep
set_option linter.unusedVariables false
set_option linter.unusedSimpArgs false
namespace Go.Proofs.Ytblmlpkjocbhpaa
open Go.RowKit
set_option maxRecDepth 100000
structure Weigh where
  lot : Int
  reads : Int
  lo : Int
  hi : Int
structure SLot where
  fr : Int
  kind : Int
def weighE : Enc Weigh := ⟨fun p => [iv p.lot, iv p.reads, iv p.lo, iv p.hi], 4, fun _ => rfl, fun _ u h => by simp at h; rcases h with rfl | rfl | rfl | rfl <;> rfl, by decide⟩
def lotE : Enc SLot := ⟨fun p => [iv p.fr, iv p.kind], 2, fun _ => rfl, fun _ u h => by simp at h; rcases h with rfl | rfl <;> rfl, by decide⟩
abbrev Weigh.v (p : Weigh) : Value := .agg #[iv p.lot, iv p.reads, iv p.lo, iv p.hi]
abbrev SLot.v (p : SLot) : Value := .agg #[iv p.fr, iv p.kind]
theorem Sl.atW {w : World} {A : Option Addr} {xs : List Weigh} {k : Nat} (h : Sl weighE w A xs) (hk : k < xs.length) :
    ∃ b off x, A = some ⟨b, off, none⟩ ∧ b < w.heap.size ∧ xs[k]? = some x ∧ w.cell? ⟨b, off + k * 4, none⟩ = some (iv x.lot) ∧ w.cell? ⟨b, off + k * 4 + 1, none⟩ = some (iv x.reads) ∧
      w.cell? ⟨b, off + k * 4 + 2, none⟩ = some (iv x.lo) ∧ w.cell? ⟨b, off + k * 4 + 3, none⟩ = some (iv x.hi) := by
  obtain ⟨b, off, x, hA, hb, hx, hc⟩ := h.at_ hk
  exact ⟨b, off, x, hA, hb, hx, hc 0 _ rfl, hc 1 _ rfl, hc 2 _ rfl, hc 3 _ rfl⟩
theorem Sl.atL {w : World} {A : Option Addr} {xs : List SLot} {k : Nat} (h : Sl lotE w A xs) (hk : k < xs.length) :
    ∃ b off x, A = some ⟨b, off, none⟩ ∧ b < w.heap.size ∧ xs[k]? = some x ∧ w.cell? ⟨b, off + k * 2, none⟩ = some (iv x.fr) ∧ w.cell? ⟨b, off + k * 2 + 1, none⟩ = some (iv x.kind) := by
  obtain ⟨b, off, x, hA, hb, hx, hc⟩ := h.at_ hk
  exact ⟨b, off, x, hA, hb, hx, hc 0 _ rfl, hc 1 _ rfl⟩
theorem sin_spec (n lo hi : Int) (w : World) : Calls Try.prog 142 #[iv n, iv lo, iv hi] w
    fun e w' => e = .returned (.bool (Price.inB n lo hi)) ∧ w = w' := by
  by_cases h1 : lo ≤ n <;> by_cases h2 : n ≤ hi
  all_goals
    go_enter Try.func142, Try.ntmps142
    go_wp2
    go_ret
    exact ⟨by simp [Price.inB, *], rfl⟩
theorem sallowed_spec (n : Int) (w : World) : Calls Try.prog 120 #[iv n] w fun e w' => e = .returned (.bool (Price.inB n 0 3)) ∧ w = w' := by
  by_cases h1 : 0 ≤ n <;> by_cases h2 : n ≤ 3
  all_goals
    go_enter Try.func120, Try.ntmps120
    go_wp2
    go_ret
    exact ⟨by simp [Price.inB, *], rfl⟩
/-- A weighing that is right, of the first lot. -/
structure Weigh.Ok (x : Weigh) : Prop where
  lot : x.lot = 0
  reads : 0 ≤ x.reads ∧ x.reads ≤ 10000
  lo : 0 ≤ x.lo
  mid : x.lo ≤ x.hi
  hi : x.hi ≤ 60
set_option maxRecDepth 100000 in
theorem indexW (A : Option Addr) (l : List Weigh) (c : Nat) (K : Nat) (cap : Array Value) (p : Weigh → Bool) (w : World) (hm : l.length ≤ big) (hs : Sl weighE w A l)
    (hf : IsPred Try.prog w K cap Weigh.v l p) :
    Calls Try.prog 167 #[.slice A l.length c, .func (.func K) #[] cap] w
    fun e w' => e = .returned (iv (findFrom p l 0)) ∧ Below w.heap.size w w' := by
  unfold big at hm
  obtain ⟨hK, hf⟩ := hf
  have HF := Lib.hid hf
  clear hf
  go_enter Try.func167, Try.ntmps167
  go_wp2
  go_loopw [5, 8] (fun u i wr => ∃ (k : Nat), k ≤ l.length ∧ i = iv k ∧ Hid (findFrom p (l.drop k) k = findFrom p l 0) ∧ Below w.heap.size w wr) (fun _ i _ => l.length - (intOf i).toNat)
  case atStart => exact ⟨0, by omega, rfl, rfl, Below.refl _ _⟩
  case round =>
    obtain ⟨k, hk, rfl, hr, hbw⟩ := hrel
    have hs1 := hs.below hbw
    by_cases hlt : k < l.length
    · obtain ⟨b, off, x, rfl, hb, hx, hc0, hc1, hc2, hc3⟩ := hs1.atW hlt
      have hd := hr.out
      rw [drop_at hx] at hd
      simp only [findFrom] at hd
      have HD := Lib.hid hd
      clear hd
      cases hp : p x
      · go_wp2_with fail
        refine (HF.out x (mem_at hx) wr hbw).mono ?_
        rintro e w1 ⟨rfl, hb1⟩
        rw [hp]
        go_wp2_with fail
        go_roundw
        case rel => exact ⟨k + 1, by omega, by go_num, by have := HD.out; rw [hp] at this; exact this, hbw.next hb1 (Nat.le_refl _)⟩
        case measure => simp [intOf]; omega
      · go_wp2_with fail
        refine (HF.out x (mem_at hx) wr hbw).mono ?_
        rintro e w1 ⟨rfl, hb1⟩
        rw [hp]
        go_wp2_with fail
        go_ret
        exact ⟨ret_eq (by have := HD.out; rw [hp] at this; rw [← this]; rfl), hbw.next hb1 (Nat.le_refl _)⟩
    · have hd := hr.out
      rw [drop_end hlt] at hd
      have HD := Lib.hid hd
      clear hd
      go_wp2
      go_ret
      exact ⟨ret_eq (by rw [← HD.out]; rfl), hbw⟩
set_option maxRecDepth 100000 in
theorem indexL (A : Option Addr) (l : List SLot) (c : Nat) (K : Nat) (cap : Array Value) (p : SLot → Bool) (w : World) (hm : l.length ≤ big) (hs : Sl lotE w A l)
    (hf : IsPred Try.prog w K cap SLot.v l p) :
    Calls Try.prog 168 #[.slice A l.length c, .func (.func K) #[] cap] w
    fun e w' => e = .returned (iv (findFrom p l 0)) ∧ Below w.heap.size w w' := by
  unfold big at hm
  obtain ⟨hK, hf⟩ := hf
  have HF := Lib.hid hf
  clear hf
  go_enter Try.func168, Try.ntmps168
  go_wp2
  go_loopw [5, 8] (fun u i wr => ∃ (k : Nat), k ≤ l.length ∧ i = iv k ∧ Hid (findFrom p (l.drop k) k = findFrom p l 0) ∧ Below w.heap.size w wr) (fun _ i _ => l.length - (intOf i).toNat)
  case atStart => exact ⟨0, by omega, rfl, rfl, Below.refl _ _⟩
  case round =>
    obtain ⟨k, hk, rfl, hr, hbw⟩ := hrel
    have hs1 := hs.below hbw
    by_cases hlt : k < l.length
    · obtain ⟨b, off, x, rfl, hb, hx, hc0, hc1⟩ := hs1.atL hlt
      have hd := hr.out
      rw [drop_at hx] at hd
      simp only [findFrom] at hd
      have HD := Lib.hid hd
      clear hd
      cases hp : p x
      · go_wp2_with fail
        refine (HF.out x (mem_at hx) wr hbw).mono ?_
        rintro e w1 ⟨rfl, hb1⟩
        rw [hp]
        go_wp2_with fail
        go_roundw
        case rel => exact ⟨k + 1, by omega, by go_num, by have := HD.out; rw [hp] at this; exact this, hbw.next hb1 (Nat.le_refl _)⟩
        case measure => simp [intOf]; omega
      · go_wp2_with fail
        refine (HF.out x (mem_at hx) wr hbw).mono ?_
        rintro e w1 ⟨rfl, hb1⟩
        rw [hp]
        go_wp2_with fail
        go_ret
        exact ⟨ret_eq (by have := HD.out; rw [hp] at this; rw [← this]; rfl), hbw.next hb1 (Nat.le_refl _)⟩
    · have hd := hr.out
      rw [drop_end hlt] at hd
      have HD := Lib.hid hd
      clear hd
      go_wp2
      go_ret
      exact ⟨ret_eq (by rw [← HD.out]; rfl), hbw⟩
theorem containsW (A : Option Addr) (l : List Weigh) (c : Nat) (K : Nat) (cap : Array Value) (p : Weigh → Bool) (w : World) (hm : l.length ≤ big) (hs : Sl weighE w A l)
    (hf : IsPred Try.prog w K cap Weigh.v l p) :
    Calls Try.prog 159 #[.slice A l.length c, .func (.func K) #[] cap] w
    fun e w' => e = .returned (.bool (l.any p)) ∧ Below w.heap.size w w' := by
  have HF := Lib.hid hf
  clear hf
  go_enter Try.func159, Try.ntmps159
  go_wp2_with (go_at_call 167; refine (indexW A l c K cap p _ hm hs HF.out).mono ?_; rintro e w1 ⟨rfl, hb1⟩)
  go_ret
  exact ⟨ret_eq (by rw [← findFrom_nonneg p l 0 (by omega)]; rfl), hb1⟩
theorem containsL (A : Option Addr) (l : List SLot) (c : Nat) (K : Nat) (cap : Array Value) (p : SLot → Bool) (w : World) (hm : l.length ≤ big) (hs : Sl lotE w A l)
    (hf : IsPred Try.prog w K cap SLot.v l p) :
    Calls Try.prog 161 #[.slice A l.length c, .func (.func K) #[] cap] w
    fun e w' => e = .returned (.bool (l.any p)) ∧ Below w.heap.size w w' := by
  have HF := Lib.hid hf
  clear hf
  go_enter Try.func161, Try.ntmps161
  go_wp2_with (go_at_call 168; refine (indexL A l c K cap p _ hm hs HF.out).mono ?_; rintro e w1 ⟨rfl, hb1⟩)
  go_ret
  exact ⟨ret_eq (by rw [← findFrom_nonneg p l 0 (by omega)]; rfl), hb1⟩
set_option maxRecDepth 100000 in
theorem notW (K : Nat) (cap : Array Value) (p : Weigh → Bool) (w0 w : World) (x : Weigh) (l : List Weigh) (g : Nat) (hx : x ∈ l) (hg : g < w.heap.size) (hc : w.cell? ⟨g, 0, none⟩ = some (.func (.func K) #[] cap)) (hb : Below w0.heap.size w0 w) (hf : IsPred Try.prog w0 K cap Weigh.v l p) :
    Calls Try.prog 160 #[Weigh.v x, .pointer (some ⟨g, 0, none⟩)] w fun e w' => e = .returned (.bool (!p x)) ∧ Below w.heap.size w w' := by
  obtain ⟨hK, hf⟩ := hf
  have HF := Lib.hid (fun w' (h : Below w.heap.size w w') => hf x hx w' (hb.next h (Nat.le_refl _)))
  clear hf hx
  obtain ⟨a, b, c, d⟩ := x
  go_enter Try.func160, Try.ntmps160
  go_wp2_with fail
  refine (HF.out _ ((Below.refl _ _).alloc (Nat.le_refl _) _)).mono ?_
  rintro e w1 ⟨rfl, hb1⟩
  go_wp2_with fail
  go_ret
  exact ⟨rfl, hb1.of_alloc⟩
set_option maxRecDepth 100000 in
theorem everyW (A : Option Addr) (l : List Weigh) (c : Nat) (K : Nat) (cap : Array Value) (p : Weigh → Bool) (w : World) (hm : l.length ≤ big) (hs : Sl weighE w A l)
    (hf : IsPred Try.prog w K cap Weigh.v l p) :
    Calls Try.prog 143 #[.slice A l.length c, .func (.func K) #[] cap] w
    fun e w' => e = .returned (.bool (l.all p)) ∧ Below w.heap.size w w' := by
  have HF := Lib.hid hf
  clear hf
  have hsf := fun (a : Addr) (c : Array Value) (w : World) => run_store Try.prog w a (.func (.func K) #[] c) .plain rfl
  have hmf : ∀ (fn : Fn) (first cap : Array Value) (w : World), (Instr.makeFunc fn first cap).run Try.prog w = .ok (.func fn first cap) w := fun _ _ _ _ => rfl
  go_enter Try.func143, Try.ntmps143
  go_wp2_with (go_at_call 159; refine (containsW A l c 160 #[.pointer (some ⟨w.heap.size, 0, none⟩)] (fun x => !p x) _ hm (hs.alloc _) ⟨callFunc_run (by kernel_rfl), fun x hx w' hw' => notW K cap p w w' x l w.heap.size hx (by have := hw'.size; simp at this; omega) ((hw'.cell (by simp)).trans (by simp [go_sem])) hw'.of_alloc HF.out⟩).mono ?_; rintro e w1 ⟨rfl, hb1⟩)
  go_ret
  exact ⟨ret_eq (by rw [List.not_any_eq_all_not]; simp), hb1.of_alloc⟩
set_option maxRecDepth 100000 in
theorem notL (K : Nat) (cap : Array Value) (p : SLot → Bool) (w0 w : World) (x : SLot) (l : List SLot) (g : Nat) (hx : x ∈ l) (hg : g < w.heap.size) (hc : w.cell? ⟨g, 0, none⟩ = some (.func (.func K) #[] cap)) (hb : Below w0.heap.size w0 w) (hf : IsPred Try.prog w0 K cap SLot.v l p) :
    Calls Try.prog 162 #[SLot.v x, .pointer (some ⟨g, 0, none⟩)] w fun e w' => e = .returned (.bool (!p x)) ∧ Below w.heap.size w w' := by
  obtain ⟨hK, hf⟩ := hf
  have HF := Lib.hid (fun w' (h : Below w.heap.size w w') => hf x hx w' (hb.next h (Nat.le_refl _)))
  clear hf hx
  obtain ⟨a, b⟩ := x
  go_enter Try.func162, Try.ntmps162
  go_wp2_with fail
  refine (HF.out _ ((Below.refl _ _).alloc (Nat.le_refl _) _)).mono ?_
  rintro e w1 ⟨rfl, hb1⟩
  go_wp2_with fail
  go_ret
  exact ⟨rfl, hb1.of_alloc⟩
set_option maxRecDepth 100000 in
theorem everyL (A : Option Addr) (l : List SLot) (c : Nat) (K : Nat) (cap : Array Value) (p : SLot → Bool) (w : World) (hm : l.length ≤ big) (hs : Sl lotE w A l)
    (hf : IsPred Try.prog w K cap SLot.v l p) :
    Calls Try.prog 145 #[.slice A l.length c, .func (.func K) #[] cap] w
    fun e w' => e = .returned (.bool (l.all p)) ∧ Below w.heap.size w w' := by
  have HF := Lib.hid hf
  clear hf
  have hsf := fun (a : Addr) (c : Array Value) (w : World) => run_store Try.prog w a (.func (.func K) #[] c) .plain rfl
  have hmf : ∀ (fn : Fn) (first cap : Array Value) (w : World), (Instr.makeFunc fn first cap).run Try.prog w = .ok (.func fn first cap) w := fun _ _ _ _ => rfl
  go_enter Try.func145, Try.ntmps145
  go_wp2_with (go_at_call 161; refine (containsL A l c 162 #[.pointer (some ⟨w.heap.size, 0, none⟩)] (fun x => !p x) _ hm (hs.alloc _) ⟨callFunc_run (by kernel_rfl), fun x hx w' hw' => notL K cap p w w' x l w.heap.size hx (by have := hw'.size; simp at this; omega) ((hw'.cell (by simp)).trans (by simp [go_sem])) hw'.of_alloc HF.out⟩).mono ?_; rintro e w1 ⟨rfl, hb1⟩)
  go_ret
  exact ⟨ret_eq (by rw [List.not_any_eq_all_not]; simp), hb1.of_alloc⟩
end Go.Proofs.Ytblmlpkjocbhpaa
