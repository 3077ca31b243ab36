/- slices.IndexFunc, ContainsFunc and price.every, at rules and at ints: by what the function handed over answers. Condition: lengths are below a great bound. -/
import Derived.Test.YtkailkfiakagfaaGreatPriceD
import Derived.Test.YtkailkfiakagfaaGreatPred
set_option linter.unusedVariables false
set_option linter.unusedSimpArgs false
namespace Go.Proofs.YtkailkfiakagfaaGreat
open Go.RowKit

set_option maxRecDepth 100000 in
theorem indexR (A : Option Addr) (l : List Rule) (c : Nat) (K : Nat) (cap : Array Value) (p : Rule → Bool) (w : World) (hm : l.length ≤ big) (hs : Sl ruleE w A l)
    (hf : IsPred Tryz.prog w K cap Rule.v l p) :
    Calls Tryz.prog 102 #[.slice A l.length c, .func (.func K) #[] cap] w
    fun e w' => e = .returned (iv (findFrom p l 0)) ∧ Below w.heap.size w w' := by
  unfold big at hm
  obtain ⟨hK, hf⟩ := hf
  have HF := Lib.hid hf
  clear hf
  go_enter Tryz.func102, Tryz.ntmps102
  go_wp2
  go_loopw [5, 8] (fun u i wr => ∃ (k : Nat), k ≤ l.length ∧ i = iv k ∧ Hid (findFrom p (l.drop k) k = findFrom p l 0) ∧ Below w.heap.size w wr) (fun _ i _ => l.length - (intOf i).toNat)
  case atStart => exact ⟨0, by omega, rfl, rfl, Below.refl _ _⟩
  case round =>
    obtain ⟨k, hk, rfl, hr, hbw⟩ := hrel
    have hs1 := hs.below hbw
    by_cases hlt : k < l.length
    · obtain ⟨b, off, x, rfl, hb, hx, hc0, hc1, hc2, hc3⟩ := hs1.atR hlt
      have hd := hr.out
      rw [drop_at hx] at hd
      simp only [findFrom] at hd
      have HD := Lib.hid hd
      clear hd
      cases hp : p x
      · go_wp2_with fail
        refine (HF.out x (mem_at hx) wr hbw).mono ?_
        rintro e w1 ⟨rfl, hb1⟩
        rw [hp]
        go_wp2_with fail
        go_roundw
        case rel => exact ⟨k + 1, by omega, by go_num, by have := HD.out; rw [hp] at this; exact this, hbw.next hb1 (Nat.le_refl _)⟩
        case measure => simp [intOf]; omega
      · go_wp2_with fail
        refine (HF.out x (mem_at hx) wr hbw).mono ?_
        rintro e w1 ⟨rfl, hb1⟩
        rw [hp]
        go_wp2_with fail
        go_ret
        exact ⟨ret_eq (by have := HD.out; rw [hp] at this; rw [← this]; rfl), hbw.next hb1 (Nat.le_refl _)⟩
    · have hd := hr.out
      rw [drop_end hlt] at hd
      have HD := Lib.hid hd
      clear hd
      go_wp2
      go_ret
      exact ⟨ret_eq (by rw [← HD.out]; rfl), hbw⟩
set_option maxRecDepth 100000 in
theorem indexI (A : Option Addr) (l : List Int) (c : Nat) (K : Nat) (cap : Array Value) (p : Int → Bool) (w : World) (hm : l.length ≤ big) (hs : Sl intE w A l)
    (hf : IsPred Tryz.prog w K cap iv l p) :
    Calls Tryz.prog 85 #[.slice A l.length c, .func (.func K) #[] cap] w
    fun e w' => e = .returned (iv (findFrom p l 0)) ∧ Below w.heap.size w w' := by
  unfold big at hm
  obtain ⟨hK, hf⟩ := hf
  have HF := Lib.hid hf
  clear hf
  go_enter Tryz.func85, Tryz.ntmps85
  go_wp2
  go_loopw [5, 8] (fun u i wr => ∃ (k : Nat), k ≤ l.length ∧ i = iv k ∧ Hid (findFrom p (l.drop k) k = findFrom p l 0) ∧ Below w.heap.size w wr) (fun _ i _ => l.length - (intOf i).toNat)
  case atStart => exact ⟨0, by omega, rfl, rfl, Below.refl _ _⟩
  case round =>
    obtain ⟨k, hk, rfl, hr, hbw⟩ := hrel
    have hs1 := hs.below hbw
    by_cases hlt : k < l.length
    · obtain ⟨b, off, x, rfl, hb, hx, hc0⟩ := hs1.atI hlt
      have hd := hr.out
      rw [drop_at hx] at hd
      simp only [findFrom] at hd
      have HD := Lib.hid hd
      clear hd
      cases hp : p x
      · go_wp2_with fail
        refine (HF.out x (mem_at hx) wr hbw).mono ?_
        rintro e w1 ⟨rfl, hb1⟩
        rw [hp]
        go_wp2_with fail
        go_roundw
        case rel => exact ⟨k + 1, by omega, by go_num, by have := HD.out; rw [hp] at this; exact this, hbw.next hb1 (Nat.le_refl _)⟩
        case measure => simp [intOf]; omega
      · go_wp2_with fail
        refine (HF.out x (mem_at hx) wr hbw).mono ?_
        rintro e w1 ⟨rfl, hb1⟩
        rw [hp]
        go_wp2_with fail
        go_ret
        exact ⟨ret_eq (by have := HD.out; rw [hp] at this; rw [← this]; rfl), hbw.next hb1 (Nat.le_refl _)⟩
    · have hd := hr.out
      rw [drop_end hlt] at hd
      have HD := Lib.hid hd
      clear hd
      go_wp2
      go_ret
      exact ⟨ret_eq (by rw [← HD.out]; rfl), hbw⟩
theorem containsR (A : Option Addr) (l : List Rule) (c : Nat) (K : Nat) (cap : Array Value) (p : Rule → Bool) (w : World) (hm : l.length ≤ big) (hs : Sl ruleE w A l)
    (hf : IsPred Tryz.prog w K cap Rule.v l p) :
    Calls Tryz.prog 89 #[.slice A l.length c, .func (.func K) #[] cap] w
    fun e w' => e = .returned (.bool (l.any p)) ∧ Below w.heap.size w w' := by
  have HF := Lib.hid hf
  clear hf
  go_enter Tryz.func89, Tryz.ntmps89
  go_wp2_with (go_at_call 102; refine (indexR A l c K cap p _ hm hs HF.out).mono ?_; rintro e w1 ⟨rfl, hb1⟩)
  go_ret
  exact ⟨ret_eq (by rw [← findFrom_nonneg p l 0 (by omega)]; rfl), hb1⟩
theorem containsI (A : Option Addr) (l : List Int) (c : Nat) (K : Nat) (cap : Array Value) (p : Int → Bool) (w : World) (hm : l.length ≤ big) (hs : Sl intE w A l)
    (hf : IsPred Tryz.prog w K cap iv l p) :
    Calls Tryz.prog 91 #[.slice A l.length c, .func (.func K) #[] cap] w
    fun e w' => e = .returned (.bool (l.any p)) ∧ Below w.heap.size w w' := by
  have HF := Lib.hid hf
  clear hf
  go_enter Tryz.func91, Tryz.ntmps91
  go_wp2_with (go_at_call 85; refine (indexI A l c K cap p _ hm hs HF.out).mono ?_; rintro e w1 ⟨rfl, hb1⟩)
  go_ret
  exact ⟨ret_eq (by rw [← findFrom_nonneg p l 0 (by omega)]; rfl), hb1⟩
set_option maxRecDepth 100000 in
theorem notR (K : Nat) (cap : Array Value) (p : Rule → Bool) (w0 w : World) (x : Rule) (l : List Rule) (g : Nat) (hx : x ∈ l) (hg : g < w.heap.size) (hc : w.cell? ⟨g, 0, none⟩ = some (.func (.func K) #[] cap)) (hb : Below w0.heap.size w0 w) (hf : IsPred Tryz.prog w0 K cap Rule.v l p) :
    Calls Tryz.prog 90 #[Rule.v x, .pointer (some ⟨g, 0, none⟩)] w fun e w' => e = .returned (.bool (!p x)) ∧ Below w.heap.size w w' := by
  obtain ⟨hK, hf⟩ := hf
  have HF := Lib.hid (fun w' (h : Below w.heap.size w w') => hf x hx w' (hb.next h (Nat.le_refl _)))
  clear hf hx
  obtain ⟨a, b, c, d⟩ := x
  go_enter Tryz.func90, Tryz.ntmps90
  go_wp2_with fail
  refine (HF.out _ ((Below.refl _ _).alloc (Nat.le_refl _) _)).mono ?_
  rintro e w1 ⟨rfl, hb1⟩
  go_wp2_with fail
  go_ret
  exact ⟨rfl, hb1.of_alloc⟩
set_option maxRecDepth 100000 in
theorem everyR (A : Option Addr) (l : List Rule) (c : Nat) (K : Nat) (cap : Array Value) (p : Rule → Bool) (w : World) (hm : l.length ≤ big) (hs : Sl ruleE w A l)
    (hf : IsPred Tryz.prog w K cap Rule.v l p) :
    Calls Tryz.prog 57 #[.slice A l.length c, .func (.func K) #[] cap] w
    fun e w' => e = .returned (.bool (l.all p)) ∧ Below w.heap.size w w' := by
  have HF := Lib.hid hf
  clear hf
  have hsf := fun (a : Addr) (c : Array Value) (w : World) => run_store Tryz.prog w a (.func (.func K) #[] c) .plain rfl
  have hmf : ∀ (fn : Fn) (first cap : Array Value) (w : World), (Instr.makeFunc fn first cap).run Tryz.prog w = .ok (.func fn first cap) w := fun _ _ _ _ => rfl
  go_enter Tryz.func57, Tryz.ntmps57
  go_wp2_with (go_at_call 89; refine (containsR A l c 90 #[.pointer (some ⟨w.heap.size, 0, none⟩)] (fun x => !p x) _ hm (hs.alloc _) ⟨callFunc_run (by kernel_rfl), fun x hx w' hw' => notR K cap p w w' x l w.heap.size hx (by have := hw'.size; simp at this; omega) ((hw'.cell (by simp)).trans (by simp [go_sem])) hw'.of_alloc HF.out⟩).mono ?_; rintro e w1 ⟨rfl, hb1⟩)
  go_ret
  exact ⟨ret_eq (by rw [List.not_any_eq_all_not]; simp), hb1.of_alloc⟩
set_option maxRecDepth 100000 in
theorem notI (K : Nat) (cap : Array Value) (p : Int → Bool) (w0 w : World) (x : Int) (l : List Int) (g : Nat) (hx : x ∈ l) (hg : g < w.heap.size) (hc : w.cell? ⟨g, 0, none⟩ = some (.func (.func K) #[] cap)) (hb : Below w0.heap.size w0 w) (hf : IsPred Tryz.prog w0 K cap iv l p) :
    Calls Tryz.prog 92 #[iv x, .pointer (some ⟨g, 0, none⟩)] w fun e w' => e = .returned (.bool (!p x)) ∧ Below w.heap.size w w' := by
  obtain ⟨hK, hf⟩ := hf
  have HF := Lib.hid (fun w' (h : Below w.heap.size w w') => hf x hx w' (hb.next h (Nat.le_refl _)))
  clear hf hx
  skip
  go_enter Tryz.func92, Tryz.ntmps92
  go_wp2_with fail
  refine (HF.out _ (Below.refl _ _)).mono ?_
  rintro e w1 ⟨rfl, hb1⟩
  go_wp2_with fail
  go_ret
  exact ⟨rfl, hb1⟩
set_option maxRecDepth 100000 in
theorem everyI (A : Option Addr) (l : List Int) (c : Nat) (K : Nat) (cap : Array Value) (p : Int → Bool) (w : World) (hm : l.length ≤ big) (hs : Sl intE w A l)
    (hf : IsPred Tryz.prog w K cap iv l p) :
    Calls Tryz.prog 61 #[.slice A l.length c, .func (.func K) #[] cap] w
    fun e w' => e = .returned (.bool (l.all p)) ∧ Below w.heap.size w w' := by
  have HF := Lib.hid hf
  clear hf
  have hsf := fun (a : Addr) (c : Array Value) (w : World) => run_store Tryz.prog w a (.func (.func K) #[] c) .plain rfl
  have hmf : ∀ (fn : Fn) (first cap : Array Value) (w : World), (Instr.makeFunc fn first cap).run Tryz.prog w = .ok (.func fn first cap) w := fun _ _ _ _ => rfl
  go_enter Tryz.func61, Tryz.ntmps61
  go_wp2_with (go_at_call 91; refine (containsI A l c 92 #[.pointer (some ⟨w.heap.size, 0, none⟩)] (fun x => !p x) _ hm (hs.alloc _) ⟨callFunc_run (by kernel_rfl), fun x hx w' hw' => notI K cap p w w' x l w.heap.size hx (by have := hw'.size; simp at this; omega) ((hw'.cell (by simp)).trans (by simp [go_sem])) hw'.of_alloc HF.out⟩).mono ?_; rintro e w1 ⟨rfl, hb1⟩)
  go_ret
  exact ⟨ret_eq (by rw [List.not_any_eq_all_not]; simp), hb1.of_alloc⟩
end Go.Proofs.YtkailkfiakagfaaGreat
