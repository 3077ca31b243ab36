/- slices.IndexFunc, ContainsFunc and price.every, at rules and at ints: by what the function handed over answers. Condition: lengths are below a great bound. -/
import Derived.Test.YtblmlpkjocbhpaaPriceD
set_option linter.unusedVariables false
set_option linter.unusedSimpArgs false
namespace Go.Proofs.Ytblmlpkjocbhpaa
open Go.RowKit

/-- The function value answers p at each x of xs, whatever has come to lie in memory since. -/
def IsPred {α : Type} (P : Program) (w : World) (K : Nat) (cap : Array Value) (v : α → Value) (xs : List α) (p : α → Bool) : Prop :=
  (∀ args w, (callFunc K args).run P w = .ok (.enter K args) w) ∧
  ∀ x ∈ xs, ∀ w', Below w.heap.size w w' → Calls P K (#[v x] ++ cap) w' (fun e w'' => e = .returned (.bool (p x)) ∧ Below w'.heap.size w' w'')
theorem IsPred.below {α : Type} {P : Program} {w w1 : World} {K : Nat} {cap : Array Value} {v : α → Value} {xs : List α} {p : α → Bool} (h : IsPred P w K cap v xs p) (hb : Below w.heap.size w w1) : IsPred P w1 K cap v xs p :=
  ⟨h.1, fun x hx w' hw' => h.2 x hx w' (hb.next hw' (Nat.le_refl _))⟩

theorem callFunc_run {P : Program} {K : Nat} (h : ((P.funcs[K]?).map fun f => (f.name == "runtime.NumGoroutine", f.body.isNone)) = some (false, false)) : ∀ (args : Array Value) (w : World), (callFunc K args).run P w = .ok (.enter K args) w := by
  intro args w
  cases hf : P.funcs[K]? with
  | none => rw [hf] at h; cases h
  | some fn =>
    rw [hf] at h
    simp only [Option.map_some, Option.some.injEq, Prod.mk.injEq] at h
    have h1 : ¬ fn.name = "runtime.NumGoroutine" := by simpa using h.1
    have h2 : ¬ fn.body = none := fun e => by rw [e] at h; cases h.2
    simp [callFunc, go_sem, hf, h1, h2]

def findFrom {α : Type} (p : α → Bool) (l : List α) (k : Int) : Int := match l with
  | [] => -1
  | x :: l => if p x then k else findFrom p l (k + 1)
theorem findFrom_nonneg {α : Type} (p : α → Bool) : ∀ (l : List α) (k : Int), 0 ≤ k → (decide (0 ≤ findFrom p l k) = l.any p) := by
  intro l
  induction l with
  | nil => intro k _; simp [findFrom]
  | cons x l ih =>
    intro k hk
    simp only [findFrom, List.any_cons]
    by_cases h : p x = true
    · simpa [h] using hk
    · simpa [h] using ih (k + 1) (by omega)

set_option maxRecDepth 100000 in
theorem indexR (A : Option Addr) (l : List Rule) (c : Nat) (K : Nat) (cap : Array Value) (p : Rule → Bool) (w : World) (hm : l.length ≤ big) (hs : Sl ruleE w A l)
    (hf : IsPred Try.prog w K cap Rule.v l p) :
    Calls Try.prog 158 #[.slice A l.length c, .func (.func K) #[] cap] w
    fun e w' => e = .returned (iv (findFrom p l 0)) ∧ Below w.heap.size w w' := by
  unfold big at hm
  obtain ⟨hK, hf⟩ := hf
  have HF := Lib.hid hf
  clear hf
  go_enter Try.func158, Try.ntmps158
  go_wp2
  go_loopw [5, 8] (fun u i wr => ∃ (k : Nat), k ≤ l.length ∧ i = iv k ∧ Hid (findFrom p (l.drop k) k = findFrom p l 0) ∧ Below w.heap.size w wr) (fun _ i _ => l.length - (intOf i).toNat)
  case atStart => exact ⟨0, by omega, rfl, rfl, Below.refl _ _⟩
  case round =>
    obtain ⟨k, hk, rfl, hr, hbw⟩ := hrel
    have hs1 := hs.below hbw
    by_cases hlt : k < l.length
    · obtain ⟨b, off, x, rfl, hb, hx, hc0, hc1, hc2, hc3⟩ := hs1.atR hlt
      have hd := hr.out
      rw [drop_at hx] at hd
      simp only [findFrom] at hd
      have HD := Lib.hid hd
      clear hd
      cases hp : p x
      · go_wp2_with fail
        refine (HF.out x (mem_at hx) wr hbw).mono ?_
        rintro e w1 ⟨rfl, hb1⟩
        rw [hp]
        go_wp2_with fail
        go_roundw
        case rel => exact ⟨k + 1, by omega, by go_num, by have := HD.out; rw [hp] at this; exact this, hbw.next hb1 (Nat.le_refl _)⟩
        case measure => simp [intOf]; omega
      · go_wp2_with fail
        refine (HF.out x (mem_at hx) wr hbw).mono ?_
        rintro e w1 ⟨rfl, hb1⟩
        rw [hp]
        go_wp2_with fail
        go_ret
        exact ⟨ret_eq (by have := HD.out; rw [hp] at this; rw [← this]; rfl), hbw.next hb1 (Nat.le_refl _)⟩
    · have hd := hr.out
      rw [drop_end hlt] at hd
      have HD := Lib.hid hd
      clear hd
      go_wp2
      go_ret
      exact ⟨ret_eq (by rw [← HD.out]; rfl), hbw⟩
set_option maxRecDepth 100000 in
theorem indexI (A : Option Addr) (l : List Int) (c : Nat) (K : Nat) (cap : Array Value) (p : Int → Bool) (w : World) (hm : l.length ≤ big) (hs : Sl intE w A l)
    (hf : IsPred Try.prog w K cap iv l p) :
    Calls Try.prog 82 #[.slice A l.length c, .func (.func K) #[] cap] w
    fun e w' => e = .returned (iv (findFrom p l 0)) ∧ Below w.heap.size w w' := by
  unfold big at hm
  obtain ⟨hK, hf⟩ := hf
  have HF := Lib.hid hf
  clear hf
  go_enter Try.func82, Try.ntmps82
  go_wp2
  go_loopw [5, 8] (fun u i wr => ∃ (k : Nat), k ≤ l.length ∧ i = iv k ∧ Hid (findFrom p (l.drop k) k = findFrom p l 0) ∧ Below w.heap.size w wr) (fun _ i _ => l.length - (intOf i).toNat)
  case atStart => exact ⟨0, by omega, rfl, rfl, Below.refl _ _⟩
  case round =>
    obtain ⟨k, hk, rfl, hr, hbw⟩ := hrel
    have hs1 := hs.below hbw
    by_cases hlt : k < l.length
    · obtain ⟨b, off, x, rfl, hb, hx, hc0⟩ := hs1.atI hlt
      have hd := hr.out
      rw [drop_at hx] at hd
      simp only [findFrom] at hd
      have HD := Lib.hid hd
      clear hd
      cases hp : p x
      · go_wp2_with fail
        refine (HF.out x (mem_at hx) wr hbw).mono ?_
        rintro e w1 ⟨rfl, hb1⟩
        rw [hp]
        go_wp2_with fail
        go_roundw
        case rel => exact ⟨k + 1, by omega, by go_num, by have := HD.out; rw [hp] at this; exact this, hbw.next hb1 (Nat.le_refl _)⟩
        case measure => simp [intOf]; omega
      · go_wp2_with fail
        refine (HF.out x (mem_at hx) wr hbw).mono ?_
        rintro e w1 ⟨rfl, hb1⟩
        rw [hp]
        go_wp2_with fail
        go_ret
        exact ⟨ret_eq (by have := HD.out; rw [hp] at this; rw [← this]; rfl), hbw.next hb1 (Nat.le_refl _)⟩
    · have hd := hr.out
      rw [drop_end hlt] at hd
      have HD := Lib.hid hd
      clear hd
      go_wp2
      go_ret
      exact ⟨ret_eq (by rw [← HD.out]; rfl), hbw⟩
theorem containsR (A : Option Addr) (l : List Rule) (c : Nat) (K : Nat) (cap : Array Value) (p : Rule → Bool) (w : World) (hm : l.length ≤ big) (hs : Sl ruleE w A l)
    (hf : IsPred Try.prog w K cap Rule.v l p) :
    Calls Try.prog 134 #[.slice A l.length c, .func (.func K) #[] cap] w
    fun e w' => e = .returned (.bool (l.any p)) ∧ Below w.heap.size w w' := by
  have HF := Lib.hid hf
  clear hf
  go_enter Try.func134, Try.ntmps134
  go_wp2_with (go_at_call 158; refine (indexR A l c K cap p _ hm hs HF.out).mono ?_; rintro e w1 ⟨rfl, hb1⟩)
  go_ret
  exact ⟨ret_eq (by rw [← findFrom_nonneg p l 0 (by omega)]; rfl), hb1⟩
theorem containsI (A : Option Addr) (l : List Int) (c : Nat) (K : Nat) (cap : Array Value) (p : Int → Bool) (w : World) (hm : l.length ≤ big) (hs : Sl intE w A l)
    (hf : IsPred Try.prog w K cap iv l p) :
    Calls Try.prog 131 #[.slice A l.length c, .func (.func K) #[] cap] w
    fun e w' => e = .returned (.bool (l.any p)) ∧ Below w.heap.size w w' := by
  have HF := Lib.hid hf
  clear hf
  go_enter Try.func131, Try.ntmps131
  go_wp2_with (go_at_call 82; refine (indexI A l c K cap p _ hm hs HF.out).mono ?_; rintro e w1 ⟨rfl, hb1⟩)
  go_ret
  exact ⟨ret_eq (by rw [← findFrom_nonneg p l 0 (by omega)]; rfl), hb1⟩
set_option maxRecDepth 100000 in
theorem notR (K : Nat) (cap : Array Value) (p : Rule → Bool) (w0 w : World) (x : Rule) (l : List Rule) (g : Nat) (hx : x ∈ l) (hg : g < w.heap.size) (hc : w.cell? ⟨g, 0, none⟩ = some (.func (.func K) #[] cap)) (hb : Below w0.heap.size w0 w) (hf : IsPred Try.prog w0 K cap Rule.v l p) :
    Calls Try.prog 135 #[Rule.v x, .pointer (some ⟨g, 0, none⟩)] w fun e w' => e = .returned (.bool (!p x)) ∧ Below w.heap.size w w' := by
  obtain ⟨hK, hf⟩ := hf
  have HF := Lib.hid (fun w' (h : Below w.heap.size w w') => hf x hx w' (hb.next h (Nat.le_refl _)))
  clear hf hx
  obtain ⟨a, b, c, d⟩ := x
  go_enter Try.func135, Try.ntmps135
  go_wp2_with fail
  refine (HF.out _ ((Below.refl _ _).alloc (Nat.le_refl _) _)).mono ?_
  rintro e w1 ⟨rfl, hb1⟩
  go_wp2_with fail
  go_ret
  exact ⟨rfl, hb1.of_alloc⟩
set_option maxRecDepth 100000 in
theorem everyR (A : Option Addr) (l : List Rule) (c : Nat) (K : Nat) (cap : Array Value) (p : Rule → Bool) (w : World) (hm : l.length ≤ big) (hs : Sl ruleE w A l)
    (hf : IsPred Try.prog w K cap Rule.v l p) :
    Calls Try.prog 104 #[.slice A l.length c, .func (.func K) #[] cap] w
    fun e w' => e = .returned (.bool (l.all p)) ∧ Below w.heap.size w w' := by
  have HF := Lib.hid hf
  clear hf
  have hsf := fun (a : Addr) (c : Array Value) (w : World) => run_store Try.prog w a (.func (.func K) #[] c) .plain rfl
  have hmf : ∀ (fn : Fn) (first cap : Array Value) (w : World), (Instr.makeFunc fn first cap).run Try.prog w = .ok (.func fn first cap) w := fun _ _ _ _ => rfl
  go_enter Try.func104, Try.ntmps104
  go_wp2_with (go_at_call 134; refine (containsR A l c 135 #[.pointer (some ⟨w.heap.size, 0, none⟩)] (fun x => !p x) _ hm (hs.alloc _) ⟨callFunc_run (by kernel_rfl), fun x hx w' hw' => notR K cap p w w' x l w.heap.size hx (by have := hw'.size; simp at this; omega) ((hw'.cell (by simp)).trans (by simp [go_sem])) hw'.of_alloc HF.out⟩).mono ?_; rintro e w1 ⟨rfl, hb1⟩)
  go_ret
  exact ⟨ret_eq (by rw [List.not_any_eq_all_not]; simp), hb1.of_alloc⟩
set_option maxRecDepth 100000 in
theorem notI (K : Nat) (cap : Array Value) (p : Int → Bool) (w0 w : World) (x : Int) (l : List Int) (g : Nat) (hx : x ∈ l) (hg : g < w.heap.size) (hc : w.cell? ⟨g, 0, none⟩ = some (.func (.func K) #[] cap)) (hb : Below w0.heap.size w0 w) (hf : IsPred Try.prog w0 K cap iv l p) :
    Calls Try.prog 132 #[iv x, .pointer (some ⟨g, 0, none⟩)] w fun e w' => e = .returned (.bool (!p x)) ∧ Below w.heap.size w w' := by
  obtain ⟨hK, hf⟩ := hf
  have HF := Lib.hid (fun w' (h : Below w.heap.size w w') => hf x hx w' (hb.next h (Nat.le_refl _)))
  clear hf hx
  skip
  go_enter Try.func132, Try.ntmps132
  go_wp2_with fail
  refine (HF.out _ (Below.refl _ _)).mono ?_
  rintro e w1 ⟨rfl, hb1⟩
  go_wp2_with fail
  go_ret
  exact ⟨rfl, hb1⟩
set_option maxRecDepth 100000 in
theorem everyI (A : Option Addr) (l : List Int) (c : Nat) (K : Nat) (cap : Array Value) (p : Int → Bool) (w : World) (hm : l.length ≤ big) (hs : Sl intE w A l)
    (hf : IsPred Try.prog w K cap iv l p) :
    Calls Try.prog 99 #[.slice A l.length c, .func (.func K) #[] cap] w
    fun e w' => e = .returned (.bool (l.all p)) ∧ Below w.heap.size w w' := by
  have HF := Lib.hid hf
  clear hf
  have hsf := fun (a : Addr) (c : Array Value) (w : World) => run_store Try.prog w a (.func (.func K) #[] c) .plain rfl
  have hmf : ∀ (fn : Fn) (first cap : Array Value) (w : World), (Instr.makeFunc fn first cap).run Try.prog w = .ok (.func fn first cap) w := fun _ _ _ _ => rfl
  go_enter Try.func99, Try.ntmps99
  go_wp2_with (go_at_call 131; refine (containsI A l c 132 #[.pointer (some ⟨w.heap.size, 0, none⟩)] (fun x => !p x) _ hm (hs.alloc _) ⟨callFunc_run (by kernel_rfl), fun x hx w' hw' => notI K cap p w w' x l w.heap.size hx (by have := hw'.size; simp at this; omega) ((hw'.cell (by simp)).trans (by simp [go_sem])) hw'.of_alloc HF.out⟩).mono ?_; rintro e w1 ⟨rfl, hb1⟩)
  go_ret
  exact ⟨ret_eq (by rw [List.not_any_eq_all_not]; simp), hb1.of_alloc⟩
end Go.Proofs.Ytblmlpkjocbhpaa
