/- The small functions of package price. No condition. -/
import Derived.Test.YtblmlpkjocbhpaaProg
import Derived.Test.YtblmlpkjocbhpaaMem
import Derived.Test.YtblmlpkjocbhpaaPriceSpec
import Derived.Outline
import Derived.BigQuiet
import Derived.Deep.QuietTactic
set_option linter.unusedVariables false
set_option linter.unusedSimpArgs false
namespace Go.Proofs.Ytblmlpkjocbhpaa
open Go.RowKit

def pieceE : Enc Piece := ⟨fun p => [iv p.b, iv p.s, iv p.e], 3, fun _ => rfl, fun _ u h => by simp at h; rcases h with rfl | rfl | rfl <;> rfl, by decide⟩
def ruleE : Enc Rule := ⟨fun p => [iv p.b, iv p.s, iv p.e, iv p.p], 4, fun _ => rfl, fun _ u h => by simp at h; rcases h with rfl | rfl | rfl | rfl <;> rfl, by decide⟩
abbrev Piece.v (p : Piece) : Value := .agg #[iv p.b, iv p.s, iv p.e]
abbrev Rule.v (r : Rule) : Value := .agg #[iv r.b, iv r.s, iv r.e, iv r.p]

theorem tyInts : SlTy Try.prog 29 3 1 := slTy_of (z := iv 0) (bytes := 8) Try.underlying29 (by kernel_rfl) rfl (by decide)

theorem Sl.getR {w : World} {A : Option Addr} {xs : List Rule} {k : Nat} (h : Sl ruleE w A xs) (hk : k < xs.length) :
    ∃ b off, A = some ⟨b, off, none⟩ ∧ b < w.heap.size ∧ w.cell? ⟨b, off + k * 4, none⟩ = some (iv xs[k].b) ∧ w.cell? ⟨b, off + k * 4 + 1, none⟩ = some (iv xs[k].s) ∧
      w.cell? ⟨b, off + k * 4 + 2, none⟩ = some (iv xs[k].e) ∧ w.cell? ⟨b, off + k * 4 + 3, none⟩ = some (iv xs[k].p) := by
  obtain ⟨b, off, hA, hb, hc⟩ := h.get hk
  exact ⟨b, off, hA, hb, hc 0 _ rfl, hc 1 _ rfl, hc 2 _ rfl, hc 3 _ rfl⟩
theorem Sl.getP {w : World} {A : Option Addr} {xs : List Piece} {k : Nat} (h : Sl pieceE w A xs) (hk : k < xs.length) :
    ∃ b off, A = some ⟨b, off, none⟩ ∧ b < w.heap.size ∧ w.cell? ⟨b, off + k * 3, none⟩ = some (iv xs[k].b) ∧ w.cell? ⟨b, off + k * 3 + 1, none⟩ = some (iv xs[k].s) ∧
      w.cell? ⟨b, off + k * 3 + 2, none⟩ = some (iv xs[k].e) := by
  obtain ⟨b, off, hA, hb, hc⟩ := h.get hk
  exact ⟨b, off, hA, hb, hc 0 _ rfl, hc 1 _ rfl, hc 2 _ rfl⟩

theorem Sl.atR {w : World} {A : Option Addr} {xs : List Rule} {k : Nat} (h : Sl ruleE w A xs) (hk : k < xs.length) :
    ∃ b off x, A = some ⟨b, off, none⟩ ∧ b < w.heap.size ∧ xs[k]? = some x ∧ w.cell? ⟨b, off + k * 4, none⟩ = some (iv x.b) ∧ w.cell? ⟨b, off + k * 4 + 1, none⟩ = some (iv x.s) ∧
      w.cell? ⟨b, off + k * 4 + 2, none⟩ = some (iv x.e) ∧ w.cell? ⟨b, off + k * 4 + 3, none⟩ = some (iv x.p) := by
  obtain ⟨b, off, x, hA, hb, hx, hc⟩ := h.at_ hk
  exact ⟨b, off, x, hA, hb, hx, hc 0 _ rfl, hc 1 _ rfl, hc 2 _ rfl, hc 3 _ rfl⟩
theorem Sl.atP {w : World} {A : Option Addr} {xs : List Piece} {k : Nat} (h : Sl pieceE w A xs) (hk : k < xs.length) :
    ∃ b off x, A = some ⟨b, off, none⟩ ∧ b < w.heap.size ∧ xs[k]? = some x ∧ w.cell? ⟨b, off + k * 3, none⟩ = some (iv x.b) ∧ w.cell? ⟨b, off + k * 3 + 1, none⟩ = some (iv x.s) ∧
      w.cell? ⟨b, off + k * 3 + 2, none⟩ = some (iv x.e) := by
  obtain ⟨b, off, x, hA, hb, hx, hc⟩ := h.at_ hk
  exact ⟨b, off, x, hA, hb, hx, hc 0 _ rfl, hc 1 _ rfl, hc 2 _ rfl⟩

theorem in_spec (n lo hi : Int) (w : World) : Calls Try.prog 98 #[iv n, iv lo, iv hi] w
    fun e w' => e = .returned (.bool (Price.inB n lo hi)) ∧ w = w' := by
  by_cases h1 : lo ≤ n <;> by_cases h2 : n ≤ hi
  all_goals
    go_enter Try.func98, Try.ntmps98
    go_wp2
    go_ret
    exact ⟨by simp [Price.inB, *], rfl⟩

theorem names_spec (r : Rule) (w : World) : Calls Try.prog 106 #[r.v] w
    fun e w' => e = .returned (.agg #[iv r.b, iv r.s, iv r.e]) ∧ Below w.heap.size w w' := by
  obtain ⟨a, b, c, p⟩ := r
  go_enter Try.func106, Try.ntmps106
  go_wp2
  exact bodyPost_ret (v := .agg #[iv a, iv b, iv c]) (by simp [results, go_sem]) rfl ⟨rfl, ((Below.refl _ _).alloc (Nat.le_refl _) _).alloc (by simp) _⟩

theorem has_spec (r : Piece) (w : World) : Calls Try.prog 136 #[r.v] w
    fun e w' => e = .returned (.agg #[iv r.b, iv r.s, iv r.e]) ∧ Below w.heap.size w w' := by
  obtain ⟨a, b, c⟩ := r
  go_enter Try.func136, Try.ntmps136
  go_wp2
  exact bodyPost_ret (v := .agg #[iv a, iv b, iv c]) (by simp [results, go_sem]) rfl ⟨rfl, ((Below.refl _ _).alloc (Nat.le_refl _) _).alloc (by simp) _⟩

theorem greatest_spec (A : Option Addr) (xs : List Int) (c : Nat) (w : World) (hm : xs.length ≤ big) (hs : Sl intE w A xs) :
    Calls Try.prog 138 #[.slice A xs.length c] w fun e w' => e = .returned (iv (Price.greatest xs)) ∧ w = w' := by
  unfold big at hm
  go_enter Try.func138, Try.ntmps138
  go_wp2
  go_loop [3, 5, 8] (fun g m i => ∃ (k : Nat) (a : Int), k ≤ xs.length ∧ i = iv k ∧ g = iv a ∧ Hid ((xs.drop k).foldl max a = Price.greatest xs)) (fun _ _ i => xs.length - (intOf i).toNat)
  case atStart => exact ⟨0, 0, by omega, rfl, rfl, rfl⟩
  case round =>
    obtain ⟨k, a, hk, rfl, rfl, hf⟩ := hrel
    by_cases hlt : k < xs.length
    · obtain ⟨b, off, rfl, hb, hc⟩ := hs.getI hlt
      go_wp2
      go_round
      case rel => exact ⟨k + 1, _, by omega, by go_num, rfl, by have := hf.out; rw [drop_step hlt] at this; show _ = _; rw [← this, List.foldl_cons, Int.max_def]; congr 1; split <;> split <;> omega⟩
      case measure => simp [intOf]; omega
    · go_wp2
      go_ret
      exact ⟨by have := hf.out; rw [drop_end hlt] at this; exact ret_eq (by rw [← this]; rfl), rfl⟩
theorem idx0 (a b c : Int) (w : World) : (Instr.index 156 (.agg #[iv a, iv b, iv c]) (.int .i64 0)).run Try.prog w = .ok (iv a) w := by kernel_rfl
theorem idx1 (a b c : Int) (w : World) : (Instr.index 156 (.agg #[iv a, iv b, iv c]) (.int .i64 1)).run Try.prog w = .ok (iv b) w := by kernel_rfl
theorem idx2 (a b c : Int) (w : World) : (Instr.index 156 (.agg #[iv a, iv b, iv c]) (.int .i64 2)).run Try.prog w = .ok (iv c) w := by kernel_rfl
theorem is_spec (p : Piece) (w : World) : Calls Try.prog 90 #[p.v] w
    fun e w' => e = .returned (.bool (Price.isP p)) ∧ Below w.heap.size w w' := by
  obtain ⟨a, b, c⟩ := p
  cases h1 : Price.inB a 0 3 <;> cases h2 : Price.inB b 0 4 <;> cases h3 : Price.inB c 0 2
  all_goals
    go_enter Try.func90, Try.ntmps90
    go_wp2_with (go_at_call 98; refine (in_spec _ _ _ _).mono ?_; rintro e w' ⟨rfl, rfl⟩)
    go_ret
    exact ⟨ret_eq (by simp [Price.isP, h1, h2, h3]), (Below.refl _ _).alloc (Nat.le_refl _) _⟩
theorem allowed_spec (p : Rule) (w : World) : Calls Try.prog 105 #[p.v] w
    fun e w' => e = .returned (.bool (Price.allowed p)) ∧ Below w.heap.size w w' := by
  obtain ⟨a, b, c, d⟩ := p
  cases h1 : Price.inB a (-1) 3 <;> cases h2 : Price.inB b (-1) 4 <;> cases h3 : Price.inB c (-1) 2 <;> cases h4 : Price.inB d 0 500
  all_goals
    go_enter Try.func105, Try.ntmps105
    go_wp2_with (go_at_call 98; refine (in_spec _ _ _ _).mono ?_; rintro e w' ⟨rfl, rfl⟩)
    go_ret
    exact ⟨ret_eq (by simp [Price.allowed, h1, h2, h3, h4]), (Below.refl _ _).alloc (Nat.le_refl _) _⟩
set_option maxRecDepth 100000 in
theorem many_spec (r : Rule) (w : World) : Calls Try.prog 137 #[r.v] w
    fun e w' => e = .returned (iv (Price.many r)) ∧ Below w.heap.size w w' := by
  obtain ⟨a, b, c, p⟩ := r
  have i0 := idx0; have i1 := idx1; have i2 := idx2
  by_cases h1 : a = -1 <;> by_cases h2 : b = -1 <;> by_cases h3 : c = -1 <;> (try subst h1) <;> (try subst h2) <;> (try subst h3)
  all_goals
    go_enter Try.func137, Try.ntmps137
    go_wp2_with (go_at_call 106; refine (names_spec ⟨_, _, _, p⟩ _).mono ?_; rintro e w1 ⟨rfl, hb⟩)
    refine wp_loop_rounds 4 ?_
    rw [rounds_succ]; go_wp2
    rw [rounds_succ]; go_wp2
    rw [rounds_succ]; go_wp2
    rw [rounds_succ]; go_wp2
    go_ret
    exact ⟨ret_eq (by simp [Price.many, Price.one, *]), (((Below.refl _ _).alloc (Nat.le_refl _) _).trans (hb.mono (by simp)))⟩
end Go.Proofs.Ytblmlpkjocbhpaa
