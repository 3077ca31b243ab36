/- The small functions of the reference: off, Is, Holds, named. Condition: a rule's numbers are not less than -1. -/
import Derived.Test.YtblmlpkjocbhpaaPriceB
import Derived.Test.YtblmlpkjocbhpaaMem2
set_option linter.unusedVariables false
set_option linter.unusedSimpArgs false
namespace Go.Proofs.Ytblmlpkjocbhpaa
open Go.RowKit
set_option maxRecDepth 100000
theorem off_spec (n lo hi : Int) (w : World) : Calls Try.prog 89 #[iv n, iv lo, iv hi] w
    fun e w' => e = .returned (.bool (!Price.inB n lo hi)) ∧ w = w' := by
  by_cases h1 : lo ≤ n <;> by_cases h2 : n ≤ hi
  all_goals
    go_enter Try.func89, Try.ntmps89
    go_wp2
    go_ret
    exact ⟨by simp [Price.inB, *] <;> omega, rfl⟩
theorem is2_spec (p : Piece) (w : World) : Calls Try.prog 25 #[p.v] w
    fun e w' => e = .returned (.bool (Price.isP p)) ∧ Below w.heap.size w w' := by
  obtain ⟨a, b, c⟩ := p
  cases h1 : Price.inB a 0 3 <;> cases h2 : Price.inB b 0 4 <;> cases h3 : Price.inB c 0 2
  all_goals
    go_enter Try.func25, Try.ntmps25
    go_wp2_with (go_at_call 89; refine (off_spec _ _ _ _).mono ?_; rintro e w' ⟨rfl, rfl⟩; first | rw [h1] | rw [h2] | rw [h3])
    go_ret
    exact ⟨ret_eq (by simp [Price.isP, h1, h2, h3]), (Below.refl _ _).alloc (Nat.le_refl _) _⟩
theorem named2_spec (r : Rule) (hr : -1 ≤ r.b ∧ -1 ≤ r.s ∧ -1 ≤ r.e) (w : World) : Calls Try.prog 107 #[r.v] w
    fun e w' => e = .returned (iv (Price.many r)) ∧ Below w.heap.size w w' := by
  obtain ⟨a, b, c, p⟩ := r
  obtain ⟨ha, hb, hc⟩ := hr
  dsimp only at ha hb hc
  by_cases h1 : a = -1 <;> by_cases h2 : b = -1 <;> by_cases h3 : c = -1 <;> (try subst h1) <;> (try subst h2) <;> (try subst h3)
  all_goals
    (try have g1 : 0 ≤ a := by omega)
    (try have g2 : 0 ≤ b := by omega)
    (try have g3 : 0 ≤ c := by omega)
    go_enter Try.func107, Try.ntmps107
    go_wp2
    go_ret
    exact ⟨ret_eq (by simp [Price.many, Price.one, *]), (Below.refl _ _).alloc (Nat.le_refl _) _⟩
set_option maxHeartbeats 4000000 in
theorem holds2_spec (r : Rule) (q : Piece) (hr : -1 ≤ r.b ∧ -1 ≤ r.s ∧ -1 ≤ r.e) (w : World) : Calls Try.prog 53 #[r.v, q.v] w
    fun e w' => e = .returned (.bool (Price.holds r q)) ∧ Below w.heap.size w w' := by
  obtain ⟨a, b, c, p⟩ := r
  obtain ⟨x, y, z⟩ := q
  obtain ⟨ha, hb, hc⟩ := hr
  dsimp only at ha hb hc
  refine three a x _ (fun h1 => ?_) (fun h1 g1 => ?_) (fun g1 h1 => ?_)
  rotate_right
  · have a0 : 0 ≤ a := by have := bne_iff_ne.1 g1; omega
    go_enter Try.func53, Try.ntmps53
    go_wp2
    go_ret
    exact ⟨ret_eq (by (try simp only [bne_iff_ne] at *); simp [Price.holds, Price.fits, *]), ((Below.refl _ _).alloc (Nat.le_refl _) _).alloc (by simp) _⟩
  all_goals
    subst h1
    (try have a0 : 0 ≤ a := by (have := bne_iff_ne.1 g1; omega))
    refine three b y _ (fun h2 => ?_) (fun h2 g2 => ?_) (fun g2 h2 => ?_)
    rotate_right
    · have b0 : 0 ≤ b := by have := bne_iff_ne.1 g2; omega
      go_enter Try.func53, Try.ntmps53
      go_wp2
      go_ret
      exact ⟨ret_eq (by (try simp only [bne_iff_ne] at *); simp [Price.holds, Price.fits, *]), ((Below.refl _ _).alloc (Nat.le_refl _) _).alloc (by simp) _⟩
    all_goals
      subst h2
      (try have b0 : 0 ≤ b := by (have := bne_iff_ne.1 g2; omega))
      refine three c z _ (fun h3 => ?_) (fun h3 g3 => ?_) (fun g3 h3 => ?_)
      rotate_right
      · have c0 : 0 ≤ c := by have := bne_iff_ne.1 g3; omega
        go_enter Try.func53, Try.ntmps53
        go_wp2
        go_ret
        exact ⟨ret_eq (by (try simp only [bne_iff_ne] at *); simp [Price.holds, Price.fits, *]), ((Below.refl _ _).alloc (Nat.le_refl _) _).alloc (by simp) _⟩
      all_goals
        subst h3
        (try have c0 : 0 ≤ c := by (have := bne_iff_ne.1 g3; omega))
        go_enter Try.func53, Try.ntmps53
        go_wp2
        go_ret
        exact ⟨ret_eq (by (try simp only [bne_iff_ne] at *); simp [Price.holds, Price.fits, *]), ((Below.refl _ _).alloc (Nat.le_refl _) _).alloc (by simp) _⟩
end Go.Proofs.Ytblmlpkjocbhpaa
