/- What a rule names of a piece, as the statements reckon it. No condition. -/
import Derived.Test.YtblmlpkjocbhpaaPriceB
import Derived.Test.YtblmlpkjocbhpaaLawP
set_option linter.unusedVariables false
set_option linter.unusedSimpArgs false
namespace Go.Proofs.Ytblmlpkjocbhpaa
open Go.RowKit
set_option maxRecDepth 100000
theorem below_alloc' {B : Nat} {w w' : World} {o : Obj} (h : Below B w w') (hB : B ≤ w'.heap.size) : Below B w (w'.alloc o) := h.alloc hB o
set_option maxHeartbeats 4000000 in
theorem lnames_spec (r : Rule) (q : Piece) (w : World) : Calls Try.prog 73 #[r.v, q.v] w
    fun e w' => e = .returned (iv (Price.lawNames q r)) ∧ Below w.heap.size w w' := by
  obtain ⟨a, b, c, p⟩ := r
  obtain ⟨x, y, z⟩ := q
  refine three a x _ (fun h1 => ?_) (fun h1 g1 => ?_) (fun g1 h1 => ?_)
  rotate_right
  · go_enter Try.func73, Try.ntmps73
    go_wp2
    refine wp_loop_rounds 4 ?_
    repeat (rw [rounds_succ]; go_wp2)
    go_ret
    exact ⟨ret_eq (by (try simp only [bne_iff_ne] at *); simp [Price.lawNames, Price.holds, Price.fits, Price.many, Price.one, *]), by (repeat (refine below_alloc' ?_ (by first | exact Nat.le_refl _ | (simp only [World.size_alloc]; omega)))); exact Below.refl _ _⟩
  all_goals
    subst h1
    refine three b y _ (fun h2 => ?_) (fun h2 g2 => ?_) (fun g2 h2 => ?_)
    rotate_right
    · go_enter Try.func73, Try.ntmps73
      go_wp2
      refine wp_loop_rounds 4 ?_
      repeat (rw [rounds_succ]; go_wp2)
      go_ret
      exact ⟨ret_eq (by (try simp only [bne_iff_ne] at *); simp [Price.lawNames, Price.holds, Price.fits, Price.many, Price.one, *]), by (repeat (refine below_alloc' ?_ (by first | exact Nat.le_refl _ | (simp only [World.size_alloc]; omega)))); exact Below.refl _ _⟩
    all_goals
      subst h2
      refine three c z _ (fun h3 => ?_) (fun h3 g3 => ?_) (fun g3 h3 => ?_)
      rotate_right
      · go_enter Try.func73, Try.ntmps73
        go_wp2
        refine wp_loop_rounds 4 ?_
        repeat (rw [rounds_succ]; go_wp2)
        go_ret
        exact ⟨ret_eq (by (try simp only [bne_iff_ne] at *); simp [Price.lawNames, Price.holds, Price.fits, Price.many, Price.one, *]), by (repeat (refine below_alloc' ?_ (by first | exact Nat.le_refl _ | (simp only [World.size_alloc]; omega)))); exact Below.refl _ _⟩
      all_goals
        subst h3
        go_enter Try.func73, Try.ntmps73
        go_wp2
        refine wp_loop_rounds 4 ?_
        repeat (rw [rounds_succ]; go_wp2)
        go_ret
        exact ⟨ret_eq (by (try simp only [bne_iff_ne] at *); simp [Price.lawNames, Price.holds, Price.fits, Price.many, Price.one, *]), by (repeat (refine below_alloc' ?_ (by first | exact Nat.le_refl _ | (simp only [World.size_alloc]; omega)))); exact Below.refl _ _⟩
end Go.Proofs.Ytblmlpkjocbhpaa
