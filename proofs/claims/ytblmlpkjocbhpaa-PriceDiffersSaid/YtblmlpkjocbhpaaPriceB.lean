/- Does a rule hold for a piece. No condition. -/
import Derived.Test.YtblmlpkjocbhpaaPriceA
set_option linter.unusedVariables false
set_option linter.unusedSimpArgs false
namespace Go.Proofs.Ytblmlpkjocbhpaa
open Go.RowKit
theorem three (a x : Int) (P : Prop) (h1 : a = -1 → P) (h2 : a = x → (a != -1) = true → P) (h3 : (a != -1) = true → (a != x) = true → P) : P := by
  by_cases h : a = -1
  · exact h1 h
  · by_cases h' : a = x
    · exact h2 h' (by simpa using h)
    · exact h3 (by simpa using h) (by simpa using h')
set_option maxRecDepth 100000 in
set_option maxHeartbeats 4000000 in
theorem holds_spec (r : Rule) (q : Piece) (w : World) : Calls Try.prog 108 #[r.v, q.v] w
    fun e w' => e = .returned (.bool (Price.holds r q)) ∧ Below w.heap.size w w' := by
  obtain ⟨a, b, c, p⟩ := r
  obtain ⟨x, y, z⟩ := q
  have i0 := idx0; have i1 := idx1; have i2 := idx2
  have fin : ∀ {w1 w2 : World} {X Y Z : Obj}, Below ((w.alloc X).alloc Y).heap.size ((w.alloc X).alloc Y) w1 → Below (w1.alloc Z).heap.size (w1.alloc Z) w2 → Below w.heap.size w w2 := fun {w1 w2 X Y Z} h1 h2 => by
    have hz := h1.size
    simp only [World.size_alloc] at hz
    exact ((((Below.refl _ _).alloc (Nat.le_refl _) X).alloc (by simp) Y).trans (h1.mono (by simp; omega))).trans (((Below.refl _ _).alloc (by omega) Z).trans (h2.mono (by simp; omega)))
  refine three a x _ (fun h1 => ?_) (fun h1 g1 => ?_) (fun g1 h1 => ?_)
  rotate_right
  · go_enter Try.func108, Try.ntmps108
    go_wp2_with (first
      | (go_at_call 136; refine (has_spec ⟨_, _, _⟩ _).mono ?_; rintro e w1 ⟨rfl, hb⟩; obtain ⟨k0, k0f, k0l, k0e, k0n, k0x⟩ := aft hb (w.heap.size) (by (try simp [go_sem]); (try omega)); (try simp [go_sem] at k0 k0f); obtain ⟨k1, k1f, k1l, k1e, k1n, k1x⟩ := aft hb (w.heap.size+1) (by (try simp [go_sem]); (try omega)); (try simp [go_sem] at k1 k1f))
      | (go_at_call 106; refine (names_spec ⟨_, _, _, p⟩ _).mono ?_; rintro e w2 ⟨rfl, hb2⟩; obtain ⟨m, mf, ml, me, mn, mx⟩ := aft hb2 (w1.heap.size) (by (try simp [go_sem]); (try omega)); (try simp [go_sem] at m mf)))
    refine wp_loop_rounds 4 ?_
    repeat (rw [rounds_succ]; go_wp2)
    go_ret
    exact ⟨ret_eq (by clear hb hb2 fin i0 i1 i2; (try simp only [bne_iff_ne] at *); simp [Price.holds, Price.fits, *]), fin hb hb2⟩
  all_goals
    subst h1
    refine three b y _ (fun h2 => ?_) (fun h2 g2 => ?_) (fun g2 h2 => ?_)
    rotate_right
    · go_enter Try.func108, Try.ntmps108
      go_wp2_with (first
        | (go_at_call 136; refine (has_spec ⟨_, _, _⟩ _).mono ?_; rintro e w1 ⟨rfl, hb⟩; obtain ⟨k0, k0f, k0l, k0e, k0n, k0x⟩ := aft hb (w.heap.size) (by (try simp [go_sem]); (try omega)); (try simp [go_sem] at k0 k0f); obtain ⟨k1, k1f, k1l, k1e, k1n, k1x⟩ := aft hb (w.heap.size+1) (by (try simp [go_sem]); (try omega)); (try simp [go_sem] at k1 k1f))
        | (go_at_call 106; refine (names_spec ⟨_, _, _, p⟩ _).mono ?_; rintro e w2 ⟨rfl, hb2⟩; obtain ⟨m, mf, ml, me, mn, mx⟩ := aft hb2 (w1.heap.size) (by (try simp [go_sem]); (try omega)); (try simp [go_sem] at m mf)))
      refine wp_loop_rounds 4 ?_
      repeat (rw [rounds_succ]; go_wp2)
      go_ret
      exact ⟨ret_eq (by clear hb hb2 fin i0 i1 i2; (try simp only [bne_iff_ne] at *); simp [Price.holds, Price.fits, *]), fin hb hb2⟩
    all_goals
      subst h2
      refine three c z _ (fun h3 => ?_) (fun h3 g3 => ?_) (fun g3 h3 => ?_)
      rotate_right
      · go_enter Try.func108, Try.ntmps108
        go_wp2_with (first
          | (go_at_call 136; refine (has_spec ⟨_, _, _⟩ _).mono ?_; rintro e w1 ⟨rfl, hb⟩; obtain ⟨k0, k0f, k0l, k0e, k0n, k0x⟩ := aft hb (w.heap.size) (by (try simp [go_sem]); (try omega)); (try simp [go_sem] at k0 k0f); obtain ⟨k1, k1f, k1l, k1e, k1n, k1x⟩ := aft hb (w.heap.size+1) (by (try simp [go_sem]); (try omega)); (try simp [go_sem] at k1 k1f))
          | (go_at_call 106; refine (names_spec ⟨_, _, _, p⟩ _).mono ?_; rintro e w2 ⟨rfl, hb2⟩; obtain ⟨m, mf, ml, me, mn, mx⟩ := aft hb2 (w1.heap.size) (by (try simp [go_sem]); (try omega)); (try simp [go_sem] at m mf)))
        refine wp_loop_rounds 4 ?_
        repeat (rw [rounds_succ]; go_wp2)
        go_ret
        exact ⟨ret_eq (by clear hb hb2 fin i0 i1 i2; (try simp only [bne_iff_ne] at *); simp [Price.holds, Price.fits, *]), fin hb hb2⟩
      all_goals
        subst h3
        go_enter Try.func108, Try.ntmps108
        go_wp2_with (first
          | (go_at_call 136; refine (has_spec ⟨_, _, _⟩ _).mono ?_; rintro e w1 ⟨rfl, hb⟩; obtain ⟨k0, k0f, k0l, k0e, k0n, k0x⟩ := aft hb (w.heap.size) (by (try simp [go_sem]); (try omega)); (try simp [go_sem] at k0 k0f); obtain ⟨k1, k1f, k1l, k1e, k1n, k1x⟩ := aft hb (w.heap.size+1) (by (try simp [go_sem]); (try omega)); (try simp [go_sem] at k1 k1f))
          | (go_at_call 106; refine (names_spec ⟨_, _, _, p⟩ _).mono ?_; rintro e w2 ⟨rfl, hb2⟩; obtain ⟨m, mf, ml, me, mn, mx⟩ := aft hb2 (w1.heap.size) (by (try simp [go_sem]); (try omega)); (try simp [go_sem] at m mf)))
        refine wp_loop_rounds 4 ?_
        repeat (rw [rounds_succ]; go_wp2)
        go_ret
        exact ⟨ret_eq (by clear hb hb2 fin i0 i1 i2; (try simp only [bne_iff_ne] at *); simp [Price.holds, Price.fits, *]), fin hb hb2⟩
end Go.Proofs.Ytblmlpkjocbhpaa
