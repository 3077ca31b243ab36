/- The small functions of package price. No condition. -/
import Derived.Test.YtkailkfiakagfaaGreatProg
import Derived.Test.YtkailkfiakagfaaGreatMem
import Derived.Test.YtkailkfiakagfaaGreatPriceSpec
import Derived.Outline
import Derived.BigQuiet
import Derived.Deep.QuietTactic
set_option linter.unusedVariables false
set_option linter.unusedSimpArgs false
namespace Go.Proofs.YtkailkfiakagfaaGreat
open Go.RowKit

def pieceE : Enc Piece := ⟨fun p => [iv p.b, iv p.s, iv p.e], 3, fun _ => rfl, fun _ u h => by simp at h; rcases h with rfl | rfl | rfl <;> rfl, by decide⟩
def ruleE : Enc Rule := ⟨fun p => [iv p.b, iv p.s, iv p.e, iv p.p], 4, fun _ => rfl, fun _ u h => by simp at h; rcases h with rfl | rfl | rfl | rfl <;> rfl, by decide⟩
abbrev Piece.v (p : Piece) : Value := .agg #[iv p.b, iv p.s, iv p.e]
abbrev Rule.v (r : Rule) : Value := .agg #[iv r.b, iv r.s, iv r.e, iv r.p]

theorem tyInts : SlTy Tryz.prog 22 3 1 := slTy_of (z := iv 0) (bytes := 8) Tryz.underlying22 (by kernel_rfl) rfl (by decide)

theorem Sl.getR {w : World} {A : Option Addr} {xs : List Rule} {k : Nat} (h : Sl ruleE w A xs) (hk : k < xs.length) :
    ∃ b off, A = some ⟨b, off, none⟩ ∧ b < w.heap.size ∧ w.cell? ⟨b, off + k * 4, none⟩ = some (iv xs[k].b) ∧ w.cell? ⟨b, off + k * 4 + 1, none⟩ = some (iv xs[k].s) ∧
      w.cell? ⟨b, off + k * 4 + 2, none⟩ = some (iv xs[k].e) ∧ w.cell? ⟨b, off + k * 4 + 3, none⟩ = some (iv xs[k].p) := by
  obtain ⟨b, off, hA, hb, hc⟩ := h.get hk
  exact ⟨b, off, hA, hb, hc 0 _ rfl, hc 1 _ rfl, hc 2 _ rfl, hc 3 _ rfl⟩
theorem Sl.getP {w : World} {A : Option Addr} {xs : List Piece} {k : Nat} (h : Sl pieceE w A xs) (hk : k < xs.length) :
    ∃ b off, A = some ⟨b, off, none⟩ ∧ b < w.heap.size ∧ w.cell? ⟨b, off + k * 3, none⟩ = some (iv xs[k].b) ∧ w.cell? ⟨b, off + k * 3 + 1, none⟩ = some (iv xs[k].s) ∧
      w.cell? ⟨b, off + k * 3 + 2, none⟩ = some (iv xs[k].e) := by
  obtain ⟨b, off, hA, hb, hc⟩ := h.get hk
  exact ⟨b, off, hA, hb, hc 0 _ rfl, hc 1 _ rfl, hc 2 _ rfl⟩

theorem Sl.atR {w : World} {A : Option Addr} {xs : List Rule} {k : Nat} (h : Sl ruleE w A xs) (hk : k < xs.length) :
    ∃ b off x, A = some ⟨b, off, none⟩ ∧ b < w.heap.size ∧ xs[k]? = some x ∧ w.cell? ⟨b, off + k * 4, none⟩ = some (iv x.b) ∧ w.cell? ⟨b, off + k * 4 + 1, none⟩ = some (iv x.s) ∧
      w.cell? ⟨b, off + k * 4 + 2, none⟩ = some (iv x.e) ∧ w.cell? ⟨b, off + k * 4 + 3, none⟩ = some (iv x.p) := by
  obtain ⟨b, off, x, hA, hb, hx, hc⟩ := h.at_ hk
  exact ⟨b, off, x, hA, hb, hx, hc 0 _ rfl, hc 1 _ rfl, hc 2 _ rfl, hc 3 _ rfl⟩
theorem Sl.atP {w : World} {A : Option Addr} {xs : List Piece} {k : Nat} (h : Sl pieceE w A xs) (hk : k < xs.length) :
    ∃ b off x, A = some ⟨b, off, none⟩ ∧ b < w.heap.size ∧ xs[k]? = some x ∧ w.cell? ⟨b, off + k * 3, none⟩ = some (iv x.b) ∧ w.cell? ⟨b, off + k * 3 + 1, none⟩ = some (iv x.s) ∧
      w.cell? ⟨b, off + k * 3 + 2, none⟩ = some (iv x.e) := by
  obtain ⟨b, off, x, hA, hb, hx, hc⟩ := h.at_ hk
  exact ⟨b, off, x, hA, hb, hx, hc 0 _ rfl, hc 1 _ rfl, hc 2 _ rfl⟩

theorem in_spec (n lo hi : Int) (w : World) : Calls Tryz.prog 60 #[iv n, iv lo, iv hi] w
    fun e w' => e = .returned (.bool (Price.inB n lo hi)) ∧ w = w' := by
  by_cases h1 : lo ≤ n <;> by_cases h2 : n ≤ hi
  all_goals
    go_enter Tryz.func60, Tryz.ntmps60
    go_wp2
    go_ret
    exact ⟨by simp [Price.inB, *], rfl⟩

theorem names_spec (r : Rule) (w : World) : Calls Tryz.prog 59 #[r.v] w
    fun e w' => e = .returned (.agg #[iv r.b, iv r.s, iv r.e]) ∧ Below w.heap.size w w' := by
  obtain ⟨a, b, c, p⟩ := r
  go_enter Tryz.func59, Tryz.ntmps59
  go_wp2
  exact bodyPost_ret (v := .agg #[iv a, iv b, iv c]) (by simp [results, go_sem]) rfl ⟨rfl, ((Below.refl _ _).alloc (Nat.le_refl _) _).alloc (by simp) _⟩

theorem has_spec (r : Piece) (w : World) : Calls Tryz.prog 94 #[r.v] w
    fun e w' => e = .returned (.agg #[iv r.b, iv r.s, iv r.e]) ∧ Below w.heap.size w w' := by
  obtain ⟨a, b, c⟩ := r
  go_enter Tryz.func94, Tryz.ntmps94
  go_wp2
  exact bodyPost_ret (v := .agg #[iv a, iv b, iv c]) (by simp [results, go_sem]) rfl ⟨rfl, ((Below.refl _ _).alloc (Nat.le_refl _) _).alloc (by simp) _⟩

theorem greatest_spec (A : Option Addr) (xs : List Int) (c : Nat) (w : World) (hm : xs.length ≤ big) (hs : Sl intE w A xs) :
    Calls Tryz.prog 96 #[.slice A xs.length c] w fun e w' => e = .returned (iv (Price.greatest xs)) ∧ w = w' := by
  unfold big at hm
  go_enter Tryz.func96, Tryz.ntmps96
  go_wp2
  go_loop [3, 5, 8] (fun g m i => ∃ (k : Nat) (a : Int), k ≤ xs.length ∧ i = iv k ∧ g = iv a ∧ Hid ((xs.drop k).foldl max a = Price.greatest xs)) (fun _ _ i => xs.length - (intOf i).toNat)
  case atStart => exact ⟨0, 0, by omega, rfl, rfl, rfl⟩
  case round =>
    obtain ⟨k, a, hk, rfl, rfl, hf⟩ := hrel
    by_cases hlt : k < xs.length
    · obtain ⟨b, off, rfl, hb, hc⟩ := hs.getI hlt
      go_wp2
      go_round
      case rel => exact ⟨k + 1, _, by omega, by go_num, rfl, by have := hf.out; rw [drop_step hlt] at this; show _ = _; (rw [← this, List.foldl_cons, Int.max_def]) <;> (congr 1 <;> (split <;> split <;> omega))⟩
      case measure => simp [intOf]; omega
    · go_wp2
      go_ret
      exact ⟨by have := hf.out; rw [drop_end hlt] at this; exact ret_eq (by rw [← this]; rfl), rfl⟩
theorem idx0 (a b c : Int) (w : World) : (Instr.index 104 (.agg #[iv a, iv b, iv c]) (.int .i64 0)).run Tryz.prog w = .ok (iv a) w := by kernel_rfl
theorem idx1 (a b c : Int) (w : World) : (Instr.index 104 (.agg #[iv a, iv b, iv c]) (.int .i64 1)).run Tryz.prog w = .ok (iv b) w := by kernel_rfl
theorem idx2 (a b c : Int) (w : World) : (Instr.index 104 (.agg #[iv a, iv b, iv c]) (.int .i64 2)).run Tryz.prog w = .ok (iv c) w := by kernel_rfl
theorem is_spec (p : Piece) (w : World) : Calls Tryz.prog 69 #[p.v] w
    fun e w' => e = .returned (.bool (Price.isP p)) ∧ Below w.heap.size w w' := by
  obtain ⟨a, b, c⟩ := p
  cases h1 : Price.inB a 0 3 <;> cases h2 : Price.inB b 0 4 <;> cases h3 : Price.inB c 0 2
  all_goals
    go_enter Tryz.func69, Tryz.ntmps69
    go_wp2_with (go_at_call 60; refine (in_spec _ _ _ _).mono ?_; rintro e w' ⟨rfl, rfl⟩)
    go_ret
    exact ⟨ret_eq (by simp [Price.isP, h1, h2, h3]), (Below.refl _ _).alloc (Nat.le_refl _) _⟩
theorem allowed_spec (p : Rule) (w : World) : Calls Tryz.prog 58 #[p.v] w
    fun e w' => e = .returned (.bool (Price.allowed p)) ∧ Below w.heap.size w w' := by
  obtain ⟨a, b, c, d⟩ := p
  cases h1 : Price.inB a (-1) 3 <;> cases h2 : Price.inB b (-1) 4 <;> cases h3 : Price.inB c (-1) 2 <;> cases h4 : Price.inB d 0 500
  all_goals
    go_enter Tryz.func58, Tryz.ntmps58
    go_wp2_with (go_at_call 60; refine (in_spec _ _ _ _).mono ?_; rintro e w' ⟨rfl, rfl⟩)
    go_ret
    exact ⟨ret_eq (by simp [Price.allowed, h1, h2, h3, h4]), (Below.refl _ _).alloc (Nat.le_refl _) _⟩
set_option maxRecDepth 100000 in
theorem many_spec (r : Rule) (w : World) : Calls Tryz.prog 95 #[r.v] w
    fun e w' => e = .returned (iv (Price.many r)) ∧ Below w.heap.size w w' := by
  obtain ⟨a, b, c, p⟩ := r
  have i0 := idx0; have i1 := idx1; have i2 := idx2
  by_cases h1 : a = -1 <;> by_cases h2 : b = -1 <;> by_cases h3 : c = -1 <;> (try subst h1) <;> (try subst h2) <;> (try subst h3)
  all_goals
    go_enter Tryz.func95, Tryz.ntmps95
    go_wp2_with (go_at_call 59; refine (names_spec ⟨_, _, _, p⟩ _).mono ?_; rintro e w1 ⟨rfl, hb⟩)
    refine wp_loop_rounds 4 ?_
    rw [rounds_succ]; go_wp2
    rw [rounds_succ]; go_wp2
    rw [rounds_succ]; go_wp2
    rw [rounds_succ]; go_wp2
    go_ret
    exact ⟨ret_eq (by simp [Price.many, Price.one, *]), (((Below.refl _ _).alloc (Nat.le_refl _) _).trans (hb.mono (by simp)))⟩
end Go.Proofs.YtkailkfiakagfaaGreat
-- Does a rule hold for a piece. No condition.
namespace Go.Proofs.YtkailkfiakagfaaGreat
open Go.RowKit
theorem three (a x : Int) (P : Prop) (h1 : a = -1 → P) (h2 : a = x → (a != -1) = true → P) (h3 : (a != -1) = true → (a != x) = true → P) : P := by
  by_cases h : a = -1
  · exact h1 h
  · by_cases h' : a = x
    · exact h2 h' (by simpa using h)
    · exact h3 (by simpa using h) (by simpa using h')
set_option maxRecDepth 100000 in
set_option maxHeartbeats 4000000 in
theorem holds_spec (r : Rule) (q : Piece) (w : World) : Calls Tryz.prog 70 #[r.v, q.v] w
    fun e w' => e = .returned (.bool (Price.holds r q)) ∧ Below w.heap.size w w' := by
  obtain ⟨a, b, c, p⟩ := r
  obtain ⟨x, y, z⟩ := q
  have i0 := idx0; have i1 := idx1; have i2 := idx2
  have fin : ∀ {w1 w2 : World} {X Y Z : Obj}, Below ((w.alloc X).alloc Y).heap.size ((w.alloc X).alloc Y) w1 → Below (w1.alloc Z).heap.size (w1.alloc Z) w2 → Below w.heap.size w w2 := fun {w1 w2 X Y Z} h1 h2 => by
    have hz := h1.size
    simp only [World.size_alloc] at hz
    exact ((((Below.refl _ _).alloc (Nat.le_refl _) X).alloc (by simp) Y).trans (h1.mono (by simp; omega))).trans (((Below.refl _ _).alloc (by omega) Z).trans (h2.mono (by simp; omega)))
  refine three a x _ (fun h1 => ?_) (fun h1 g1 => ?_) (fun g1 h1 => ?_)
  rotate_right
  · go_enter Tryz.func70, Tryz.ntmps70
    go_wp2_with (first
      | (go_at_call 94; refine (has_spec ⟨_, _, _⟩ _).mono ?_; rintro e w1 ⟨rfl, hb⟩; obtain ⟨k0, k0f, k0l, k0e, k0n, k0x⟩ := aft hb (w.heap.size) (by (try simp [go_sem]); (try omega)); (try simp [go_sem] at k0 k0f); obtain ⟨k1, k1f, k1l, k1e, k1n, k1x⟩ := aft hb (w.heap.size+1) (by (try simp [go_sem]); (try omega)); (try simp [go_sem] at k1 k1f))
      | (go_at_call 59; refine (names_spec ⟨_, _, _, p⟩ _).mono ?_; rintro e w2 ⟨rfl, hb2⟩; obtain ⟨m, mf, ml, me, mn, mx⟩ := aft hb2 (w1.heap.size) (by (try simp [go_sem]); (try omega)); (try simp [go_sem] at m mf)))
    refine wp_loop_rounds 4 ?_
    repeat (rw [rounds_succ]; go_wp2)
    go_ret
    exact ⟨ret_eq (by clear hb hb2 fin i0 i1 i2; (try simp only [bne_iff_ne] at *); simp [Price.holds, Price.fits, *]), fin hb hb2⟩
  all_goals
    subst h1
    refine three b y _ (fun h2 => ?_) (fun h2 g2 => ?_) (fun g2 h2 => ?_)
    rotate_right
    · go_enter Tryz.func70, Tryz.ntmps70
      go_wp2_with (first
        | (go_at_call 94; refine (has_spec ⟨_, _, _⟩ _).mono ?_; rintro e w1 ⟨rfl, hb⟩; obtain ⟨k0, k0f, k0l, k0e, k0n, k0x⟩ := aft hb (w.heap.size) (by (try simp [go_sem]); (try omega)); (try simp [go_sem] at k0 k0f); obtain ⟨k1, k1f, k1l, k1e, k1n, k1x⟩ := aft hb (w.heap.size+1) (by (try simp [go_sem]); (try omega)); (try simp [go_sem] at k1 k1f))
        | (go_at_call 59; refine (names_spec ⟨_, _, _, p⟩ _).mono ?_; rintro e w2 ⟨rfl, hb2⟩; obtain ⟨m, mf, ml, me, mn, mx⟩ := aft hb2 (w1.heap.size) (by (try simp [go_sem]); (try omega)); (try simp [go_sem] at m mf)))
      refine wp_loop_rounds 4 ?_
      repeat (rw [rounds_succ]; go_wp2)
      go_ret
      exact ⟨ret_eq (by clear hb hb2 fin i0 i1 i2; (try simp only [bne_iff_ne] at *); simp [Price.holds, Price.fits, *]), fin hb hb2⟩
    all_goals
      subst h2
      refine three c z _ (fun h3 => ?_) (fun h3 g3 => ?_) (fun g3 h3 => ?_)
      rotate_right
      · go_enter Tryz.func70, Tryz.ntmps70
        go_wp2_with (first
          | (go_at_call 94; refine (has_spec ⟨_, _, _⟩ _).mono ?_; rintro e w1 ⟨rfl, hb⟩; obtain ⟨k0, k0f, k0l, k0e, k0n, k0x⟩ := aft hb (w.heap.size) (by (try simp [go_sem]); (try omega)); (try simp [go_sem] at k0 k0f); obtain ⟨k1, k1f, k1l, k1e, k1n, k1x⟩ := aft hb (w.heap.size+1) (by (try simp [go_sem]); (try omega)); (try simp [go_sem] at k1 k1f))
          | (go_at_call 59; refine (names_spec ⟨_, _, _, p⟩ _).mono ?_; rintro e w2 ⟨rfl, hb2⟩; obtain ⟨m, mf, ml, me, mn, mx⟩ := aft hb2 (w1.heap.size) (by (try simp [go_sem]); (try omega)); (try simp [go_sem] at m mf)))
        refine wp_loop_rounds 4 ?_
        repeat (rw [rounds_succ]; go_wp2)
        go_ret
        exact ⟨ret_eq (by clear hb hb2 fin i0 i1 i2; (try simp only [bne_iff_ne] at *); simp [Price.holds, Price.fits, *]), fin hb hb2⟩
      all_goals
        subst h3
        go_enter Tryz.func70, Tryz.ntmps70
        go_wp2_with (first
          | (go_at_call 94; refine (has_spec ⟨_, _, _⟩ _).mono ?_; rintro e w1 ⟨rfl, hb⟩; obtain ⟨k0, k0f, k0l, k0e, k0n, k0x⟩ := aft hb (w.heap.size) (by (try simp [go_sem]); (try omega)); (try simp [go_sem] at k0 k0f); obtain ⟨k1, k1f, k1l, k1e, k1n, k1x⟩ := aft hb (w.heap.size+1) (by (try simp [go_sem]); (try omega)); (try simp [go_sem] at k1 k1f))
          | (go_at_call 59; refine (names_spec ⟨_, _, _, p⟩ _).mono ?_; rintro e w2 ⟨rfl, hb2⟩; obtain ⟨m, mf, ml, me, mn, mx⟩ := aft hb2 (w1.heap.size) (by (try simp [go_sem]); (try omega)); (try simp [go_sem] at m mf)))
        refine wp_loop_rounds 4 ?_
        repeat (rw [rounds_succ]; go_wp2)
        go_ret
        exact ⟨ret_eq (by clear hb hb2 fin i0 i1 i2; (try simp only [bne_iff_ne] at *); simp [Price.holds, Price.fits, *]), fin hb hb2⟩
end Go.Proofs.YtkailkfiakagfaaGreat
-- The rules that count for a piece. Condition: lengths are below a great bound.
namespace Go.Proofs.YtkailkfiakagfaaGreat
open Go.RowKit
set_option maxRecDepth 100000 in
set_option maxHeartbeats 4000000 in
theorem counts_spec (A : Option Addr) (l : List Rule) (c : Nat) (q : Piece) (w : World) (hm : l.length ≤ big) (hs : Sl ruleE w A l) :
    Calls Tryz.prog 71 #[.slice A l.length c, q.v] w
    fun e w' => ∃ v, e = .returned v ∧ Own intE 3 w.heap.size w' v (Price.counts l q) ∧ Below w.heap.size w w' := by
  obtain ⟨x, y, z⟩ := q
  unfold big at hm
  go_enter Tryz.func71, Tryz.ntmps71
  go_wp2
  go_loopw [5, 14] (fun v i wr => ∃ (k : Nat) (acc : List Int), k ≤ l.length ∧ i = iv k ∧ Own intE 3 (w.heap.size + 1) wr v acc ∧ Hid (acc ++ Price.held (l.drop k) ⟨x, y, z⟩ = Price.held l ⟨x, y, z⟩) ∧ acc.length ≤ k ∧
      Below (w.heap.size + 1) (w.alloc (.cells #[iv x, iv y, iv z] 26)) wr) (fun _ i _ => l.length - (intOf i).toNat)
  case atStart => exact ⟨0, [], by omega, rfl, Own.nil, rfl, by simp, Below.refl _ _⟩
  case round =>
    obtain ⟨k, acc, hk, rfl, hown, hf, hacc, hbw⟩ := hrel
    obtain ⟨k0, k0f, k0l, k0e, k0n, k0x⟩ := aft hbw (w.heap.size) (by (try simp [go_sem]); (try omega)); (try simp [go_sem] at k0 k0f)
    have hs' := (hs.alloc (.cells #[iv x, iv y, iv z] 26)).below (by simpa using hbw)
    by_cases hlt : k < l.length
    · obtain ⟨b, off, rfl, hb, hc0, hc1, hc2, hc3⟩ := hs'.getR hlt
      have hd : Price.held (l.drop k) ⟨x, y, z⟩ = if Price.holds l[k] ⟨x, y, z⟩ then Price.many l[k] :: Price.held (l.drop (k + 1)) ⟨x, y, z⟩ else Price.held (l.drop (k + 1)) ⟨x, y, z⟩ := by
        rw [drop_step hlt]; unfold Price.held; rw [List.filter_cons]; split <;> rfl
      have Hd := Lib.hid hd
      clear hd
      cases hh : Price.holds l[k] ⟨x, y, z⟩
      · go_wp2_with (go_at_call 70; refine (holds_spec l[k] ⟨x, y, z⟩ _).mono ?_; rintro e w1 ⟨rfl, hb1⟩)
        go_roundw
        case rel => exact ⟨k + 1, acc, by omega, by go_num, hown.below hb1.of_alloc, by rw [Hd.out, hh] at hf; exact hf, by omega, hbw.next hb1.of_alloc (by simp)⟩
        case measure => simp [intOf]; omega
      · go_wp2_with (first
          | (go_at_call 70; refine (holds_spec l[k] ⟨x, y, z⟩ _).mono ?_; rintro e w1 ⟨rfl, hb1⟩; obtain ⟨m0, m0f, m0l, m0e, m0n, m0x⟩ := aft hb1 (wr.heap.size) (by (try simp [go_sem]); (try omega)); (try simp [go_sem] at m0 m0f))
          | (go_at_call 95; refine (many_spec l[k] _).mono ?_; rintro e w2 ⟨rfl, hb2⟩)
          | (at_builtin; refine wpApp1 intE tyInts rfl _ _ rfl (((hown.below hb1.of_alloc).below hb2)) (Price.many l[k]) rfl rfl rfl (by have := hbw.size; have := hb1.size; have := hb2.size; simp at *; omega) (by unfold big; omega) ?_; intro v' w3 hown3 hb3 _))
        go_roundw
        case rel => exact ⟨k + 1, acc ++ [Price.many l[k]], by omega, by go_num, hown3, by rw [Hd.out, hh] at hf; simpa using hf, by simp; omega, (((hbw.next hb1.of_alloc (by simp)).next hb2 (by simp)).trans hb3)⟩
        case measure => simp [intOf]; omega
    · have he : acc = Price.held l ⟨x, y, z⟩ := by have := hf.out; rw [drop_end hlt] at this; simpa [Price.held] using this
      have hl : (Price.held l ⟨x, y, z⟩).length ≤ l.length := by rw [← he]; omega
      rw [he] at hown
      clear he hf hacc
      obtain ⟨A1, c1, rfl, _, _⟩ := hown.form
      have hs1 := hown.sl
      go_wp2_with (go_at_call 96; refine (greatest_spec A1 (Price.held l ⟨x, y, z⟩) c1 wr (by unfold big; omega) hs1).mono ?_; rintro e w1 ⟨rfl, rfl⟩)
      obtain ⟨most, hmost⟩ : ∃ most, most = Price.greatest (Price.held l ⟨x, y, z⟩) := ⟨_, rfl⟩
      rw [← hmost]
      have Hmost := Lib.hid hmost
      clear hmost hs1 hown k0f k0x k0e k0n
      obtain ⟨wo, rfl⟩ : ∃ wo : World, wo = wr := ⟨_, rfl⟩
      go_loopw [9, 31] (fun v i w2 => ∃ (k : Nat) (acc : List Int), k ≤ l.length ∧ i = iv k ∧ Own intE 3 wo.heap.size w2 v acc ∧ Hid (acc ++ Price.countsFrom most ⟨x, y, z⟩ (l.drop k) k = Price.counts l ⟨x, y, z⟩) ∧ acc.length ≤ k ∧
        Below wo.heap.size wo w2) (fun _ i _ => l.length - (intOf i).toNat)
      case atStart => exact ⟨0, [], by omega, rfl, Own.nil, by rw [Hmost.out]; rfl, by simp, Below.refl _ _⟩
      case round =>
        obtain ⟨k, acc, hk, rfl, hown, hf, hacc, hb2⟩ := hrel
        obtain ⟨j0, j0f, j0l, j0e, j0n, j0x⟩ := aft hb2 (w.heap.size) (by (try simp [go_sem]); (try omega)); (try simp [go_sem] at j0 j0f)
        have hs2 := hs'.below hb2
        by_cases hlt : k < l.length
        · obtain ⟨b, off, rfl, hb, hc0, hc1, hc2, hc3⟩ := hs2.getR hlt
          have hd : Price.countsFrom most ⟨x, y, z⟩ (l.drop k) k = if Price.holds l[k] ⟨x, y, z⟩ && decide (Price.many l[k] = most) then (k : Int) :: Price.countsFrom most ⟨x, y, z⟩ (l.drop (k + 1)) (k + 1) else Price.countsFrom most ⟨x, y, z⟩ (l.drop (k + 1)) (k + 1) := by
            rw [drop_step hlt]; rfl
          have Hd := Lib.hid hd
          clear hd
          cases hh : Price.holds l[k] ⟨x, y, z⟩
          · go_wp2_with (go_at_call 70; refine (holds_spec l[k] ⟨x, y, z⟩ _).mono ?_; rintro e w3 ⟨rfl, hb3⟩)
            go_roundw
            case rel => exact ⟨k + 1, acc, by omega, by go_num, hown.below hb3.of_alloc, by rw [Hd.out, hh] at hf; exact hf, by omega, hb2.next hb3.of_alloc (by simp)⟩
            case measure => simp [intOf]; omega
          · cases hq : (Price.many l[k] == most)
            · go_wp2_with (first
                | (go_at_call 70; refine (holds_spec l[k] ⟨x, y, z⟩ _).mono ?_; rintro e w3 ⟨rfl, hb3⟩; obtain ⟨m0, m0f, m0l, m0e, m0n, m0x⟩ := aft hb3 (wr.heap.size) (by (try simp [go_sem]); (try omega)); (try simp [go_sem] at m0 m0f))
                | (go_at_call 95; refine (many_spec l[k] _).mono ?_; rintro e w4 ⟨rfl, hb4⟩))
              go_roundw
              case rel => exact ⟨k + 1, acc, by omega, by go_num, (hown.below hb3.of_alloc).below hb4, by rw [Hd.out, hh] at hf; simpa [by simpa using hq] using hf, by omega, (hb2.next hb3.of_alloc (by simp)).next hb4 (by simp)⟩
              case measure => simp [intOf]; omega
            · go_wp2_with (first
                | (go_at_call 70; refine (holds_spec l[k] ⟨x, y, z⟩ _).mono ?_; rintro e w3 ⟨rfl, hb3⟩; obtain ⟨m0, m0f, m0l, m0e, m0n, m0x⟩ := aft hb3 (wr.heap.size) (by (try simp [go_sem]); (try omega)); (try simp [go_sem] at m0 m0f))
                | (go_at_call 95; refine (many_spec l[k] _).mono ?_; rintro e w4 ⟨rfl, hb4⟩)
                | (at_builtin; refine wpApp1 intE tyInts rfl _ _ rfl (((hown.below hb3.of_alloc).below hb4)) (k : Int) rfl rfl rfl (by have := hb2.size; have := hb3.size; have := hb4.size; simp at *; omega) (by unfold big; omega) ?_; intro v' w5 hown5 hb5 _))
              go_roundw
              case rel => exact ⟨k + 1, acc ++ [(k : Int)], by omega, by go_num, hown5, by rw [Hd.out, hh] at hf; simpa [by simpa using hq] using hf, by simp; omega, (((hb2.next hb3.of_alloc (by simp)).next hb4 (by simp)).trans hb5)⟩
              case measure => simp [intOf]; omega
        · go_wp2
          go_ret
          have he : acc = Price.counts l ⟨x, y, z⟩ := by have := hf.out; rw [drop_end hlt] at this; simpa [Price.countsFrom] using this
          rw [he] at hown
          exact ⟨_, rfl, hown.base (Nat.le_of_lt k0l), (((Below.refl _ _).alloc (Nat.le_refl _) _).trans (hbw.mono (by omega))).next hb2 (by omega)⟩
end Go.Proofs.YtkailkfiakagfaaGreat
