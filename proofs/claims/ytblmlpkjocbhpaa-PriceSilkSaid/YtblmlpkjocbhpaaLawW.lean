/- What a rule names of a piece, as the statements reckon it. No condition. -/
import Derived.Test.YtblmlpkjocbhpaaPriceA
import Derived.Test.YtblmlpkjocbhpaaLawP
import Derived.Test.YtblmlpkjocbhpaaMem2
set_option linter.unusedVariables false
set_option linter.unusedSimpArgs false
namespace Go.Proofs.Ytblmlpkjocbhpaa
open Go.RowKit
set_option maxRecDepth 100000
theorem below_alloc' {B : Nat} {w w' : World} {o : Obj} (h : Below B w w') (hB : B ≤ w'.heap.size) : Below B w (w'.alloc o) := h.alloc hB o
set_option maxHeartbeats 4000000 in
theorem lnames_spec (r : Rule) (q : Piece) (w : World) : Calls Try.prog 73 #[r.v, q.v] w
    fun e w' => e = .returned (iv (Price.lawNames q r)) ∧ Below w.heap.size w w' := by
  obtain ⟨a, b, c, p⟩ := r
  obtain ⟨x, y, z⟩ := q
  refine three a x _ (fun h1 => ?_) (fun h1 g1 => ?_) (fun g1 h1 => ?_)
  rotate_right
  · go_enter Try.func73, Try.ntmps73
    go_wp2
    refine wp_loop_rounds 4 ?_
    repeat (rw [rounds_succ]; go_wp2)
    go_ret
    exact ⟨ret_eq (by (try simp only [bne_iff_ne] at *); simp [Price.lawNames, Price.holds, Price.fits, Price.many, Price.one, *]), by (repeat (refine below_alloc' ?_ (by first | exact Nat.le_refl _ | (simp only [World.size_alloc]; omega)))); exact Below.refl _ _⟩
  all_goals
    subst h1
    refine three b y _ (fun h2 => ?_) (fun h2 g2 => ?_) (fun g2 h2 => ?_)
    rotate_right
    · go_enter Try.func73, Try.ntmps73
      go_wp2
      refine wp_loop_rounds 4 ?_
      repeat (rw [rounds_succ]; go_wp2)
      go_ret
      exact ⟨ret_eq (by (try simp only [bne_iff_ne] at *); simp [Price.lawNames, Price.holds, Price.fits, Price.many, Price.one, *]), by (repeat (refine below_alloc' ?_ (by first | exact Nat.le_refl _ | (simp only [World.size_alloc]; omega)))); exact Below.refl _ _⟩
    all_goals
      subst h2
      refine three c z _ (fun h3 => ?_) (fun h3 g3 => ?_) (fun g3 h3 => ?_)
      rotate_right
      · go_enter Try.func73, Try.ntmps73
        go_wp2
        refine wp_loop_rounds 4 ?_
        repeat (rw [rounds_succ]; go_wp2)
        go_ret
        exact ⟨ret_eq (by (try simp only [bne_iff_ne] at *); simp [Price.lawNames, Price.holds, Price.fits, Price.many, Price.one, *]), by (repeat (refine below_alloc' ?_ (by first | exact Nat.le_refl _ | (simp only [World.size_alloc]; omega)))); exact Below.refl _ _⟩
      all_goals
        subst h3
        go_enter Try.func73, Try.ntmps73
        go_wp2
        refine wp_loop_rounds 4 ?_
        repeat (rw [rounds_succ]; go_wp2)
        go_ret
        exact ⟨ret_eq (by (try simp only [bne_iff_ne] at *); simp [Price.lawNames, Price.holds, Price.fits, Price.many, Price.one, *]), by (repeat (refine below_alloc' ?_ (by first | exact Nat.le_refl _ | (simp only [World.size_alloc]; omega)))); exact Below.refl _ _⟩
end Go.Proofs.Ytblmlpkjocbhpaa
-- The price of a piece, as the statements reckon it. Condition: lengths are below a great bound.
namespace Go.Proofs.Ytblmlpkjocbhpaa
open Go.RowKit
set_option maxRecDepth 100000

def Price.stepGo (q : Piece) (l : List Rule) (st : Int × Int × Int) : Int × Int × Int := l.foldl (Price.lawStep q) st
set_option maxHeartbeats 1000000 in
theorem lpriced_spec (A : Option Addr) (l : List Rule) (c : Nat) (q : Piece) (w : World) (hm : l.length ≤ big) (hs : Sl ruleE w A l) :
    Calls Try.prog 60 #[.slice A l.length c, q.v] w
    fun e w' => e = .returned (.tuple #[iv (Price.lawPriced l q).1, iv (Price.lawPriced l q).2]) ∧ Below w.heap.size w w' := by
  obtain ⟨x, y, z⟩ := q
  unfold big at hm
  go_enter Try.func60, Try.ntmps60
  go_wp2
  have hw0 : Below w.heap.size w (w.alloc (.cells #[iv x, iv y, iv z] 42)) := (Below.refl _ _).alloc (Nat.le_refl _) _
  have hq0 : Blk (w.alloc (.cells #[iv x, iv y, iv z] 42)) w.heap.size 42 #[iv x, iv y, iv z] := Blk.new _ _ _
  generalize w.alloc (.cells #[iv x, iv y, iv z] 42) = w0 at *
  go_loopw [6, 7, 8, 14] (fun mo pr er i wr => ∃ (k : Nat) (M n e : Int), k ≤ l.length ∧ i = iv k ∧ mo = iv M ∧ pr = iv n ∧ er = iv e ∧ Below w0.heap.size w0 wr ∧ Hid (Price.stepGo ⟨x, y, z⟩ (l.drop k) (M, n, e) = Price.stepGo ⟨x, y, z⟩ l (-1, 0, 6))) (fun _ _ _ i _ => l.length - (intOf i).toNat)
  case atStart => exact ⟨0, -1, 0, 6, by omega, rfl, rfl, rfl, rfl, Below.refl _ _, rfl⟩
  case round =>
    obtain ⟨k, M, n, e, hk, rfl, rfl, rfl, rfl, hbw, hf⟩ := hrel
    have hq := hq0.under hbw
    obtain ⟨q0, q1, q2, q3, q4, q5⟩ := hq.facts
    have hs' := (hs.below hw0).below hbw
    have hbb := hw0.trans (hbw.mono (Nat.le_of_lt hq0.lt))
    by_cases hlt : k < l.length
    · obtain ⟨b, off, r, rfl, hb, hx, hc0, hc1, hc2, hc3⟩ := hs'.atR hlt
      have hf' := hf.out
      rw [drop_at hx] at hf'
      simp only [Price.stepGo, List.foldl_cons] at hf'
      obtain ⟨K, hK⟩ : ∃ K, K = Price.lawNames ⟨x, y, z⟩ r := ⟨_, rfl⟩
      simp only [Price.lawStep, ← hK] at hf'
      have HN : Hid (∀ w, Calls Try.prog 73 #[r.v, (⟨x, y, z⟩ : Piece).v] w fun e w' => e = .returned (iv K) ∧ Below w.heap.size w w') := fun w => by rw [hK]; exact lnames_spec r ⟨x, y, z⟩ w
      have HF := Lib.hid hf'
      have HX := Lib.hid hx
      clear hf hf' hK hx
      obtain ⟨ra, rb, rc, rp⟩ := r
      dsimp only at *
      by_cases h1 : M < K
      · go_wp2_with (go_at_call 73; refine (HN.out _).mono ?_; rintro e w1 ⟨rfl, hb1⟩; obtain ⟨k2, k2f, k2l, k2e, k2n, k2x⟩ := aft hb1 (wr.heap.size) (by (try simp [go_sem]); (try omega)); (try simp [go_sem] at k2 k2f))
        go_region
        go_wp2
        go_roundw
        case rel => exact ⟨k + 1, K, rp, 0, by omega, by go_num, rfl, rfl, rfl, (hbw.next hb1.of_alloc (Nat.le_refl _)).drew, by rw [if_pos h1] at HF; exact HF.out⟩
        case measure => simp [intOf]; omega
      · rw [if_neg h1] at HF
        by_cases h2 : 0 ≤ K
        · by_cases h3 : K = M
          · subst h3
            by_cases h4 : rp = n
            · subst h4
              rw [if_neg (fun h => h.2.2 rfl)] at HF
              go_wp2_with (go_at_call 73; refine (HN.out _).mono ?_; rintro e w1 ⟨rfl, hb1⟩; obtain ⟨k2, k2f, k2l, k2e, k2n, k2x⟩ := aft hb1 (wr.heap.size) (by (try simp [go_sem]); (try omega)); (try simp [go_sem] at k2 k2f))
              go_roundw
              case rel => exact ⟨k + 1, K, rp, e, by omega, by go_num, rfl, rfl, rfl, hbw.next hb1.of_alloc (Nat.le_refl _), HF.out⟩
              case measure => simp [intOf]; omega
            · rw [if_pos ⟨h2, rfl, h4⟩] at HF
              have h4' : (rp != n) = true := by simpa using h4
              go_wp2_with (go_at_call 73; refine (HN.out _).mono ?_; rintro e w1 ⟨rfl, hb1⟩; obtain ⟨k2, k2f, k2l, k2e, k2n, k2x⟩ := aft hb1 (wr.heap.size) (by (try simp [go_sem]); (try omega)); (try simp [go_sem] at k2 k2f))
              go_roundw
              case rel => exact ⟨k + 1, K, -1, 7, by omega, by go_num, rfl, rfl, rfl, hbw.next hb1.of_alloc (Nat.le_refl _), HF.out⟩
              case measure => simp [intOf]; omega
          · rw [if_neg (fun h => h3 h.2.1)] at HF
            have h3' : (K == M) = false := by simpa using h3
            go_wp2_with (go_at_call 73; refine (HN.out _).mono ?_; rintro e w1 ⟨rfl, hb1⟩; obtain ⟨k2, k2f, k2l, k2e, k2n, k2x⟩ := aft hb1 (wr.heap.size) (by (try simp [go_sem]); (try omega)); (try simp [go_sem] at k2 k2f))
            go_roundw
            case rel => exact ⟨k + 1, M, n, e, by omega, by go_num, rfl, rfl, rfl, hbw.next hb1.of_alloc (Nat.le_refl _), HF.out⟩
            case measure => simp [intOf]; omega
        · rw [if_neg (fun h => h2 h.1)] at HF
          go_wp2_with (go_at_call 73; refine (HN.out _).mono ?_; rintro e w1 ⟨rfl, hb1⟩; obtain ⟨k2, k2f, k2l, k2e, k2n, k2x⟩ := aft hb1 (wr.heap.size) (by (try simp [go_sem]); (try omega)); (try simp [go_sem] at k2 k2f))
          go_roundw
          case rel => exact ⟨k + 1, M, n, e, by omega, by go_num, rfl, rfl, rfl, hbw.next hb1.of_alloc (Nat.le_refl _), HF.out⟩
          case measure => simp [intOf]; omega
    · have hf' := hf.out
      rw [drop_end hlt] at hf'
      have HF := Lib.hid hf'
      clear hf hf'
      by_cases he : e = 0
      · subst he
        go_wp2
        go_ret2
        have hl : Price.lawPriced l ⟨x, y, z⟩ = (n, 0) := by
          have := HF.out
          unfold Price.stepGo at this
          rw [Price.lawPriced, ← this]; simp [Price.lawEnd]
        exact ⟨by rw [hl]; rfl, hbb⟩
      · have he' : (e != 0) = true := by simpa using he
        go_wp2
        go_ret2
        have hl : Price.lawPriced l ⟨x, y, z⟩ = (0, e) := by
          have := HF.out
          unfold Price.stepGo at this
          rw [Price.lawPriced, ← this]; simp [Price.lawEnd, he]
        exact ⟨by rw [hl]; rfl, hbb⟩
end Go.Proofs.Ytblmlpkjocbhpaa
