/- The rules that count for a piece. Condition: lengths are below a great bound. -/
import Derived.Test.YtblmlpkjocbhpaaPriceB
set_option linter.unusedVariables false
set_option linter.unusedSimpArgs false
namespace Go.Proofs.Ytblmlpkjocbhpaa
open Go.RowKit
set_option maxRecDepth 100000 in
set_option maxHeartbeats 4000000 in
theorem counts_spec (A : Option Addr) (l : List Rule) (c : Nat) (q : Piece) (w : World) (hm : l.length ≤ big) (hs : Sl ruleE w A l) :
    Calls Try.prog 109 #[.slice A l.length c, q.v] w
    fun e w' => ∃ v, e = .returned v ∧ Own intE 3 w.heap.size w' v (Price.counts l q) ∧ Below w.heap.size w w' := by
  obtain ⟨x, y, z⟩ := q
  unfold big at hm
  go_enter Try.func109, Try.ntmps109
  go_wp2
  go_loopw [5, 14] (fun v i wr => ∃ (k : Nat) (acc : List Int), k ≤ l.length ∧ i = iv k ∧ Own intE 3 (w.heap.size + 1) wr v acc ∧ Hid (acc ++ Price.held (l.drop k) ⟨x, y, z⟩ = Price.held l ⟨x, y, z⟩) ∧ acc.length ≤ k ∧
      Below (w.heap.size + 1) (w.alloc (.cells #[iv x, iv y, iv z] 42)) wr) (fun _ i _ => l.length - (intOf i).toNat)
  case atStart => exact ⟨0, [], by omega, rfl, Own.nil, rfl, by simp, Below.refl _ _⟩
  case round =>
    obtain ⟨k, acc, hk, rfl, hown, hf, hacc, hbw⟩ := hrel
    obtain ⟨k0, k0f, k0l, k0e, k0n, k0x⟩ := aft hbw (w.heap.size) (by (try simp [go_sem]); (try omega)); (try simp [go_sem] at k0 k0f)
    have hs' := (hs.alloc (.cells #[iv x, iv y, iv z] 42)).below (by simpa using hbw)
    by_cases hlt : k < l.length
    · obtain ⟨b, off, rfl, hb, hc0, hc1, hc2, hc3⟩ := hs'.getR hlt
      have hd : Price.held (l.drop k) ⟨x, y, z⟩ = if Price.holds l[k] ⟨x, y, z⟩ then Price.many l[k] :: Price.held (l.drop (k + 1)) ⟨x, y, z⟩ else Price.held (l.drop (k + 1)) ⟨x, y, z⟩ := by
        rw [drop_step hlt]; unfold Price.held; rw [List.filter_cons]; split <;> rfl
      have Hd := Lib.hid hd
      clear hd
      cases hh : Price.holds l[k] ⟨x, y, z⟩
      · go_wp2_with (go_at_call 108; refine (holds_spec l[k] ⟨x, y, z⟩ _).mono ?_; rintro e w1 ⟨rfl, hb1⟩)
        go_roundw
        case rel => exact ⟨k + 1, acc, by omega, by go_num, hown.below hb1.of_alloc, by rw [Hd.out, hh] at hf; exact hf, by omega, hbw.next hb1.of_alloc (by simp)⟩
        case measure => simp [intOf]; omega
      · go_wp2_with (first
          | (go_at_call 108; refine (holds_spec l[k] ⟨x, y, z⟩ _).mono ?_; rintro e w1 ⟨rfl, hb1⟩; obtain ⟨m0, m0f, m0l, m0e, m0n, m0x⟩ := aft hb1 (wr.heap.size) (by (try simp [go_sem]); (try omega)); (try simp [go_sem] at m0 m0f))
          | (go_at_call 137; refine (many_spec l[k] _).mono ?_; rintro e w2 ⟨rfl, hb2⟩)
          | (at_builtin; refine wpApp1 intE tyInts rfl _ _ rfl (((hown.below hb1.of_alloc).below hb2)) (Price.many l[k]) rfl rfl rfl (by have := hbw.size; have := hb1.size; have := hb2.size; simp at *; omega) (by unfold big; omega) ?_; intro v' w3 hown3 hb3 _))
        go_roundw
        case rel => exact ⟨k + 1, acc ++ [Price.many l[k]], by omega, by go_num, hown3, by rw [Hd.out, hh] at hf; simpa using hf, by simp; omega, (((hbw.next hb1.of_alloc (by simp)).next hb2 (by simp)).trans hb3)⟩
        case measure => simp [intOf]; omega
    · have he : acc = Price.held l ⟨x, y, z⟩ := by have := hf.out; rw [drop_end hlt] at this; simpa [Price.held] using this
      have hl : (Price.held l ⟨x, y, z⟩).length ≤ l.length := by rw [← he]; omega
      rw [he] at hown
      clear he hf hacc
      obtain ⟨A1, c1, rfl, _, _⟩ := hown.form
      have hs1 := hown.sl
      go_wp2_with (go_at_call 138; refine (greatest_spec A1 (Price.held l ⟨x, y, z⟩) c1 wr (by unfold big; omega) hs1).mono ?_; rintro e w1 ⟨rfl, rfl⟩)
      obtain ⟨most, hmost⟩ : ∃ most, most = Price.greatest (Price.held l ⟨x, y, z⟩) := ⟨_, rfl⟩
      rw [← hmost]
      have Hmost := Lib.hid hmost
      clear hmost hs1 hown k0f k0x k0e k0n
      obtain ⟨wo, rfl⟩ : ∃ wo : World, wo = wr := ⟨_, rfl⟩
      go_loopw [9, 31] (fun v i w2 => ∃ (k : Nat) (acc : List Int), k ≤ l.length ∧ i = iv k ∧ Own intE 3 wo.heap.size w2 v acc ∧ Hid (acc ++ Price.countsFrom most ⟨x, y, z⟩ (l.drop k) k = Price.counts l ⟨x, y, z⟩) ∧ acc.length ≤ k ∧
        Below wo.heap.size wo w2) (fun _ i _ => l.length - (intOf i).toNat)
      case atStart => exact ⟨0, [], by omega, rfl, Own.nil, by rw [Hmost.out]; rfl, by simp, Below.refl _ _⟩
      case round =>
        obtain ⟨k, acc, hk, rfl, hown, hf, hacc, hb2⟩ := hrel
        obtain ⟨j0, j0f, j0l, j0e, j0n, j0x⟩ := aft hb2 (w.heap.size) (by (try simp [go_sem]); (try omega)); (try simp [go_sem] at j0 j0f)
        have hs2 := hs'.below hb2
        by_cases hlt : k < l.length
        · obtain ⟨b, off, rfl, hb, hc0, hc1, hc2, hc3⟩ := hs2.getR hlt
          have hd : Price.countsFrom most ⟨x, y, z⟩ (l.drop k) k = if Price.holds l[k] ⟨x, y, z⟩ && decide (Price.many l[k] = most) then (k : Int) :: Price.countsFrom most ⟨x, y, z⟩ (l.drop (k + 1)) (k + 1) else Price.countsFrom most ⟨x, y, z⟩ (l.drop (k + 1)) (k + 1) := by
            rw [drop_step hlt]; rfl
          have Hd := Lib.hid hd
          clear hd
          cases hh : Price.holds l[k] ⟨x, y, z⟩
          · go_wp2_with (go_at_call 108; refine (holds_spec l[k] ⟨x, y, z⟩ _).mono ?_; rintro e w3 ⟨rfl, hb3⟩)
            go_roundw
            case rel => exact ⟨k + 1, acc, by omega, by go_num, hown.below hb3.of_alloc, by rw [Hd.out, hh] at hf; exact hf, by omega, hb2.next hb3.of_alloc (by simp)⟩
            case measure => simp [intOf]; omega
          · cases hq : (Price.many l[k] == most)
            · go_wp2_with (first
                | (go_at_call 108; refine (holds_spec l[k] ⟨x, y, z⟩ _).mono ?_; rintro e w3 ⟨rfl, hb3⟩; obtain ⟨m0, m0f, m0l, m0e, m0n, m0x⟩ := aft hb3 (wr.heap.size) (by (try simp [go_sem]); (try omega)); (try simp [go_sem] at m0 m0f))
                | (go_at_call 137; refine (many_spec l[k] _).mono ?_; rintro e w4 ⟨rfl, hb4⟩))
              go_roundw
              case rel => exact ⟨k + 1, acc, by omega, by go_num, (hown.below hb3.of_alloc).below hb4, by rw [Hd.out, hh] at hf; simpa [by simpa using hq] using hf, by omega, (hb2.next hb3.of_alloc (by simp)).next hb4 (by simp)⟩
              case measure => simp [intOf]; omega
            · go_wp2_with (first
                | (go_at_call 108; refine (holds_spec l[k] ⟨x, y, z⟩ _).mono ?_; rintro e w3 ⟨rfl, hb3⟩; obtain ⟨m0, m0f, m0l, m0e, m0n, m0x⟩ := aft hb3 (wr.heap.size) (by (try simp [go_sem]); (try omega)); (try simp [go_sem] at m0 m0f))
                | (go_at_call 137; refine (many_spec l[k] _).mono ?_; rintro e w4 ⟨rfl, hb4⟩)
                | (at_builtin; refine wpApp1 intE tyInts rfl _ _ rfl (((hown.below hb3.of_alloc).below hb4)) (k : Int) rfl rfl rfl (by have := hb2.size; have := hb3.size; have := hb4.size; simp at *; omega) (by unfold big; omega) ?_; intro v' w5 hown5 hb5 _))
              go_roundw
              case rel => exact ⟨k + 1, acc ++ [(k : Int)], by omega, by go_num, hown5, by rw [Hd.out, hh] at hf; simpa [by simpa using hq] using hf, by simp; omega, (((hb2.next hb3.of_alloc (by simp)).next hb4 (by simp)).trans hb5)⟩
              case measure => simp [intOf]; omega
        · go_wp2
          go_ret
          have he : acc = Price.counts l ⟨x, y, z⟩ := by have := hf.out; rw [drop_end hlt] at this; simpa [Price.countsFrom] using this
          rw [he] at hown
          exact ⟨_, rfl, hown.base (Nat.le_of_lt k0l), (((Below.refl _ _).alloc (Nat.le_refl _) _).trans (hbw.mono (by omega))).next hb2 (by omega)⟩
end Go.Proofs.Ytblmlpkjocbhpaa
