/- All pieces, of the statements; the rules with some numbers. Conditions: lengths are below a great bound. -/
import Derived.Test.YtblmlpkjocbhpaaPriceP
import Derived.Test.YtblmlpkjocbhpaaStep
set_option linter.unusedVariables false
set_option linter.unusedSimpArgs false
namespace Go.Proofs.Ytblmlpkjocbhpaa
open Go.RowKit Go.Shelf
set_option maxRecDepth 100000
set_option maxHeartbeats 4000000 in
theorem all_spec (w : World) : Calls Try.prog 59 #[] w fun e w' => ∃ v, e = .returned v ∧ Own pieceE 42 w.heap.size w' v Price.allPieces ∧ Below w.heap.size w w' := by
  have hlen : ∀ m, (Price.allPieces.take m).length ≤ 60 := fun m => by rw [List.length_take, Price.allPieces_length]; omega
  have HLEN := Lib.hid hlen
  clear hlen
  go_enter Try.func59, Try.ntmps59
  go_wp2
  go_loopw [1, 2, 3, 4, 5] (fun v _ _ _ i wr => ∃ b : Nat, b ≤ 4 ∧ i = iv b ∧ Own pieceE 42 w.heap.size wr v (Price.allPieces.take (15 * b)) ∧ Below w.heap.size w wr) (fun _ _ _ _ i _ => 4 - (intOf i).toNat)
  case atStart => exact ⟨0, by omega, rfl, Own.nil, Below.refl _ _⟩
  case round =>
    obtain ⟨b, hb, rfl, hown, hbw⟩ := hrel
    by_cases hlt : b < 4
    · have hlt' : (b : Int) < 4 := by omega
      go_wp2
      obtain ⟨wo, rfl⟩ : ∃ wo : World, wo = wr := ⟨_, rfl⟩
      go_loopw [1, 3, 4, 8] (fun v _ _ i wr => ∃ s : Nat, s ≤ 5 ∧ i = iv s ∧ Own pieceE 42 w.heap.size wr v (Price.allPieces.take (15 * b + 3 * s)) ∧ Below w.heap.size w wr) (fun _ _ _ i _ => 5 - (intOf i).toNat)
      case atStart => exact ⟨0, by omega, rfl, hown, hbw⟩
      case round =>
        obtain ⟨s, hs, rfl, hown2, hbw2⟩ := hrel
        by_cases hlt2 : s < 5
        · have hlt2' : (s : Int) < 5 := by omega
          go_wp2
          obtain ⟨wo2, rfl⟩ : ∃ wo : World, wo = wr := ⟨_, rfl⟩
          go_loopw [1, 4, 11] (fun v _ i wr => ∃ e : Nat, e ≤ 3 ∧ i = iv e ∧ Own pieceE 42 w.heap.size wr v (Price.allPieces.take (15 * b + 3 * s + e)) ∧ Below w.heap.size w wr) (fun _ _ i _ => 3 - (intOf i).toNat)
          case atStart => exact ⟨0, by omega, rfl, hown2, hbw2⟩
          case round =>
            obtain ⟨e, he, rfl, hown3, hbw3⟩ := hrel
            by_cases hlt3 : e < 3
            · have hlt3' : (e : Int) < 3 := by omega
              have hm : 15 * b + 3 * s + e < 60 := by omega
              have HT := Lib.hid (Price.allPieces_take hm)
              rw [Price.pieceAt_eq hlt2 hlt3] at HT
              have hl60 := HLEN.out (15 * b + 3 * s + e)
              have hzr := hbw3.size
              clear hm
              go_wp2_with (at_builtin; refine wpApp1 pieceE tyPieces rfl _ _ rfl hown3 ⟨b, s, e⟩ rfl rfl rfl hzr (by unfold big; omega) ?_; intro v' w5 hown5 hb5 hk5)
              clear hk5
              go_roundw
              case rel => exact ⟨e + 1, by omega, by go_num, by rw [show 15 * b + 3 * s + (e + 1) = 15 * b + 3 * s + e + 1 by omega, HT.out]; exact hown5, hbw3.trans hb5⟩
              case measure => simp [intOf]; omega
            · obtain rfl : e = 3 := by omega
              go_wp2
              go_roundw
              case rel => exact ⟨s + 1, by omega, by go_num, by rw [show 15 * b + 3 * (s + 1) = 15 * b + 3 * s + 3 by omega]; exact hown3, hbw3⟩
              case measure => simp [intOf]; omega
        · obtain rfl : s = 5 := by omega
          go_wp2
          go_roundw
          case rel => exact ⟨b + 1, by omega, by go_num, by rw [show 15 * (b + 1) = 15 * b + 3 * 5 by omega]; exact hown2, hbw2⟩
          case measure => simp [intOf]; omega
    · obtain rfl : b = 4 := by omega
      go_wp2
      go_ret
      exact ⟨_, rfl, by rw [List.take_of_length_le (by rw [Price.allPieces_length]; omega)] at hown; exact hown, hbw⟩
namespace Price
/-- The rules with some numbers. -/
def chosen (l : List Rule) (ns : List Int) : List Rule := ns.map fun i => l.getD i.toNat default
end Price
theorem chosen_spec (A : Option Addr) (l : List Rule) (c : Nat) (A' : Option Addr) (ns : List Int) (c' : Nat) (w : World) (hm : l.length ≤ big) (hs : Sl ruleE w A l) (hm' : ns.length ≤ 1000) (hs' : Sl intE w A' ns) (hn : ∀ i ∈ ns, 0 ≤ i ∧ i < l.length) :
    Calls Try.prog 117 #[.slice A l.length c, .slice A' ns.length c'] w fun e w' => ∃ v, e = .returned v ∧ Own ruleE 27 w.heap.size w' v (Price.chosen l ns) ∧ Below w.heap.size w w' := by
  unfold big at hm
  have HN := Lib.hid hn
  clear hn
  go_enter Try.func117, Try.ntmps117
  go_wp2
  go_loopw [5, 7, 10] (fun v _ i wr => ∃ k : Nat, k ≤ ns.length ∧ i = iv k ∧ Own ruleE 27 w.heap.size wr v (Price.chosen l (ns.take k)) ∧ Below w.heap.size w wr) (fun _ _ i _ => ns.length - (intOf i).toNat)
  case atStart => exact ⟨0, by omega, rfl, Own.nil, Below.refl _ _⟩
  case round =>
    obtain ⟨k, hk, rfl, hown, hbw⟩ := hrel
    have hzr := hbw.size
    by_cases hlt : k < ns.length
    · obtain ⟨b, off, i, rfl, hb, hx, hc⟩ := (hs'.below hbw).atI hlt
      have hib := HN.out i (mem_at hx)
      obtain ⟨jj, rfl⟩ := Int.eq_ofNat_of_zero_le hib.1
      have hjl : jj < l.length := by omega
      obtain ⟨b2, off2, r, rfl, hb2, hr, hc0, hc1, hc2, hc3⟩ := (hs.below hbw).atR hjl
      have hta : Price.chosen l (ns.take (k + 1)) = Price.chosen l (ns.take k) ++ [r] := by
        rw [take_at hx]; unfold Price.chosen; rw [List.map_append]
        simp only [List.map_cons, List.map_nil, Int.toNat_natCast]
        rw [List.getD_eq_getElem?_getD, hr]; rfl
      have HTA := Lib.hid hta
      have hll : (Price.chosen l (ns.take k)).length ≤ 1000 := by unfold Price.chosen; rw [List.length_map, List.length_take]; omega
      obtain ⟨ra, rb, rc, rd⟩ := r
      dsimp only at hc0 hc1 hc2 hc3
      have hji : (jj : Int) < (l.length : Int) := by omega
      clear hta hx hr
      go_wp2_with (at_builtin; refine wpApp1 ruleE tyRules rfl _ _ rfl hown ⟨ra, rb, rc, rd⟩ rfl rfl rfl hzr (by unfold big; omega) ?_; intro v' w5 hown5 hb5 hk5)
      clear hk5
      go_roundw
      case rel => exact ⟨k + 1, by omega, by go_num, by rw [HTA.out]; exact hown5, hbw.trans hb5⟩
      case measure => simp [intOf]; omega
    · rw [List.take_of_length_le (by omega)] at hown
      go_wp2
      go_ret
      exact ⟨_, rfl, hown, hbw⟩
end Go.Proofs.Ytblmlpkjocbhpaa
