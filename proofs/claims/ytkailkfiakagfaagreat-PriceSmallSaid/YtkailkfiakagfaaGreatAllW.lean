/- All pieces, of the statements; the rules with some numbers. Conditions: lengths are below a great bound. -/
import Derived.Test.YtkailkfiakagfaaGreatPriceP
import Derived.Test.YtkailkfiakagfaaGreatStep
set_option linter.unusedVariables false
set_option linter.unusedSimpArgs false
namespace Go.Proofs.YtkailkfiakagfaaGreat
open Go.RowKit Go.Shelf
set_option maxRecDepth 100000
namespace Price
/-- The rules with some numbers. -/
def chosen (l : List Rule) (ns : List Int) : List Rule := ns.map fun i => l.getD i.toNat default
end Price
theorem chosen_spec (A : Option Addr) (l : List Rule) (c : Nat) (A' : Option Addr) (ns : List Int) (c' : Nat) (w : World) (hm : l.length ≤ big) (hs : Sl ruleE w A l) (hm' : ns.length ≤ 1000) (hs' : Sl intE w A' ns) (hn : ∀ i ∈ ns, 0 ≤ i ∧ i < l.length) :
    Calls Tryz.prog 18 #[.slice A l.length c, .slice A' ns.length c'] w fun e w' => ∃ v, e = .returned v ∧ Own ruleE 28 w.heap.size w' v (Price.chosen l ns) ∧ Below w.heap.size w w' := by
  unfold big at hm
  have HN := Lib.hid hn
  clear hn
  go_enter Tryz.func18, Tryz.ntmps18
  go_wp2
  go_loopw [5, 7, 10] (fun v _ i wr => ∃ k : Nat, k ≤ ns.length ∧ i = iv k ∧ Own ruleE 28 w.heap.size wr v (Price.chosen l (ns.take k)) ∧ Below w.heap.size w wr) (fun _ _ i _ => ns.length - (intOf i).toNat)
  case atStart => exact ⟨0, by omega, rfl, Own.nil, Below.refl _ _⟩
  case round =>
    obtain ⟨k, hk, rfl, hown, hbw⟩ := hrel
    have hzr := hbw.size
    by_cases hlt : k < ns.length
    · obtain ⟨b, off, i, rfl, hb, hx, hc⟩ := (hs'.below hbw).atI hlt
      have hib := HN.out i (mem_at hx)
      obtain ⟨jj, rfl⟩ := Int.eq_ofNat_of_zero_le hib.1
      have hjl : jj < l.length := by omega
      obtain ⟨b2, off2, r, rfl, hb2, hr, hc0, hc1, hc2, hc3⟩ := (hs.below hbw).atR hjl
      have hta : Price.chosen l (ns.take (k + 1)) = Price.chosen l (ns.take k) ++ [r] := by
        rw [take_at hx]; unfold Price.chosen; rw [List.map_append]
        simp only [List.map_cons, List.map_nil, Int.toNat_natCast]
        rw [List.getD_eq_getElem?_getD, hr]; rfl
      have HTA := Lib.hid hta
      have hll : (Price.chosen l (ns.take k)).length ≤ 1000 := by unfold Price.chosen; rw [List.length_map, List.length_take]; omega
      obtain ⟨ra, rb, rc, rd⟩ := r
      dsimp only at hc0 hc1 hc2 hc3
      have hji : (jj : Int) < (l.length : Int) := by omega
      clear hta hx hr
      go_wp2_with (at_builtin; refine wpApp1 ruleE tyRules rfl _ _ rfl hown ⟨ra, rb, rc, rd⟩ rfl rfl rfl hzr (by unfold big; omega) ?_; intro v' w5 hown5 hb5 hk5)
      clear hk5
      go_roundw
      case rel => exact ⟨k + 1, by omega, by go_num, by rw [HTA.out]; exact hown5, hbw.trans hb5⟩
      case measure => simp [intOf]; omega
    · rw [List.take_of_length_le (by omega)] at hown
      go_wp2
      go_ret
      exact ⟨_, rfl, hown, hbw⟩
end Go.Proofs.YtkailkfiakagfaaGreat
