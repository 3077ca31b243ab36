/- Changes between files are right, and so are those that take them back (plain laws). No condition. -/
import Derived.Test.YtkhmkpcihphkcaaDoorFlMk
import Derived.Test.YtkhmkpcihphkcaaDoorFileJoin2
set_option linter.unusedVariables false
set_option linter.unusedSimpArgs false
namespace Go.Proofs.YtkhmkpcihphkcaaDoor
namespace File
theorem ordered_of : ∀ {c : List (Edit ByteArray)} {lo : Nat}, Chain lo c → ordered c = true
  | [], _, _ => rfl
  | [_], _, _ => rfl
  | x :: y :: r, lo, ⟨h1, h2⟩ => by
    have ih := ordered_of h2
    unfold ordered
    rw [Bool.and_eq_true, Bool.not_eq_true', decide_eq_false_iff_not]
    refine ⟨?_, ih⟩
    have := h2.1
    unfold Edit.hi at this
    omega
theorem go_some {a b : List ByteArray} : ∀ (l : List (Nat × Nat)) (i j : Nat), Pairs a b i j l → i ≤ a.length → j ≤ b.length → ∀ x ∈ diffGo a b i j (l ++ [(a.length, b.length)]), 0 < x.old.length + x.new.length
  | [], i, j, _, hi, hj, x, hx => by
    simp only [List.nil_append, diffGo, List.append_nil] at hx
    split at hx
    · cases hx
    · rename_i h
      rw [List.mem_singleton.1 hx]
      simp only [cut_length (Nat.le_refl _) hi, cut_length (Nat.le_refl _) hj]
      omega
  | p :: r, i, j, ⟨h1, h2, ⟨h3, h4, _⟩, h6⟩, hi, hj, x, hx => by
    simp only [List.cons_append, diffGo] at hx
    rcases List.mem_append.1 hx with hx | hx
    · split at hx
      · cases hx
      · rename_i h
        rw [List.mem_singleton.1 hx]
        simp only [cut_length (Nat.le_of_lt h3) h1, cut_length (Nat.le_of_lt h4) h2]
        omega
    · exact go_some r _ _ h6 (by omega) (by omega) x hx
theorem go_mem {a b : List ByteArray} : ∀ (l : List (Nat × Nat)) (i j : Nat), ∀ x ∈ diffGo a b i j l, (∀ s ∈ x.old, s ∈ a) ∧ (∀ s ∈ x.new, s ∈ b) ∧ x.old.length ≤ a.length ∧ x.new.length ≤ b.length
  | [], _, _, _, h => by cases h
  | p :: r, i, j, x, h => by
    unfold diffGo at h
    rcases List.mem_append.1 h with h | h
    · split at h
      · cases h
      · rw [List.mem_singleton.1 h]
        exact ⟨fun s hs => mem_cut hs, fun s hs => mem_cut hs, cut_len _ _ _, cut_len _ _ _⟩
    · exact go_mem r _ _ x h
theorem lined_ok {l : List ByteArray} (h : ∀ s ∈ l, okLine s = true ∧ s.size ≤ 40) : lined l = 0 := by
  unfold lined
  rw [if_pos (List.all_eq_true.2 fun s hs => by have := (h s hs).2; simp only [wide, decide_eq_true_eq]; omega), if_pos (List.all_eq_true.2 fun s hs => (h s hs).1)]
theorem ch_go {a b : List ByteArray} (ga : Fl.Good a) (gb : Fl.Good b) {l : List (Nat × Nat)} (hp : Pairs a b 0 0 l) : ChOk (diffGo a b 0 0 (l ++ [(a.length, b.length)])) := by
  obtain ⟨hc, hw⟩ := chain_go l 0 0 hp (Nat.zero_le _) (Nat.zero_le _)
  have h1 := ga.many
  have h2 := gb.many
  have hm := go_mem (a := a) (b := b) (l ++ [(a.length, b.length)]) 0 0
  refine ⟨fun x hx => ?_, fun x hx => by have := (hm x hx).2.2.1; omega, fun x hx => by have := (hm x hx).2.2.2; omega, go_some l 0 0 hp (Nat.zero_le _) (Nat.zero_le _), lined_ok fun s hs => ?_, ordered_of hc⟩
  · have k1 : ((0 : Nat) : Int) ≤ x.at_ := hc.pos x hx
    have k2 : x.at_.toNat + x.old.length ≤ a.length := hw x hx
    omega
  · obtain ⟨x, hx, hs⟩ := List.mem_flatMap.1 hs
    rcases List.mem_append.1 hs with hs | hs
    · have := (hm x hx).1 s hs; exact ⟨ga.ok s this, ga.wide s this⟩
    · have := (hm x hx).2.1 s hs; exact ⟨gb.ok s this, gb.wide s this⟩
theorem backTry_of : ∀ {c : List (Edit ByteArray)} {n : Int}, (∀ x ∈ backGo n c, x.at_ ≤ 24) → backTry n c = some (backGo n c)
  | [], _, _ => rfl
  | x :: r, n, h => by
    have h0 := h ⟨x.at_ + n, x.new, x.old⟩ (by simp [backGo])
    simp only at h0
    unfold backTry backGo
    rw [if_neg (by omega), show n + ((x.new.length : Int) - (x.old.length : Int)) = n + x.new.length - x.old.length by omega, backTry_of (fun y hy => h y (by unfold backGo; exact List.mem_cons_of_mem _ hy))]
    rfl
/-- A change of a file into another one, and back. -/
theorem back_facts {a b : List ByteArray} (ga : Fl.Good a) (gb : Fl.Good b) : checkChange (diff a b) = 0 ∧ checkChange (back (diff a b)) = 0 ∧ backAns (diff a b) = (back (diff a b), 0) ∧ backAns (back (diff a b)) = (diff a b, 0) := by
  have hp := common_pairs a b
  have e1 : back (diff a b) = diffGo b a 0 0 (swap (common a b) ++ [(b.length, a.length)]) := by
    have := back_go (common a b) 0 0 hp (Nat.zero_le _) (Nat.zero_le _)
    simpa [back, diff] using this
  have c1 : ChOk (diff a b) := ch_go ga gb hp
  have c2 : ChOk (back (diff a b)) := by rw [e1]; exact ch_go gb ga (pairs_swap hp)
  have e2 := back_back (diff a b)
  refine ⟨ch_zero c1, ch_zero c2, ?_, ?_⟩
  · unfold backAns
    rw [if_pos (ch_zero c1), backTry_of (n := 0) (fun x hx => (c2.at_ x hx).2)]
    rfl
  · unfold backAns
    rw [if_pos (ch_zero c2), backTry_of (n := 0) (fun x hx => (c1.at_ x (by rw [← e2]; exact hx)).2)]
    show (back (back (diff a b)), (0 : Int)) = _
    rw [e2]
/-- How many lines more a change makes. -/
def more : List (Edit ByteArray) → Int
  | [] => 0
  | x :: r => (x.new.length : Int) - (x.old.length : Int) + more r
theorem make_more {f : List ByteArray} : ∀ {c : List (Edit ByteArray)} {lo : Nat}, Chain lo c → (∀ x ∈ c, x.hi ≤ f.length) → ((make f c).length : Int) = (f.length : Int) + more c
  | [], _, _, _ => by simp [make, more]
  | x :: r, lo, ⟨h1, h2⟩, hh => by
    have hx := hh x (by simp)
    have ih := make_more h2 (fun y hy => hh y (List.mem_cons_of_mem _ hy))
    have hge := make_ge (h2.weaken (Nat.le_succ _)) (fun y hy => hh y (List.mem_cons_of_mem _ hy)) hx
    unfold Edit.hi at hge
    show ((made (make f r) x).length : Int) = _
    unfold made more
    simp only [List.length_append, List.length_take, List.length_drop]
    omega
end File
end Go.Proofs.YtkhmkpcihphkcaaDoor
