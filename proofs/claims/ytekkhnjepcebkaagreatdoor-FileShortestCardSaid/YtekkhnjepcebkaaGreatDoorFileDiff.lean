/- Changes of lists: what they make, what takes them back, what they cost. Plain laws. -/
import Derived.Test.YtekkhnjepcebkaaGreatDoorFileLcs
set_option linter.unusedVariables false
set_option linter.unusedSimpArgs false
namespace Go.Proofs.YtekkhnjepcebkaaGreatDoor
namespace File
set_option linter.unusedSectionVars false
section
variable {α : Type} [DecidableEq α]
structure Edit (α : Type) where
  at_ : Int
  old : List α
  new : List α
deriving DecidableEq
def cut (a : List α) (i k : Nat) : List α := (a.drop i).take (k - i)
def diffGo (a b : List α) : Nat → Nat → List (Nat × Nat) → List (Edit α)
  | _, _, [] => []
  | i, j, p :: r => (if p.1 = i ∧ p.2 = j then [] else [⟨(i : Int), cut a i p.1, cut b j p.2⟩]) ++ diffGo a b (p.1 + 1) (p.2 + 1) r
/-- The change of a file into another one. -/
def diff (a b : List α) : List (Edit α) := diffGo a b 0 0 (common a b ++ [(a.length, b.length)])
def made (f : List α) (x : Edit α) : List α := f.take x.at_.toNat ++ (x.new ++ f.drop (x.at_.toNat + x.old.length))
/-- What a change makes of a file, the last edit first. -/
def make (f : List α) (c : List (Edit α)) : List α := c.foldr (fun x g => made g x) f
def fitsAt (f : List α) (x : Edit α) : Bool := decide (x.at_ ≤ f.length) && (x.old.zipIdx.all fun p => decide (f[x.at_.toNat + p.2]? = some p.1))
def backGo : Int → List (Edit α) → List (Edit α)
  | _, [] => []
  | n, x :: r => ⟨x.at_ + n, x.new, x.old⟩ :: backGo (n + x.new.length - x.old.length) r
def back (c : List (Edit α)) : List (Edit α) := backGo 0 c
def cost : List (Edit α) → Nat
  | [] => 0
  | x :: r => x.old.length + x.new.length + cost r
theorem cut_length {a : List α} {i k : Nat} (hk : k ≤ a.length) (h : i ≤ k) : (cut a i k).length = k - i := by
  unfold cut; rw [List.length_take, List.length_drop]; omega
theorem cut_drop {a : List α} {i k : Nat} (h : i ≤ k) : cut a i k ++ a.drop k = a.drop i := by
  unfold cut
  have : a.drop k = (a.drop i).drop (k - i) := by rw [List.drop_drop]; congr 1; omega
  rw [this, List.take_append_drop]
theorem make_go {a b : List α} : ∀ (l : List (Nat × Nat)) (i j : Nat), Pairs a b i j l → i ≤ a.length → j ≤ b.length → make a (diffGo a b i j (l ++ [(a.length, b.length)])) = a.take i ++ b.drop j := by
  intro l
  induction l with
  | nil =>
    intro i j _ hi hj
    simp only [List.nil_append, diffGo, List.append_nil]
    split
    · rename_i h
      obtain ⟨h1, h2⟩ := h
      rw [← h1, ← h2]
      simp [make]
    · have hc := cut_length (Nat.le_refl a.length) hi
      simp only [make, List.foldr_cons, List.foldr_nil, made, Int.toNat_natCast, hc]
      rw [show i + (a.length - i) = a.length by omega, List.drop_length, List.append_nil]
      unfold cut
      rw [List.take_of_length_le (l := List.drop j b) (by simp)]
  | cons p r ih =>
    intro i j ⟨h1, h2, ⟨h3, h4, h5⟩, h6⟩ hi hj
    have := ih (p.1 + 1) (p.2 + 1) h6 (by omega) (by omega)
    have e1 : a.take (p.1 + 1) = a.take p.1 ++ [a[p.1]] := List.take_succ_eq_append_getElem h3
    have e2 : b.drop p.2 = b[p.2] :: b.drop (p.2 + 1) := List.drop_eq_getElem_cons h4
    have e3 : a.take (p.1 + 1) ++ b.drop (p.2 + 1) = a.take p.1 ++ b.drop p.2 := by rw [e1, e2, h5]; simp
    simp only [List.cons_append, diffGo]
    split
    · rename_i h
      obtain ⟨h7, h8⟩ := h
      subst h7 h8
      rw [List.nil_append, this, e3]
    · rw [show make a ([⟨(i : Int), cut a i p.1, cut b j p.2⟩] ++ diffGo a b (p.1 + 1) (p.2 + 1) (r ++ [(a.length, b.length)])) = made (make a (diffGo a b (p.1 + 1) (p.2 + 1) (r ++ [(a.length, b.length)]))) ⟨(i : Int), cut a i p.1, cut b j p.2⟩ from rfl, this, e3]
      simp only [made, Int.toNat_natCast, cut_length (Nat.le_of_lt h3) h1]
      rw [show i + (p.1 - i) = p.1 by omega]
      have t1 : (a.take p.1 ++ b.drop p.2).take i = a.take i := by
        rw [List.take_append_of_le_length (by rw [List.length_take]; omega), List.take_take]; congr 1; omega
      have t2 : (a.take p.1 ++ b.drop p.2).drop p.1 = b.drop p.2 := by
        rw [List.drop_append_of_le_length (by rw [List.length_take]; omega), List.drop_of_length_le (by rw [List.length_take]; omega), List.nil_append]
      rw [t1, t2, cut_drop h2]
theorem make_diff (a b : List α) : make a (diff a b) = b := by
  have := make_go (common a b) 0 0 (common_pairs a b) (Nat.zero_le _) (Nat.zero_le _)
  simpa [diff] using this
def swap (l : List (Nat × Nat)) : List (Nat × Nat) := l.map fun p => (p.2, p.1)
theorem pairs_swap {a b : List α} : ∀ {l : List (Nat × Nat)} {i j : Nat}, Pairs a b i j l → Pairs b a j i (swap l)
  | [], _, _, _ => trivial
  | _ :: _, _, _, ⟨h1, h2, ⟨h3, h4, h5⟩, h6⟩ => ⟨h2, h1, ⟨h4, h3, h5.symm⟩, pairs_swap h6⟩
theorem back_go {a b : List α} : ∀ (l : List (Nat × Nat)) (i j : Nat), Pairs a b i j l → i ≤ a.length → j ≤ b.length → backGo ((j : Int) - i) (diffGo a b i j (l ++ [(a.length, b.length)])) = diffGo b a j i (swap l ++ [(b.length, a.length)]) := by
  intro l
  induction l with
  | nil =>
    intro i j _ hi hj
    simp only [List.nil_append, diffGo, swap, List.map_nil, List.append_nil]
    by_cases h : a.length = i ∧ b.length = j
    · rw [if_pos h, if_pos ⟨h.2, h.1⟩]; rfl
    · rw [if_neg h, if_neg (fun e => h ⟨e.2, e.1⟩)]
      simp only [backGo]
      congr 2
      omega
  | cons p r ih =>
    intro i j ⟨h1, h2, ⟨h3, h4, h5⟩, h6⟩ hi hj
    have := ih (p.1 + 1) (p.2 + 1) h6 (by omega) (by omega)
    rw [show ((p.2 + 1 : Nat) : Int) - ((p.1 + 1 : Nat) : Int) = (p.2 : Int) - p.1 by omega] at this
    simp only [List.cons_append, diffGo, swap, List.map_cons]
    by_cases h : p.1 = i ∧ p.2 = j
    · rw [if_pos h, if_pos ⟨h.2, h.1⟩]
      simp only [List.nil_append]
      obtain ⟨h7, h8⟩ := h
      subst h7 h8
      exact this
    · rw [if_neg h, if_neg (fun e => h ⟨e.2, e.1⟩)]
      simp only [List.cons_append, List.nil_append, backGo]
      rw [cut_length (Nat.le_of_lt h3) h1, cut_length (Nat.le_of_lt h4) h2]
      congr 1
      · congr 1
        omega
      · have h9 : (j : Int) - i + ((p.2 - j : Nat) : Int) - ((p.1 - i : Nat) : Int) = (p.2 : Int) - p.1 := by omega
        rw [h9]
        exact this
theorem make_back (a b : List α) : make b (back (diff a b)) = a := by
  have h1 := back_go (common a b) 0 0 (common_pairs a b) (Nat.zero_le _) (Nat.zero_le _)
  simp only [Int.natCast_zero, Int.sub_self] at h1
  unfold back diff
  rw [h1]
  have := make_go (swap (common a b)) 0 0 (pairs_swap (common_pairs a b)) (Nat.zero_le _) (Nat.zero_le _)
  simpa using this
theorem back_back_go : ∀ (c : List (Edit α)) (n : Int), backGo (-n) (backGo n c) = c := by
  intro c
  induction c with
  | nil => intro n; rfl
  | cons x r ih =>
    intro n
    simp only [backGo]
    congr 1
    · cases x; simp; omega
    · have := ih (n + x.new.length - x.old.length)
      rw [show -n + (x.old.length : Int) - x.new.length = -(n + x.new.length - x.old.length) by omega]
      exact this
theorem back_back (c : List (Edit α)) : back (back c) = c := by
  have := back_back_go c 0
  simpa [back] using this
theorem cost_back_go : ∀ (c : List (Edit α)) (n : Int), cost (backGo n c) = cost c := by
  intro c
  induction c with
  | nil => intro n; rfl
  | cons x r ih => intro n; simp only [backGo, cost, ih]; omega
theorem cost_back (c : List (Edit α)) : cost (back c) = cost c := cost_back_go c 0
theorem cost_append (c d : List (Edit α)) : cost (c ++ d) = cost c + cost d := by
  induction c with
  | nil => simp [cost]
  | cons x r ih => simp only [List.cons_append, cost, ih]; omega
theorem cost_go {a b : List α} : ∀ (l : List (Nat × Nat)) (i j : Nat), Pairs a b i j l → i ≤ a.length → j ≤ b.length → cost (diffGo a b i j (l ++ [(a.length, b.length)])) + 2 * l.length = (a.length - i) + (b.length - j) := by
  intro l
  induction l with
  | nil =>
    intro i j _ hi hj
    simp only [List.nil_append, diffGo, List.append_nil]
    split
    · rename_i h
      obtain ⟨h1, h2⟩ := h
      simp [cost]; omega
    · simp only [cost, cut_length (Nat.le_refl a.length) hi, cut_length (Nat.le_refl b.length) hj]
      simp
  | cons p r ih =>
    intro i j ⟨h1, h2, ⟨h3, h4, h5⟩, h6⟩ hi hj
    have := ih (p.1 + 1) (p.2 + 1) h6 (by omega) (by omega)
    simp only [List.cons_append, diffGo, cost_append, List.length_cons]
    split
    · rename_i h
      obtain ⟨h7, h8⟩ := h
      simp only [cost]
      omega
    · simp only [cost, cut_length (Nat.le_of_lt h3) h1, cut_length (Nat.le_of_lt h4) h2]
      omega
theorem cost_diff (a b : List α) : cost (diff a b) + 2 * (common a b).length = a.length + b.length := by
  have := cost_go (common a b) 0 0 (common_pairs a b) (Nat.zero_le _) (Nat.zero_le _)
  simpa [diff] using this
end
end File
end Go.Proofs.YtekkhnjepcebkaaGreatDoor
