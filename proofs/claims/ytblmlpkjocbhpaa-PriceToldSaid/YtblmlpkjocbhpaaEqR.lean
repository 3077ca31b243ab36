/- petershamkit.Eq of rules and of numbers; slices.Contains of a rule. Condition: lengths are below a great bound. -/
import Derived.Test.YtblmlpkjocbhpaaPriceS
set_option linter.unusedVariables false
set_option linter.unusedSimpArgs false
namespace Go.Proofs.Ytblmlpkjocbhpaa
open Go.RowKit Go.Shelf
set_option maxRecDepth 100000

theorem len4 {α : Type} (l : List α) (h : l.length = 4) : ∃ a b c d, l = [a, b, c, d] := by
  match l, h with
  | [a, b, c, d], _ => exact ⟨a, b, c, d, rfl⟩
theorem fieldsRule : ((Try.prog).fieldsOf 27).toList.map (fun f => (f.name, f.type, f.offset)) = [("Breadth", 3, 0), ("Shade", 3, 1), ("Edge", 3, 2), ("Price", 3, 3)] := by kernel_rfl
theorem eqRule (a b c g d e f h : Int) (w : World) : (Op.equalIn 10000 27 (.agg #[iv a, iv b, iv c, iv g]) (.agg #[iv d, iv e, iv f, iv h])).run Try.prog w = .ok (a == d && (b == e && (c == f && g == h))) w := by
  have hh := run_equalIn_agg (P := Try.prog) w 9999 27 #[iv a, iv b, iv c, iv g] #[iv d, iv e, iv f, iv h] (by kernel_rfl) (by kernel_rfl)
  rw [hh]
  have h3 : ∀ (x y : Int) (d : Nat), (Op.equalIn (d + 1) 3 (iv x) (iv y)).run Try.prog w = .ok (x == y) w := fun x y d => run_equalIn_int w d _ _ _ _ _ Try.underlying3
  have hf := fieldsRule
  have hlen : ((Try.prog).fieldsOf 27).toList.length = 4 := by have := congrArg List.length hf; simpa using this
  obtain ⟨f0, f1, f2, f3, hl⟩ := len4 _ hlen
  rw [hl] at hf ⊢
  simp only [List.map_cons, List.map_nil, List.cons.injEq, Prod.mk.injEq, and_true] at hf
  obtain ⟨⟨n0, t0, o0⟩, ⟨n1, t1, o1⟩, ⟨n2, t2, o2⟩, n3, t3, o3⟩ := hf
  have hp0 : ∀ a b c d : Int, (part 3 #[iv a, iv b, iv c, iv d] 0).run Try.prog w = .ok (iv a) w := fun _ _ _ _ => by kernel_rfl
  have hp1 : ∀ a b c d : Int, (part 3 #[iv a, iv b, iv c, iv d] 1).run Try.prog w = .ok (iv b) w := fun _ _ _ _ => by kernel_rfl
  have hp2 : ∀ a b c d : Int, (part 3 #[iv a, iv b, iv c, iv d] 2).run Try.prog w = .ok (iv c) w := fun _ _ _ _ => by kernel_rfl
  have hp3 : ∀ a b c d : Int, (part 3 #[iv a, iv b, iv c, iv d] 3).run Try.prog w = .ok (iv d) w := fun _ _ _ _ => by kernel_rfl
  simp only [Op.eqFields, n0, n1, n2, n3, t0, t1, t2, t3, o0, o1, o2, o3]
  by_cases h1 : a = d <;> by_cases h2 : b = e <;> by_cases h3' : c = f <;> by_cases h4 : g = h <;>
    simp [hp0, hp1, hp2, hp3, h3, Result.andThen, h1, h2, h3', h4, Sem.run_bind]
theorem eqRuleD (p q : Rule) (w : World) : (Op.equalIn 10000 27 p.v q.v).run Try.prog w = .ok (decide (p = q)) w := by
  obtain ⟨pa, pb, pc, pd⟩ := p
  obtain ⟨qa, qb, qc, qd⟩ := q
  rw [eqRule]
  congr 1
  by_cases h1 : pa = qa <;> by_cases h2 : pb = qb <;> by_cases h3 : pc = qc <;> by_cases h4 : pd = qd <;> simp [h1, h2, h3, h4]
set_option maxHeartbeats 1000000 in
theorem equalR (A : Option Addr) (xs : List Rule) (c : Nat) (A' : Option Addr) (ys : List Rule) (c' : Nat) (w : World) (hm : xs.length ≤ big) (hs : Sl ruleE w A xs) (hm' : ys.length ≤ big) (hs' : Sl ruleE w A' ys) :
    Calls Try.prog 93 #[.slice A xs.length c, .slice A' ys.length c'] w fun e w' => e = .returned (.bool (decide (xs = ys))) ∧ Below w.heap.size w w' := by
  unfold big at hm hm'
  by_cases hl : xs.length = ys.length
  · have hl' : ((xs.length : Int) != (ys.length : Int)) = false := by simp [hl]
    have HL := Lib.hid hl
    clear hl
    go_enter Try.func93, Try.ntmps93
    go_wp2
    go_loopw [5, 13] (fun _ i wr => ∃ (k : Nat), k ≤ xs.length ∧ i = iv k ∧ Hid (xs.take k = ys.take k) ∧ Below w.heap.size w wr) (fun _ i _ => xs.length - (intOf i).toNat)
    case atStart => exact ⟨0, by omega, rfl, rfl, Below.refl _ _⟩
    case round =>
      obtain ⟨k, hk, rfl, hf, hbw⟩ := hrel
      by_cases hlt : k < xs.length
      · obtain ⟨b, off, p, rfl, hb, hp, hp0, hp1, hp2, hp3⟩ := (hs.below hbw).atR hlt
        obtain ⟨b', off', q, rfl, hb', hq, hq0, hq1, hq2, hq3⟩ := (hs'.below hbw).atR (by have := HL.out; omega : k < ys.length)
        obtain ⟨pa, pb, pc, pd⟩ := p
        obtain ⟨qa, qb, qc, qd⟩ := q
        dsimp only at hp0 hp1 hp2 hp3 hq0 hq1 hq2 hq3
        have hly : (k : Int) < (ys.length : Int) := by have := HL.out; omega
        have hlx : (k : Int) < (xs.length : Int) := by omega
        have heq : ∀ w, (Op.equalIn 10000 27 (.agg #[iv pa, iv pb, iv pc, iv pd]) (.agg #[iv qa, iv qb, iv qc, iv qd])).run Try.prog w = .ok (decide ((⟨pa, pb, pc, pd⟩ : Rule) = ⟨qa, qb, qc, qd⟩)) w := fun w => by
          exact eqRuleD ⟨pa, pb, pc, pd⟩ ⟨qa, qb, qc, qd⟩ w
        have HP := Lib.hid hp
        have HQ := Lib.hid hq
        clear hp hq hs hs'
        by_cases hpq : (⟨pa, pb, pc, pd⟩ : Rule) = ⟨qa, qb, qc, qd⟩
        · rw [decide_eq_true hpq] at heq
          have HPQ := Lib.hid hpq
          clear hpq
          go_wp2
          go_region
          go_wp2
          go_roundw
          case rel => exact ⟨k + 1, by omega, by go_num, by
            show xs.take (k + 1) = ys.take (k + 1)
            rw [List.take_add_one, List.take_add_one, HP.out, HQ.out, HPQ.out, hf.out], (by first | exact hbw | exact hbw.drew)⟩
          case measure => simp [intOf]; omega
        · rw [decide_eq_false hpq] at heq
          have HPQ := Lib.hid hpq
          clear hpq
          go_wp2
          go_region
          go_wp2
          go_ret
          exact ⟨ret_eq (by rw [decide_eq_false (take_ne HP.out HQ.out HPQ.out)]; rfl), (by first | exact hbw | exact hbw.drew)⟩
      · have he : xs = ys := by
          have := hf.out
          rwa [List.take_of_length_le (by omega), List.take_of_length_le (by have := HL.out; omega)] at this
        have HE := Lib.hid he
        clear he
        go_wp2
        go_ret
        exact ⟨ret_eq (by rw [decide_eq_true HE.out]; rfl), (by first | exact hbw | exact hbw.drew)⟩
  · have hl' : ((xs.length : Int) != (ys.length : Int)) = true := by simp; omega
    go_enter Try.func93, Try.ntmps93
    go_wp2
    go_ret
    exact ⟨ret_eq (by rw [decide_eq_false (fun h => hl (by rw [h]))]; rfl), Below.refl _ _⟩
theorem eqR (A : Option Addr) (xs : List Rule) (c : Nat) (A' : Option Addr) (ys : List Rule) (c' : Nat) (w : World) (hm : xs.length ≤ big) (hs : Sl ruleE w A xs) (hm' : ys.length ≤ big) (hs' : Sl ruleE w A' ys) :
    Calls Try.prog 32 #[.slice A xs.length c, .slice A' ys.length c'] w fun e w' => e = .returned (.bool (decide (xs = ys))) ∧ Below w.heap.size w w' := by
  go_enter Try.func32, Try.ntmps32
  go_wp2_with (go_at_call 93; refine (equalR A xs c A' ys c' w hm hs hm' hs').mono ?_; rintro e w1 ⟨rfl, hb1⟩)
  go_ret
  exact ⟨rfl, hb1⟩
set_option maxHeartbeats 1000000 in
theorem equalI (A : Option Addr) (xs : List Int) (c : Nat) (A' : Option Addr) (ys : List Int) (c' : Nat) (w : World) (hm : xs.length ≤ big) (hs : Sl intE w A xs) (hm' : ys.length ≤ big) (hs' : Sl intE w A' ys) :
    Calls Try.prog 101 #[.slice A xs.length c, .slice A' ys.length c'] w fun e w' => e = .returned (.bool (decide (xs = ys))) ∧ Below w.heap.size w w' := by
  unfold big at hm hm'
  by_cases hl : xs.length = ys.length
  · have hl' : ((xs.length : Int) != (ys.length : Int)) = false := by simp [hl]
    have HL := Lib.hid hl
    clear hl
    go_enter Try.func101, Try.ntmps101
    go_wp2
    go_loopw [5, 13] (fun _ i wr => ∃ (k : Nat), k ≤ xs.length ∧ i = iv k ∧ Hid (xs.take k = ys.take k) ∧ Below w.heap.size w wr) (fun _ i _ => xs.length - (intOf i).toNat)
    case atStart => exact ⟨0, by omega, rfl, rfl, Below.refl _ _⟩
    case round =>
      obtain ⟨k, hk, rfl, hf, hbw⟩ := hrel
      by_cases hlt : k < xs.length
      · obtain ⟨b, off, p, rfl, hb, hp, hp0⟩ := (hs.below hbw).atI hlt
        obtain ⟨b', off', q, rfl, hb', hq, hq0⟩ := (hs'.below hbw).atI (by have := HL.out; omega : k < ys.length)
        have hly : (k : Int) < (ys.length : Int) := by have := HL.out; omega
        have hlx : (k : Int) < (xs.length : Int) := by omega
        have HP := Lib.hid hp
        have HQ := Lib.hid hq
        clear hp hq hs hs'
        by_cases hpq : p = q
        · have hpq' : (p != q) = false := by simp [hpq]
          have HPQ := Lib.hid hpq
          clear hpq
          go_wp2
          go_region
          go_wp2
          go_roundw
          case rel => exact ⟨k + 1, by omega, by go_num, by
            show xs.take (k + 1) = ys.take (k + 1)
            rw [List.take_add_one, List.take_add_one, HP.out, HQ.out, HPQ.out, hf.out], (by first | exact hbw | exact hbw.drew)⟩
          case measure => simp [intOf]; omega
        · have hpq' : (p != q) = true := by simp [hpq]
          have HPQ := Lib.hid hpq
          clear hpq
          go_wp2
          go_region
          go_wp2
          go_ret
          exact ⟨ret_eq (by rw [decide_eq_false (take_ne HP.out HQ.out HPQ.out)]; rfl), (by first | exact hbw | exact hbw.drew)⟩
      · have he : xs = ys := by
          have := hf.out
          rwa [List.take_of_length_le (by omega), List.take_of_length_le (by have := HL.out; omega)] at this
        have HE := Lib.hid he
        clear he
        go_wp2
        go_ret
        exact ⟨ret_eq (by rw [decide_eq_true HE.out]; rfl), (by first | exact hbw | exact hbw.drew)⟩
  · have hl' : ((xs.length : Int) != (ys.length : Int)) = true := by simp; omega
    go_enter Try.func101, Try.ntmps101
    go_wp2
    go_ret
    exact ⟨ret_eq (by rw [decide_eq_false (fun h => hl (by rw [h]))]; rfl), Below.refl _ _⟩
theorem eqI (A : Option Addr) (xs : List Int) (c : Nat) (A' : Option Addr) (ys : List Int) (c' : Nat) (w : World) (hm : xs.length ≤ big) (hs : Sl intE w A xs) (hm' : ys.length ≤ big) (hs' : Sl intE w A' ys) :
    Calls Try.prog 47 #[.slice A xs.length c, .slice A' ys.length c'] w fun e w' => e = .returned (.bool (decide (xs = ys))) ∧ Below w.heap.size w w' := by
  go_enter Try.func47, Try.ntmps47
  go_wp2_with (go_at_call 101; refine (equalI A xs c A' ys c' w hm hs hm' hs').mono ?_; rintro e w1 ⟨rfl, hb1⟩)
  go_ret
  exact ⟨rfl, hb1⟩
set_option maxHeartbeats 1000000 in
theorem indexRule (A : Option Addr) (xs : List Rule) (c : Nat) (r : Rule) (w : World) (hm : xs.length ≤ big) (hs : Sl ruleE w A xs) :
    Calls Try.prog 133 #[.slice A xs.length c, r.v] w fun e w' => e = .returned (iv (findFrom (fun x => decide (r = x)) xs 0)) ∧ Below w.heap.size w w' := by
  unfold big at hm
  obtain ⟨ra, rb, rc, rd⟩ := r
  go_enter Try.func133, Try.ntmps133
  go_wp2
  have hb0 : Below w.heap.size w (w.alloc (.cells #[iv ra, iv rb, iv rc, iv rd] 27)) := (Below.refl _ _).alloc (Nat.le_refl _) _
  have hB0 : Blk (w.alloc (.cells #[iv ra, iv rb, iv rc, iv rd] 27)) w.heap.size 27 #[iv ra, iv rb, iv rc, iv rd] := Blk.new _ _ _
  generalize w.alloc (.cells #[iv ra, iv rb, iv rc, iv rd] 27) = w0 at *
  go_loopw [5, 8] (fun _ i wr => ∃ (k : Nat), k ≤ xs.length ∧ i = iv k ∧ Hid (findFrom (fun x => decide ((⟨ra, rb, rc, rd⟩ : Rule) = x)) (xs.drop k) k = findFrom (fun x => decide ((⟨ra, rb, rc, rd⟩ : Rule) = x)) xs 0) ∧ Below w0.heap.size w0 wr) (fun _ i _ => xs.length - (intOf i).toNat)
  case atStart => exact ⟨0, by omega, rfl, rfl, Below.refl _ _⟩
  case round =>
    obtain ⟨k, hk, rfl, hf, hbw⟩ := hrel
    have hbb := hb0.trans (hbw.mono (Nat.le_of_lt hB0.lt))
    obtain ⟨q0, q1, q2, q3, q4, q5⟩ := (hB0.under hbw).facts
    by_cases hlt : k < xs.length
    · obtain ⟨b, off, p, rfl, hb, hp, hp0, hp1, hp2, hp3⟩ := ((hs.below hb0).below hbw).atR hlt
      have hf' := hf.out
      rw [drop_at hp] at hf'
      simp only [findFrom] at hf'
      have HF := Lib.hid hf'
      obtain ⟨pa, pb, pc, pd⟩ := p
      dsimp only at hp0 hp1 hp2 hp3
      have hlx : (k : Int) < (xs.length : Int) := by omega
      have heq : ∀ w, (Op.equalIn 10000 27 (.agg #[iv ra, iv rb, iv rc, iv rd]) (.agg #[iv pa, iv pb, iv pc, iv pd])).run Try.prog w = .ok (decide ((⟨ra, rb, rc, rd⟩ : Rule) = ⟨pa, pb, pc, pd⟩)) w := fun w => eqRuleD ⟨ra, rb, rc, rd⟩ ⟨pa, pb, pc, pd⟩ w
      clear hf hf' hp hs
      by_cases hpq : (⟨ra, rb, rc, rd⟩ : Rule) = ⟨pa, pb, pc, pd⟩
      · rw [decide_eq_true hpq] at heq
        have h2 := HF.out
        (first | rw [if_pos (decide_eq_true hpq)] at h2 | rw [if_pos hpq] at h2)
        replace HF := Lib.hid h2
        clear h2
        have HPQ := Lib.hid hpq
        clear hpq
        go_wp2
        go_region
        go_wp2
        go_ret
        exact ⟨ret_eq (by rw [← HF.out]; rfl), (by first | exact hbb | exact hbb.drew)⟩
      · rw [decide_eq_false hpq] at heq
        have h2 := HF.out
        (first | rw [if_neg (by rw [decide_eq_false hpq]; decide)] at h2 | rw [if_neg hpq] at h2)
        replace HF := Lib.hid h2
        clear h2
        have HPQ := Lib.hid hpq
        clear hpq
        go_wp2
        go_region
        go_wp2
        go_roundw
        case rel => exact ⟨k + 1, by omega, by go_num, by exact HF.out, (by first | exact hbw | exact hbw.drew)⟩
        case measure => simp [intOf]; omega
    · have hf' := hf.out
      rw [drop_end hlt] at hf'
      have HF := Lib.hid hf'
      clear hf hf'
      go_wp2
      go_ret
      exact ⟨ret_eq (by rw [← HF.out]; rfl), hbb⟩
theorem contains_any (r : Rule) (xs : List Rule) (k : Int) (hk : 0 ≤ k) : decide (0 ≤ findFrom (fun x => decide (r = x)) xs k) = xs.contains r := by
  rw [findFrom_nonneg _ xs k hk]
  induction xs with
  | nil => rfl
  | cons x xs ih => simp only [List.any_cons, ih, List.contains_cons]; congr 1
theorem containsRule (A : Option Addr) (xs : List Rule) (c : Nat) (r : Rule) (w : World) (hm : xs.length ≤ big) (hs : Sl ruleE w A xs) :
    Calls Try.prog 103 #[.slice A xs.length c, r.v] w fun e w' => e = .returned (.bool (xs.contains r)) ∧ Below w.heap.size w w' := by
  obtain ⟨ra, rb, rc, rd⟩ := r
  have HI := Lib.hid (indexRule A xs c ⟨ra, rb, rc, rd⟩ (w.alloc (.cells #[iv ra, iv rb, iv rc, iv rd] 27)) hm (hs.alloc _))
  have HC := Lib.hid (contains_any ⟨ra, rb, rc, rd⟩ xs 0 (Int.le_refl 0))
  generalize findFrom (fun x => decide ((⟨ra, rb, rc, rd⟩ : Rule) = x)) xs 0 = fi at *
  go_enter Try.func103, Try.ntmps103
  go_wp2_with (go_at_call 133; refine HI.out.mono ?_; rintro e w1 ⟨rfl, hb1⟩)
  go_ret
  exact ⟨ret_eq (by rw [← HC.out]; rfl), hb1.of_alloc⟩
end Go.Proofs.Ytblmlpkjocbhpaa
