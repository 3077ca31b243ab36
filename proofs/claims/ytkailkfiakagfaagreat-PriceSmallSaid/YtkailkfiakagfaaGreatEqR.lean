/- petershamkit.Eq of rules and of numbers; slices.Contains of a rule. Condition: lengths are below a great bound. -/
import Derived.Test.YtkailkfiakagfaaGreatPriceS
set_option linter.unusedVariables false
set_option linter.unusedSimpArgs false
namespace Go.Proofs.YtkailkfiakagfaaGreat
open Go.RowKit Go.Shelf
set_option maxRecDepth 100000

theorem len4 {α : Type} (l : List α) (h : l.length = 4) : ∃ a b c d, l = [a, b, c, d] := by
  match l, h with
  | [a, b, c, d], _ => exact ⟨a, b, c, d, rfl⟩
theorem fieldsRule : ((Tryz.prog).fieldsOf 28).toList.map (fun f => (f.name, f.type, f.offset)) = [("Breadth", 3, 0), ("Shade", 3, 1), ("Edge", 3, 2), ("Price", 3, 3)] := by kernel_rfl
theorem eqRule (a b c g d e f h : Int) (w : World) : (Op.equalIn 10000 28 (.agg #[iv a, iv b, iv c, iv g]) (.agg #[iv d, iv e, iv f, iv h])).run Tryz.prog w = .ok (a == d && (b == e && (c == f && g == h))) w := by
  have hh := run_equalIn_agg (P := Tryz.prog) w 9999 28 #[iv a, iv b, iv c, iv g] #[iv d, iv e, iv f, iv h] (by kernel_rfl) (by kernel_rfl)
  rw [hh]
  have h3 : ∀ (x y : Int) (d : Nat), (Op.equalIn (d + 1) 3 (iv x) (iv y)).run Tryz.prog w = .ok (x == y) w := fun x y d => run_equalIn_int w d _ _ _ _ _ Tryz.underlying3
  have hf := fieldsRule
  have hlen : ((Tryz.prog).fieldsOf 28).toList.length = 4 := by have := congrArg List.length hf; simpa using this
  obtain ⟨f0, f1, f2, f3, hl⟩ := len4 _ hlen
  rw [hl] at hf ⊢
  simp only [List.map_cons, List.map_nil, List.cons.injEq, Prod.mk.injEq, and_true] at hf
  obtain ⟨⟨n0, t0, o0⟩, ⟨n1, t1, o1⟩, ⟨n2, t2, o2⟩, n3, t3, o3⟩ := hf
  have hp0 : ∀ a b c d : Int, (part 3 #[iv a, iv b, iv c, iv d] 0).run Tryz.prog w = .ok (iv a) w := fun _ _ _ _ => by kernel_rfl
  have hp1 : ∀ a b c d : Int, (part 3 #[iv a, iv b, iv c, iv d] 1).run Tryz.prog w = .ok (iv b) w := fun _ _ _ _ => by kernel_rfl
  have hp2 : ∀ a b c d : Int, (part 3 #[iv a, iv b, iv c, iv d] 2).run Tryz.prog w = .ok (iv c) w := fun _ _ _ _ => by kernel_rfl
  have hp3 : ∀ a b c d : Int, (part 3 #[iv a, iv b, iv c, iv d] 3).run Tryz.prog w = .ok (iv d) w := fun _ _ _ _ => by kernel_rfl
  simp only [Op.eqFields, n0, n1, n2, n3, t0, t1, t2, t3, o0, o1, o2, o3]
  by_cases h1 : a = d <;> by_cases h2 : b = e <;> by_cases h3' : c = f <;> by_cases h4 : g = h <;>
    simp [hp0, hp1, hp2, hp3, h3, Result.andThen, h1, h2, h3', h4, Sem.run_bind]
theorem eqRuleD (p q : Rule) (w : World) : (Op.equalIn 10000 28 p.v q.v).run Tryz.prog w = .ok (decide (p = q)) w := by
  obtain ⟨pa, pb, pc, pd⟩ := p
  obtain ⟨qa, qb, qc, qd⟩ := q
  rw [eqRule]
  congr 1
  by_cases h1 : pa = qa <;> by_cases h2 : pb = qb <;> by_cases h3 : pc = qc <;> by_cases h4 : pd = qd <;> simp [h1, h2, h3, h4]
set_option maxHeartbeats 1000000 in
theorem equalR (A : Option Addr) (xs : List Rule) (c : Nat) (A' : Option Addr) (ys : List Rule) (c' : Nat) (w : World) (hm : xs.length ≤ big) (hs : Sl ruleE w A xs) (hm' : ys.length ≤ big) (hs' : Sl ruleE w A' ys) :
    Calls Tryz.prog 74 #[.slice A xs.length c, .slice A' ys.length c'] w fun e w' => e = .returned (.bool (decide (xs = ys))) ∧ Below w.heap.size w w' := by
  unfold big at hm hm'
  by_cases hl : xs.length = ys.length
  · have hl' : ((xs.length : Int) != (ys.length : Int)) = false := by simp [hl]
    have HL := Lib.hid hl
    clear hl
    go_enter Tryz.func74, Tryz.ntmps74
    go_wp2
    go_loopw [5, 13] (fun _ i wr => ∃ (k : Nat), k ≤ xs.length ∧ i = iv k ∧ Hid (xs.take k = ys.take k) ∧ Below w.heap.size w wr) (fun _ i _ => xs.length - (intOf i).toNat)
    case atStart => exact ⟨0, by omega, rfl, rfl, Below.refl _ _⟩
    case round =>
      obtain ⟨k, hk, rfl, hf, hbw⟩ := hrel
      by_cases hlt : k < xs.length
      · obtain ⟨b, off, p, rfl, hb, hp, hp0, hp1, hp2, hp3⟩ := (hs.below hbw).atR hlt
        obtain ⟨b', off', q, rfl, hb', hq, hq0, hq1, hq2, hq3⟩ := (hs'.below hbw).atR (by have := HL.out; omega : k < ys.length)
        obtain ⟨pa, pb, pc, pd⟩ := p
        obtain ⟨qa, qb, qc, qd⟩ := q
        dsimp only at hp0 hp1 hp2 hp3 hq0 hq1 hq2 hq3
        have hly : (k : Int) < (ys.length : Int) := by have := HL.out; omega
        have hlx : (k : Int) < (xs.length : Int) := by omega
        have heq : ∀ w, (Op.equalIn 10000 28 (.agg #[iv pa, iv pb, iv pc, iv pd]) (.agg #[iv qa, iv qb, iv qc, iv qd])).run Tryz.prog w = .ok (decide ((⟨pa, pb, pc, pd⟩ : Rule) = ⟨qa, qb, qc, qd⟩)) w := fun w => by
          exact eqRuleD ⟨pa, pb, pc, pd⟩ ⟨qa, qb, qc, qd⟩ w
        have HP := Lib.hid hp
        have HQ := Lib.hid hq
        clear hp hq hs hs'
        by_cases hpq : (⟨pa, pb, pc, pd⟩ : Rule) = ⟨qa, qb, qc, qd⟩
        · rw [decide_eq_true hpq] at heq
          have HPQ := Lib.hid hpq
          clear hpq
          go_wp2
          go_region
          go_wp2
          go_roundw
          case rel => exact ⟨k + 1, by omega, by go_num, by
            show xs.take (k + 1) = ys.take (k + 1)
            rw [List.take_add_one, List.take_add_one, HP.out, HQ.out, HPQ.out, hf.out], (by first | exact hbw | exact hbw.drew)⟩
          case measure => simp [intOf]; omega
        · rw [decide_eq_false hpq] at heq
          have HPQ := Lib.hid hpq
          clear hpq
          go_wp2
          go_region
          go_wp2
          go_ret
          exact ⟨ret_eq (by rw [decide_eq_false (take_ne HP.out HQ.out HPQ.out)]; rfl), (by first | exact hbw | exact hbw.drew)⟩
      · have he : xs = ys := by
          have := hf.out
          rwa [List.take_of_length_le (by omega), List.take_of_length_le (by have := HL.out; omega)] at this
        have HE := Lib.hid he
        clear he
        go_wp2
        go_ret
        exact ⟨ret_eq (by rw [decide_eq_true HE.out]; rfl), (by first | exact hbw | exact hbw.drew)⟩
  · have hl' : ((xs.length : Int) != (ys.length : Int)) = true := by simp; omega
    go_enter Tryz.func74, Tryz.ntmps74
    go_wp2
    go_ret
    exact ⟨ret_eq (by rw [decide_eq_false (fun h => hl (by rw [h]))]; rfl), Below.refl _ _⟩
theorem eqR (A : Option Addr) (xs : List Rule) (c : Nat) (A' : Option Addr) (ys : List Rule) (c' : Nat) (w : World) (hm : xs.length ≤ big) (hs : Sl ruleE w A xs) (hm' : ys.length ≤ big) (hs' : Sl ruleE w A' ys) :
    Calls Tryz.prog 29 #[.slice A xs.length c, .slice A' ys.length c'] w fun e w' => e = .returned (.bool (decide (xs = ys))) ∧ Below w.heap.size w w' := by
  go_enter Tryz.func29, Tryz.ntmps29
  go_wp2_with (go_at_call 74; refine (equalR A xs c A' ys c' w hm hs hm' hs').mono ?_; rintro e w1 ⟨rfl, hb1⟩)
  go_ret
  exact ⟨rfl, hb1⟩
set_option maxHeartbeats 1000000 in
theorem equalI (A : Option Addr) (xs : List Int) (c : Nat) (A' : Option Addr) (ys : List Int) (c' : Nat) (w : World) (hm : xs.length ≤ big) (hs : Sl intE w A xs) (hm' : ys.length ≤ big) (hs' : Sl intE w A' ys) :
    Calls Tryz.prog 73 #[.slice A xs.length c, .slice A' ys.length c'] w fun e w' => e = .returned (.bool (decide (xs = ys))) ∧ Below w.heap.size w w' := by
  unfold big at hm hm'
  by_cases hl : xs.length = ys.length
  · have hl' : ((xs.length : Int) != (ys.length : Int)) = false := by simp [hl]
    have HL := Lib.hid hl
    clear hl
    go_enter Tryz.func73, Tryz.ntmps73
    go_wp2
    go_loopw [5, 13] (fun _ i wr => ∃ (k : Nat), k ≤ xs.length ∧ i = iv k ∧ Hid (xs.take k = ys.take k) ∧ Below w.heap.size w wr) (fun _ i _ => xs.length - (intOf i).toNat)
    case atStart => exact ⟨0, by omega, rfl, rfl, Below.refl _ _⟩
    case round =>
      obtain ⟨k, hk, rfl, hf, hbw⟩ := hrel
      by_cases hlt : k < xs.length
      · obtain ⟨b, off, p, rfl, hb, hp, hp0⟩ := (hs.below hbw).atI hlt
        obtain ⟨b', off', q, rfl, hb', hq, hq0⟩ := (hs'.below hbw).atI (by have := HL.out; omega : k < ys.length)
        have hly : (k : Int) < (ys.length : Int) := by have := HL.out; omega
        have hlx : (k : Int) < (xs.length : Int) := by omega
        have HP := Lib.hid hp
        have HQ := Lib.hid hq
        clear hp hq hs hs'
        by_cases hpq : p = q
        · have hpq' : (p != q) = false := by simp [hpq]
          have HPQ := Lib.hid hpq
          clear hpq
          go_wp2
          go_region
          go_wp2
          go_roundw
          case rel => exact ⟨k + 1, by omega, by go_num, by
            show xs.take (k + 1) = ys.take (k + 1)
            rw [List.take_add_one, List.take_add_one, HP.out, HQ.out, HPQ.out, hf.out], (by first | exact hbw | exact hbw.drew)⟩
          case measure => simp [intOf]; omega
        · have hpq' : (p != q) = true := by simp [hpq]
          have HPQ := Lib.hid hpq
          clear hpq
          go_wp2
          go_region
          go_wp2
          go_ret
          exact ⟨ret_eq (by rw [decide_eq_false (take_ne HP.out HQ.out HPQ.out)]; rfl), (by first | exact hbw | exact hbw.drew)⟩
      · have he : xs = ys := by
          have := hf.out
          rwa [List.take_of_length_le (by omega), List.take_of_length_le (by have := HL.out; omega)] at this
        have HE := Lib.hid he
        clear he
        go_wp2
        go_ret
        exact ⟨ret_eq (by rw [decide_eq_true HE.out]; rfl), (by first | exact hbw | exact hbw.drew)⟩
  · have hl' : ((xs.length : Int) != (ys.length : Int)) = true := by simp; omega
    go_enter Tryz.func73, Tryz.ntmps73
    go_wp2
    go_ret
    exact ⟨ret_eq (by rw [decide_eq_false (fun h => hl (by rw [h]))]; rfl), Below.refl _ _⟩
theorem eqI (A : Option Addr) (xs : List Int) (c : Nat) (A' : Option Addr) (ys : List Int) (c' : Nat) (w : World) (hm : xs.length ≤ big) (hs : Sl intE w A xs) (hm' : ys.length ≤ big) (hs' : Sl intE w A' ys) :
    Calls Tryz.prog 28 #[.slice A xs.length c, .slice A' ys.length c'] w fun e w' => e = .returned (.bool (decide (xs = ys))) ∧ Below w.heap.size w w' := by
  go_enter Tryz.func28, Tryz.ntmps28
  go_wp2_with (go_at_call 73; refine (equalI A xs c A' ys c' w hm hs hm' hs').mono ?_; rintro e w1 ⟨rfl, hb1⟩)
  go_ret
  exact ⟨rfl, hb1⟩
end Go.Proofs.YtkailkfiakagfaaGreat
