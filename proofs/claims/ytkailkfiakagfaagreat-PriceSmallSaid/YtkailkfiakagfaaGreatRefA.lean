/- The small functions of the reference: off, Is, Holds, named. Condition: a rule's numbers are not less than -1. -/
import Derived.Test.YtkailkfiakagfaaGreatPriceA
import Derived.Test.YtkailkfiakagfaaGreatMem2
import Derived.Test.YtkailkfiakagfaaGreatEqR
set_option linter.unusedVariables false
set_option linter.unusedSimpArgs false
namespace Go.Proofs.YtkailkfiakagfaaGreat
open Go.RowKit
set_option maxRecDepth 100000
theorem off_spec (n lo hi : Int) (w : World) : Calls Tryz.prog 67 #[iv n, iv lo, iv hi] w
    fun e w' => e = .returned (.bool (!Price.inB n lo hi)) ∧ w = w' := by
  by_cases h1 : lo ≤ n <;> by_cases h2 : n ≤ hi
  all_goals
    go_enter Tryz.func67, Tryz.ntmps67
    go_wp2
    go_ret
    exact ⟨by simp [Price.inB, *] <;> omega, rfl⟩
theorem is2_spec (p : Piece) (w : World) : Calls Tryz.prog 22 #[p.v] w
    fun e w' => e = .returned (.bool (Price.isP p)) ∧ Below w.heap.size w w' := by
  obtain ⟨a, b, c⟩ := p
  cases h1 : Price.inB a 0 3 <;> cases h2 : Price.inB b 0 4 <;> cases h3 : Price.inB c 0 2
  all_goals
    go_enter Tryz.func22, Tryz.ntmps22
    go_wp2_with (go_at_call 67; refine (off_spec _ _ _ _).mono ?_; rintro e w' ⟨rfl, rfl⟩; first | rw [h1] | rw [h2] | rw [h3])
    go_ret
    exact ⟨ret_eq (by simp [Price.isP, h1, h2, h3]), (Below.refl _ _).alloc (Nat.le_refl _) _⟩
theorem named2_spec (r : Rule) (hr : -1 ≤ r.b ∧ -1 ≤ r.s ∧ -1 ≤ r.e) (w : World) : Calls Tryz.prog 68 #[r.v] w
    fun e w' => e = .returned (iv (Price.many r)) ∧ Below w.heap.size w w' := by
  obtain ⟨a, b, c, p⟩ := r
  obtain ⟨ha, hb, hc⟩ := hr
  dsimp only at ha hb hc
  by_cases h1 : a = -1 <;> by_cases h2 : b = -1 <;> by_cases h3 : c = -1 <;> (try subst h1) <;> (try subst h2) <;> (try subst h3)
  all_goals
    (try have g1 : 0 ≤ a := by omega)
    (try have g2 : 0 ≤ b := by omega)
    (try have g3 : 0 ≤ c := by omega)
    go_enter Tryz.func68, Tryz.ntmps68
    go_wp2
    go_ret
    exact ⟨ret_eq (by simp [Price.many, Price.one, *]), (Below.refl _ _).alloc (Nat.le_refl _) _⟩
set_option maxHeartbeats 4000000 in
theorem holds2_spec (r : Rule) (q : Piece) (hr : -1 ≤ r.b ∧ -1 ≤ r.s ∧ -1 ≤ r.e) (w : World) : Calls Tryz.prog 23 #[r.v, q.v] w
    fun e w' => e = .returned (.bool (Price.holds r q)) ∧ Below w.heap.size w w' := by
  obtain ⟨a, b, c, p⟩ := r
  obtain ⟨x, y, z⟩ := q
  obtain ⟨ha, hb, hc⟩ := hr
  dsimp only at ha hb hc
  refine three a x _ (fun h1 => ?_) (fun h1 g1 => ?_) (fun g1 h1 => ?_)
  rotate_right
  · have a0 : 0 ≤ a := by have := bne_iff_ne.1 g1; omega
    go_enter Tryz.func23, Tryz.ntmps23
    go_wp2
    go_ret
    exact ⟨ret_eq (by (try simp only [bne_iff_ne] at *); simp [Price.holds, Price.fits, *]), ((Below.refl _ _).alloc (Nat.le_refl _) _).alloc (by simp) _⟩
  all_goals
    subst h1
    (try have a0 : 0 ≤ a := by (have := bne_iff_ne.1 g1; omega))
    refine three b y _ (fun h2 => ?_) (fun h2 g2 => ?_) (fun g2 h2 => ?_)
    rotate_right
    · have b0 : 0 ≤ b := by have := bne_iff_ne.1 g2; omega
      go_enter Tryz.func23, Tryz.ntmps23
      go_wp2
      go_ret
      exact ⟨ret_eq (by (try simp only [bne_iff_ne] at *); simp [Price.holds, Price.fits, *]), ((Below.refl _ _).alloc (Nat.le_refl _) _).alloc (by simp) _⟩
    all_goals
      subst h2
      (try have b0 : 0 ≤ b := by (have := bne_iff_ne.1 g2; omega))
      refine three c z _ (fun h3 => ?_) (fun h3 g3 => ?_) (fun g3 h3 => ?_)
      rotate_right
      · have c0 : 0 ≤ c := by have := bne_iff_ne.1 g3; omega
        go_enter Tryz.func23, Tryz.ntmps23
        go_wp2
        go_ret
        exact ⟨ret_eq (by (try simp only [bne_iff_ne] at *); simp [Price.holds, Price.fits, *]), ((Below.refl _ _).alloc (Nat.le_refl _) _).alloc (by simp) _⟩
      all_goals
        subst h3
        (try have c0 : 0 ≤ c := by (have := bne_iff_ne.1 g3; omega))
        go_enter Tryz.func23, Tryz.ntmps23
        go_wp2
        go_ret
        exact ⟨ret_eq (by (try simp only [bne_iff_ne] at *); simp [Price.holds, Price.fits, *]), ((Below.refl _ _).alloc (Nat.le_refl _) _).alloc (by simp) _⟩
end Go.Proofs.YtkailkfiakagfaaGreat
-- The reference's error of a list. Condition: lengths are below a great bound.
namespace Go.Proofs.YtkailkfiakagfaaGreat
open Go.RowKit
set_option maxRecDepth 100000
theorem fieldsRule2 : ((Tryz.prog).fieldsOf 61).toList.map (fun f => (f.name, f.type, f.offset)) = [("Breadth", 3, 0), ("Shade", 3, 1), ("Edge", 3, 2), ("Price", 3, 3)] := by kernel_rfl
theorem eqRule2 (a b c g d e f h : Int) (w : World) : (Op.equalIn 10000 61 (.agg #[iv a, iv b, iv c, iv g]) (.agg #[iv d, iv e, iv f, iv h])).run Tryz.prog w = .ok (a == d && (b == e && (c == f && g == h))) w := by
  have hh := run_equalIn_agg (P := Tryz.prog) w 9999 61 #[iv a, iv b, iv c, iv g] #[iv d, iv e, iv f, iv h] (by kernel_rfl) (by kernel_rfl)
  rw [hh]
  have h3 : ∀ (x y : Int) (d : Nat), (Op.equalIn (d + 1) 3 (iv x) (iv y)).run Tryz.prog w = .ok (x == y) w := fun x y d => run_equalIn_int w d _ _ _ _ _ Tryz.underlying3
  have hf := fieldsRule2
  have hlen : ((Tryz.prog).fieldsOf 61).toList.length = 4 := by have := congrArg List.length hf; simpa using this
  obtain ⟨f0, f1, f2, f3, hl⟩ := len4 _ hlen
  rw [hl] at hf ⊢
  simp only [List.map_cons, List.map_nil, List.cons.injEq, Prod.mk.injEq, and_true] at hf
  obtain ⟨⟨n0, t0, o0⟩, ⟨n1, t1, o1⟩, ⟨n2, t2, o2⟩, n3, t3, o3⟩ := hf
  have hp0 : ∀ a b c d : Int, (part 3 #[iv a, iv b, iv c, iv d] 0).run Tryz.prog w = .ok (iv a) w := fun _ _ _ _ => by kernel_rfl
  have hp1 : ∀ a b c d : Int, (part 3 #[iv a, iv b, iv c, iv d] 1).run Tryz.prog w = .ok (iv b) w := fun _ _ _ _ => by kernel_rfl
  have hp2 : ∀ a b c d : Int, (part 3 #[iv a, iv b, iv c, iv d] 2).run Tryz.prog w = .ok (iv c) w := fun _ _ _ _ => by kernel_rfl
  have hp3 : ∀ a b c d : Int, (part 3 #[iv a, iv b, iv c, iv d] 3).run Tryz.prog w = .ok (iv d) w := fun _ _ _ _ => by kernel_rfl
  simp only [Op.eqFields, n0, n1, n2, n3, t0, t1, t2, t3, o0, o1, o2, o3]
  by_cases h1 : a = d <;> by_cases h2 : b = e <;> by_cases h3' : c = f <;> by_cases h4 : g = h <;>
    simp [hp0, hp1, hp2, hp3, h3, Result.andThen, h1, h2, h3', h4, Sem.run_bind]
theorem eqRule2D (p q : Rule) (w : World) : (Op.equalIn 10000 61 p.v q.v).run Tryz.prog w = .ok (decide (p = q)) w := by
  obtain ⟨pa, pb, pc, pd⟩ := p
  obtain ⟨qa, qb, qc, qd⟩ := q
  rw [eqRule2]
  congr 1
  by_cases h1 : pa = qa <;> by_cases h2 : pb = qb <;> by_cases h3 : pc = qc <;> by_cases h4 : pd = qd <;> simp [h1, h2, h3, h4]
set_option maxHeartbeats 4000000 in
theorem check2_spec (A : Option Addr) (l : List Rule) (c : Nat) (w : World) (hm : l.length ≤ big) (hs : Sl ruleE w A l) :
    Calls Tryz.prog 21 #[.slice A l.length c] w fun e w' => e = .returned (iv (Price.check l)) ∧ Below w.heap.size w w' := by
  unfold big at hm
  by_cases h8 : l.length ≤ 8
  · have h8' : ¬ (8 : Int) < (l.length : Int) := by omega
    go_enter Tryz.func21, Tryz.ntmps21
    go_wp2
    go_loopw [3] (fun i wr => ∃ (k : Nat), k ≤ l.length ∧ i = iv k ∧ Hid ((l.drop k).all Price.allowed = l.all Price.allowed) ∧ w = wr) (fun i _ => l.length - (intOf i).toNat)
    case atStart => exact ⟨0, by omega, rfl, rfl, rfl⟩
    case round =>
      obtain ⟨k, hk, rfl, hf, rfl⟩ := hrel
      by_cases hlt : k < l.length
      · obtain ⟨b, off, r, rfl, hb, hx, hc0, hc1, hc2, hc3⟩ := hs.atR hlt
        have hf' := hf.out
        rw [drop_at hx, List.all_cons] at hf'
        have HF := Lib.hid hf'
        clear hf hf' hx
        obtain ⟨ra, rb, rc, rd⟩ := r
        dsimp only at hc0 hc1 hc2 hc3
        by_cases ha : Price.allowed ⟨ra, rb, rc, rd⟩ = true
        · have ha' := ha
          simp only [Price.allowed, Bool.and_eq_true] at ha'
          obtain ⟨a1, a2, a3, a4⟩ := ha'
          go_wp2_with (go_at_call 67; refine (off_spec _ _ _ _).mono ?_; rintro e w' ⟨rfl, rfl⟩; first | rw [a1] | rw [a2] | rw [a3] | rw [a4])
          go_roundw
          case rel => exact ⟨k + 1, by omega, by go_num, by have := HF.out; rw [ha, Bool.true_and] at this; exact this, by first | rfl | trivial⟩
          case measure => simp [intOf]; omega
        · have hall : l.all Price.allowed = false := by have := HF.out; rw [Bool.eq_false_iff.2 ha, Bool.false_and] at this; exact this.symm
          have hck : Price.check l = 3 := by unfold Price.check; rw [if_neg (by omega), hall]; rfl
          have HCK := Lib.hid hck
          clear hck hall HF
          cases a1 : Price.inB ra (-1) 3 <;> cases a2 : Price.inB rb (-1) 4 <;> cases a3 : Price.inB rc (-1) 2 <;> cases a4 : Price.inB rd 0 500
          rotate_right
          · exact absurd (by simp [Price.allowed, a1, a2, a3, a4]) ha
          all_goals
            clear ha
            go_wp2_with (go_at_call 67; refine (off_spec _ _ _ _).mono ?_; rintro e w' ⟨rfl, rfl⟩; first | rw [a1] | rw [a2] | rw [a3] | rw [a4])
            go_ret
            exact ⟨ret_eq (by rw [HCK.out]; rfl), Below.refl _ _⟩
      · have hall : l.all Price.allowed = true := by have := hf.out; rw [drop_end hlt] at this; exact this.symm
        have hck : Price.check l = if Price.dupIn [] l then 5 else 0 := by unfold Price.check; rw [if_neg (by omega), if_pos hall]
        have HCK := Lib.hid hck
        clear hck hall hf
        go_wp2
        go_loopw [4, 5] (fun i _ wr => ∃ (k : Nat), k ≤ l.length ∧ i = iv k ∧ Hid (Price.dupIn (l.take k) (l.drop k) = Price.dupIn [] l) ∧ Below w.heap.size w wr) (fun i _ _ => l.length - (intOf i).toNat)
        case atStart => exact ⟨0, by omega, rfl, rfl, Below.refl _ _⟩
        case round =>
          obtain ⟨k, hk, rfl, hf, hbw⟩ := hrel
          by_cases hlt : k < l.length
          · obtain ⟨b, off, r, rfl, hb, hx, hc0, hc1, hc2, hc3⟩ := (hs.below hbw).atR hlt
            have hf' := hf.out
            rw [drop_at hx] at hf'
            simp only [Price.dupIn] at hf'
            rw [← take_at hx] at hf'
            have HF := Lib.hid hf'
            clear hf hf'
            have HX := Lib.hid hx
            clear hx
            obtain ⟨wo, rfl⟩ : ∃ wo : World, wo = wr := ⟨_, rfl⟩
            have hlk : (k : Int) < (l.length : Int) := by omega
            go_wp2
            go_loopw [5] (fun i wr => ∃ (j : Nat), j ≤ k ∧ i = iv j ∧ Hid ((l.take j).contains r = false) ∧ Below w.heap.size w wr) (fun i _ => k - (intOf i).toNat)
            case atStart => exact ⟨0, by omega, rfl, rfl, hbw⟩
            case round =>
              obtain ⟨j, hj, rfl, hg, hbw2⟩ := hrel
              by_cases hjk : j < k
              · obtain ⟨b2, off2, r2, hA2, hb2, hx2, hd0, hd1, hd2, hd3⟩ := (hs.below hbw2).atR (k := j) (by omega)
                obtain ⟨b1, off1, r1, hA1, hb1, hx1, he0, he1, he2, he3⟩ := (hs.below hbw2).atR hlt
                injection hA2 with hA2
                injection hA2 with e1 e2
                injection hA1 with hA1
                injection hA1 with e3 e4
                subst e1 e2 e3 e4
                rw [HX.out] at hx1
                injection hx1 with hx1
                subst hx1
                have heq := fun w => eqRule2D r r2 w
                have HX2 := Lib.hid hx2
                obtain ⟨pa, pb, pc, pd⟩ := r
                obtain ⟨qa, qb, qc, qd⟩ := r2
                dsimp only at *
                have hlj : (j : Int) < (l.length : Int) := by omega
                clear hx2 hb2 hb1 hs
                by_cases hpq : (⟨pa, pb, pc, pd⟩ : Rule) = ⟨qa, qb, qc, qd⟩
                · rw [decide_eq_true hpq] at heq
                  have HPQ := Lib.hid hpq
                  clear hpq
                  go_wp2
                  go_region
                  go_wp2
                  go_ret
                  refine ⟨ret_eq ?_, (by first | exact hbw2 | exact hbw2.drew)⟩
                  have hmem : (l.take k).contains (⟨pa, pb, pc, pd⟩ : Rule) = true := by
                    rw [List.contains_iff_mem, HPQ.out]
                    exact List.mem_of_getElem? (i := j) (by rw [List.getElem?_take_of_lt hjk]; exact HX2.out)
                  rw [HCK.out, ← HF.out, hmem]; rfl
                · rw [decide_eq_false hpq] at heq
                  have HPQ := Lib.hid hpq
                  clear hpq
                  go_wp2
                  go_region
                  go_wp2
                  go_roundw
                  case rel => exact ⟨j + 1, by omega, by go_num, by
                    show (l.take (j + 1)).contains _ = false
                    rw [take_at HX2.out, List.contains_append, hg.out]
                    simpa using HPQ.out, (by first | exact hbw2 | exact hbw2.drew)⟩
                  case measure => simp [intOf]; omega
              · obtain rfl : j = k := by omega
                have hf' := HF.out
                rw [hg.out, Bool.false_or] at hf'
                have HF2 := Lib.hid hf'
                clear HF hf'
                go_wp2
                go_roundw
                case rel => exact ⟨j + 1, by omega, by go_num, HF2.out, hbw2⟩
                case measure => simp [intOf]; omega
          · have hf' := hf.out
            rw [drop_end hlt] at hf'
            have hck : Price.check l = 0 := by rw [HCK.out, ← hf']; rfl
            have HC2 := Lib.hid hck
            clear hf hf' hck HCK
            go_wp2
            go_ret
            exact ⟨ret_eq (by rw [HC2.out]; rfl), hbw⟩
  · have h8' : (8 : Int) < (l.length : Int) := by omega
    have hck : Price.check l = 2 := by unfold Price.check; rw [if_pos (by omega)]
    have HC2 := Lib.hid hck
    clear hck
    go_enter Tryz.func21, Tryz.ntmps21
    go_wp2
    go_ret
    exact ⟨ret_eq (by rw [HC2.out]; rfl), Below.refl _ _⟩
end Go.Proofs.YtkailkfiakagfaaGreat
