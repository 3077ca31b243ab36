/- The error of a list. Condition: lengths are below a great bound. -/
import Derived.Test.YtkailkfiakagfaaGreatSlicesR
import Derived.Test.YtkailkfiakagfaaGreatDraw
set_option linter.unusedVariables false
set_option linter.unusedSimpArgs false
namespace Go.Proofs.YtkailkfiakagfaaGreat
open Go.RowKit
theorem eqNames (a b c d e f : Int) (w : World) : (Op.equalIn 10000 104 (.agg #[iv a, iv b, iv c]) (.agg #[iv d, iv e, iv f])).run Tryz.prog w = .ok (a == d && (b == e && c == f)) w := by
  have h3 : ∀ (x y : Int) (d : Nat), (Op.equalIn (d + 1) 3 (iv x) (iv y)).run Tryz.prog w = .ok (x == y) w := fun x y d => run_equalIn_int w d _ _ _ _ _ Tryz.underlying3
  have hs : (sizeOf 3).run Tryz.prog w = .ok 1 w := by kernel_rfl
  have hp0 : ∀ a b c : Int, (part 3 #[iv a, iv b, iv c] 0).run Tryz.prog w = .ok (iv a) w := fun _ _ _ => by kernel_rfl
  have hp1 : ∀ a b c : Int, (part 3 #[iv a, iv b, iv c] 1).run Tryz.prog w = .ok (iv b) w := fun _ _ _ => by kernel_rfl
  have hp2 : ∀ a b c : Int, (part 3 #[iv a, iv b, iv c] 2).run Tryz.prog w = .ok (iv c) w := fun _ _ _ => by kernel_rfl
  show (Op.equalIn (9998 + 1 + 1) _ _ _).run Tryz.prog w = _
  unfold Op.equalIn
  simp only [Sem.run_bind, run_underlying Tryz.underlying104, Result.andThen_ok, hs]
  simp only [Std.Legacy.Range.forIn_eq_forIn_range', Std.Legacy.Range.size]
  have hp : ∀ b : Bool, (pure b : Sem Bool).run Tryz.prog w = .ok b w := fun _ => rfl
  by_cases h1 : a = d <;> by_cases h2 : b = e <;> by_cases h3' : c = f <;>
    simp [List.range', hp0, hp1, hp2, h3, Result.andThen, h1, h2, h3', Sem.run_bind, hp]
theorem allowedPred (w : World) (l : List Rule) : IsPred Tryz.prog w 58 #[] Rule.v l Price.allowed :=
  ⟨callFunc_run (by kernel_rfl), fun x _ w' _ => allowed_spec x w'⟩
set_option maxRecDepth 100000 in
set_option maxHeartbeats 4000000 in
theorem check_spec (A : Option Addr) (l : List Rule) (c : Nat) (w : World) (hm : l.length ≤ big) (hc : l.length ≤ c) (hs : Sl ruleE w A l) :
    Calls Tryz.prog 12 #[.slice A l.length c] w fun e w' => e = .returned (iv (Price.check l)) ∧ Below w.heap.size w w' := by
  have hm' := hm
  unfold big at hm'
  by_cases h8 : 8 < l.length
  · go_enter Tryz.func12, Tryz.ntmps12
    go_wp2
    go_ret
    exact ⟨ret_eq (by simp [Price.check, h8]), Below.refl _ _⟩
  · cases ha : l.all Price.allowed
    · go_enter Tryz.func12, Tryz.ntmps12
      go_wp2_with (go_at_call 57; refine (everyR A l c _ #[] _ _ hm hs (allowedPred w l)).mono ?_; rintro e w1 ⟨rfl, hb1⟩; rw [ha])
      go_ret
      exact ⟨ret_eq (by simp [Price.check, h8, ha]), hb1⟩
    · go_enter Tryz.func12, Tryz.ntmps12
      go_wp2_with (go_at_call 57; refine (everyR A l c _ #[] _ _ hm hs (allowedPred w l)).mono ?_; rintro e w1 ⟨rfl, hb1⟩; rw [ha])
      have hval : Price.check l = if Price.dupIn [] l then 5 else 0 := by simp [Price.check, h8, ha]
      have HV0 := Lib.hid hval
      clear hval ha
      go_loopw [17] (fun i wr => ∃ (k : Nat), k ≤ l.length ∧ i = iv k ∧ Hid (Price.dupIn (l.take k) (l.drop k) = Price.dupIn [] l) ∧ Below w.heap.size w wr) (fun i _ => l.length - (intOf i).toNat)
      case atStart => exact ⟨0, by omega, rfl, rfl, hb1⟩
      case round =>
        obtain ⟨k, hk, rfl, hf, hbw⟩ := hrel
        have hs1 := hs.below hbw
        by_cases hlt : k < l.length
        · obtain ⟨b, off, x, rfl, hb, hx, hc0, hc1, hc2, hc3⟩ := hs1.atR hlt
          go_wp2
          obtain ⟨W2, hW2⟩ : ∃ W2, W2 = wr.alloc (.cells #[.int .i64 x.b, .int .i64 x.s, .int .i64 x.e, .int .i64 x.p] 28) := ⟨_, rfl⟩
          have hb2 : Below wr.heap.size wr W2 := by rw [hW2]; exact (Below.refl _ _).alloc (Nat.le_refl _) _
          have hr1 : W2.cell? ⟨wr.heap.size, 0, none⟩ = some (iv x.b) ∧ W2.cell? ⟨wr.heap.size, 1, none⟩ = some (iv x.s) ∧ W2.cell? ⟨wr.heap.size, 2, none⟩ = some (iv x.e) ∧ W2.cell? ⟨wr.heap.size, 3, none⟩ = some (iv x.p) := by rw [hW2]; simp [go_sem]
          have hz2 : wr.heap.size < W2.heap.size := by rw [hW2]; simp
          rw [← hW2]
          clear hW2
          obtain ⟨wo, rfl⟩ : ∃ wo : World, wo = wr := ⟨_, rfl⟩
          go_loopw [26] (fun i wr => ∃ (j : Nat), j ≤ k ∧ i = iv j ∧ Hid ((((l.take k).drop j).contains x || Price.dupIn (l.take k ++ [x]) (l.drop (k + 1))) = Price.dupIn [] l) ∧ Below W2.heap.size W2 wr) (fun i _ => k - (intOf i).toNat)
          case atStart => exact ⟨0, by omega, rfl, by rw [← hf.out, drop_at hx]; simp [Price.dupIn, Hid], Below.refl _ _⟩
          case round =>
            obtain ⟨j, hj, rfl, hg, hbi⟩ := hrel
            have hs2 := (hs1.below hb2).below hbi
            by_cases hjt : j < k
            · obtain ⟨b, off, y, hA, hb', hy, hd0, hd1, hd2, hd3⟩ := hs2.atR (k := j) (by omega)
              injection hA with hA
              injection hA with e1 e2
              subst e1 e2
              obtain ⟨hq0, hq1, hq2, hq3⟩ := hr1
              go_wp2
              obtain ⟨m, mf, ml, me, mn, mx⟩ := aft hbi (wo.heap.size) (by (try simp [go_sem]); (try omega)); (try simp [go_sem] at m mf)
              obtain ⟨W3, hW3⟩ : ∃ W3, W3 = wr.alloc (.cells #[.int .i64 y.b, .int .i64 y.s, .int .i64 y.e, .int .i64 y.p] 28) := ⟨_, rfl⟩
              have hb3 : Below wr.heap.size wr W3 := by rw [hW3]; exact (Below.refl _ _).alloc (Nat.le_refl _) _
              have hr3 : (W3.cell? ⟨wr.heap.size, 0, none⟩ = some (iv y.b) ∧ W3.cell? ⟨wr.heap.size, 1, none⟩ = some (iv y.s) ∧ W3.cell? ⟨wr.heap.size, 2, none⟩ = some (iv y.e) ∧ W3.cell? ⟨wr.heap.size, 3, none⟩ = some (iv y.p)) ∧
                (W3.cell? ⟨wo.heap.size, 0, none⟩ = some (iv x.b) ∧ W3.cell? ⟨wo.heap.size, 1, none⟩ = some (iv x.s) ∧ W3.cell? ⟨wo.heap.size, 2, none⟩ = some (iv x.e) ∧ W3.cell? ⟨wo.heap.size, 3, none⟩ = some (iv x.p)) := by rw [hW3]; simp [go_sem, m, ml, hq0, hq1, hq2, hq3]
              have hz3 : wr.heap.size < W3.heap.size := by rw [hW3]; simp
              rw [← hW3]
              clear hW3
              have hF : ∀ a : World, Below W3.heap.size W3 a → ((a.cell? ⟨wr.heap.size, 0, none⟩ = some (iv y.b) ∧ a.cell? ⟨wr.heap.size, 1, none⟩ = some (iv y.s) ∧ a.cell? ⟨wr.heap.size, 2, none⟩ = some (iv y.e) ∧ a.cell? ⟨wr.heap.size, 3, none⟩ = some (iv y.p)) ∧
                (a.cell? ⟨wo.heap.size, 0, none⟩ = some (iv x.b) ∧ a.cell? ⟨wo.heap.size, 1, none⟩ = some (iv x.s) ∧ a.cell? ⟨wo.heap.size, 2, none⟩ = some (iv x.e) ∧ a.cell? ⟨wo.heap.size, 3, none⟩ = some (iv x.p))) := fun a h => by
                have := hb3.size
                have := hbi.size
                obtain ⟨k1, _⟩ := aft h wr.heap.size ⟨hz3, hz3⟩
                obtain ⟨k2, _⟩ := aft h wo.heap.size ⟨by omega, by omega⟩
                simp only [k1, k2]
                exact hr3
              have HF := Lib.hid hF
              clear hF
              have hcd : ((l.take k).drop j).contains x = (x == y || ((l.take k).drop (j + 1)).contains x) := by
                rw [drop_at (x := y) (by rw [List.getElem?_take, if_pos hjt]; exact hy), List.contains_cons]
              have hg' := hg.out
              rw [hcd] at hg'
              have HG := Lib.hid hg'
              clear hcd hg' hg hf
              obtain ⟨ya, yb, yc, yd⟩ := y
              obtain ⟨xa, xb, xc, xd⟩ := x
              dsimp only at *
              have heq : ∀ w, (Op.equalIn 10000 104 (.agg #[iv xa, iv xb, iv xc]) (.agg #[iv ya, iv yb, iv yc])).run Tryz.prog w = .ok (xa == ya && (xb == yb && xc == yc)) w := eqNames xa xb xc ya yb yc
              cases hn : (xa == ya && (xb == yb && xc == yc))
              · rw [hn] at heq
                refine wp_havoc_lit (by kernel_rfl) (by kernel_rfl) ?_
                repeat (first
                  | (refine hv_skip (by rfl) ?_; simp only [Act.put, List.setIfInBounds_toArray, List.set_cons_zero, List.set_cons_succ])
                  | (apply hv_val (by rfl); (intro w hw; have F := HF.out w hw; go_simp; exact rfl); simp only [Act.put, List.setIfInBounds_toArray, List.set_cons_zero, List.set_cons_succ])
                  | (apply hv_call (by rfl); (intro w hw; have F := HF.out w hw; go_simp; exact ⟨rfl, rfl⟩); (intro w hw; have F := HF.out w hw; with_reducible exact names_spec ⟨_, _, _, _⟩ w); simp only [Act.put, List.setIfInBounds_toArray, List.set_cons_zero, List.set_cons_succ]))
                refine hv_nil ?_
                rintro w4 hb4
                go_wp2
                go_roundw
                case rel => exact ⟨j + 1, by omega, by go_num, by
                  have := HG.out
                  rw [show ((⟨xa, xb, xc, xd⟩ : Rule) == ⟨ya, yb, yc, yd⟩) = false from by rw [← Bool.not_eq_true, beq_iff_eq]; intro e; injection e with e1 e2 e3; subst e1 e2 e3; simp at hn, Bool.false_or] at this
                  exact this, (hbi.next hb3 (Nat.le_refl _)).next hb4 (Nat.le_refl _)⟩
                case measure => simp [intOf]; omega
              · rw [hn] at heq
                simp only [Bool.and_eq_true, beq_iff_eq] at hn
                obtain ⟨rfl, rfl, rfl⟩ := hn
                by_cases hp : xd = yd
                · subst hp
                  refine wp_havoc_lit (by kernel_rfl) (by kernel_rfl) ?_
                  repeat (first
                    | (refine hv_skip (by rfl) ?_; simp only [Act.put, List.setIfInBounds_toArray, List.set_cons_zero, List.set_cons_succ])
                    | (apply hv_val (by rfl); (intro w hw; have F := HF.out w hw; go_simp; exact rfl); simp only [Act.put, List.setIfInBounds_toArray, List.set_cons_zero, List.set_cons_succ])
                    | (apply hv_call (by rfl); (intro w hw; have F := HF.out w hw; go_simp; exact ⟨rfl, rfl⟩); (intro w hw; have F := HF.out w hw; with_reducible exact names_spec ⟨_, _, _, _⟩ w); simp only [Act.put, List.setIfInBounds_toArray, List.set_cons_zero, List.set_cons_succ]))
                  refine hv_nil ?_
                  rintro w4 hb4
                  go_wp2
                  go_ret
                  exact ⟨ret_eq (by rw [HV0.out, ← HG.out]; simp), hbw.next ((hb2.next (hbi.next hb3 (Nat.le_refl _)) (Nat.le_refl _)).next hb4 (Nat.le_refl _)) (Nat.le_refl _)⟩
                · have hp' : (xd == yd) = false := by simpa using hp
                  refine wp_havoc_lit (by kernel_rfl) (by kernel_rfl) ?_
                  repeat (first
                    | (refine hv_skip (by rfl) ?_; simp only [Act.put, List.setIfInBounds_toArray, List.set_cons_zero, List.set_cons_succ])
                    | (apply hv_val (by rfl); (intro w hw; have F := HF.out w hw; go_simp; exact rfl); simp only [Act.put, List.setIfInBounds_toArray, List.set_cons_zero, List.set_cons_succ])
                    | (apply hv_call (by rfl); (intro w hw; have F := HF.out w hw; go_simp; exact ⟨rfl, rfl⟩); (intro w hw; have F := HF.out w hw; with_reducible exact names_spec ⟨_, _, _, _⟩ w); simp only [Act.put, List.setIfInBounds_toArray, List.set_cons_zero, List.set_cons_succ]))
                  refine hv_nil ?_
                  rintro w4 hb4
                  go_wp2
                  go_roundw
                  case rel => exact ⟨j + 1, by omega, by go_num, by
                    have := HG.out
                    rw [show ((⟨xa, xb, xc, xd⟩ : Rule) == ⟨xa, xb, xc, yd⟩) = false from by rw [← Bool.not_eq_true, beq_iff_eq]; intro e; injection e with e1 e2 e3 e4; exact hp e4, Bool.false_or] at this
                    exact this, (hbi.next hb3 (Nat.le_refl _)).next hb4 (Nat.le_refl _)⟩
                  case measure => simp [intOf]; omega
            · have hz := hg.out
              rw [List.drop_eq_nil_of_le (by simp; omega), List.contains_nil, Bool.false_or] at hz
              have HZ := Lib.hid hz
              clear hz hg hf
              go_wp2
              go_roundw
              case rel => exact ⟨k + 1, by omega, by go_num, by rw [take_at hx]; exact HZ.out, (hbw.next hb2 (Nat.le_refl _)).next (hbi.mono (by have := hb2.size; omega)) (Nat.le_refl _)⟩
              case measure => simp [intOf]; omega
        · have hz := hf.out
          rw [drop_end hlt] at hz
          have HZ := Lib.hid hz
          clear hz hf
          go_wp2
          go_ret
          exact ⟨ret_eq (by rw [HV0.out, ← HZ.out]; rfl), hbw⟩
end Go.Proofs.YtkailkfiakagfaaGreat
