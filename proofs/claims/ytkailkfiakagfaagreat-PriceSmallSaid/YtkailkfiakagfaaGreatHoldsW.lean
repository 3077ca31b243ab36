/- Holds, Counts, Add of package price. Conditions: lengths are below a great bound. -/
import Derived.Test.YtkailkfiakagfaaGreatPriceJ
import Derived.Test.YtkailkfiakagfaaGreatStep
import Derived.Test.YtkailkfiakagfaaGreatDraw
import Derived.Test.YtkailkfiakagfaaGreatPriceS
set_option linter.unusedVariables false
set_option linter.unusedSimpArgs false
namespace Go.Proofs.YtkailkfiakagfaaGreat
open Go.RowKit Go.Shelf
set_option maxRecDepth 100000
namespace Price
def holdsOf (l : List Rule) (rule : Int) (p : Piece) : Bool × Int :=
  if check l = 0 then (if inB rule 0 (l.length - 1) then (if isP p then (holds (l.getD rule.toNat default) p, 0) else (false, 3)) else (false, 1)) else (false, check l)
def countsOf (l : List Rule) (p : Piece) : List Int × Int := if check l = 0 then (if isP p then (counts l p, 0) else ([], 3)) else ([], check l)
def addOf (l : List Rule) (r : Rule) : List Rule × Int :=
  if check l = 0 then (if l.length = 8 then ([], 9) else (if check (l ++ [r]) = 0 then (l ++ [r], 0) else ([], check (l ++ [r])))) else ([], check l)
end Price
set_option maxHeartbeats 2000000 in
theorem Holds_spec (A : Option Addr) (l : List Rule) (c : Nat) (rule : Int) (q : Piece) (w : World) (hm : l.length ≤ big) (hc : l.length ≤ c) (hs : Sl ruleE w A l) :
    Calls Tryz.prog 25 #[.slice A l.length c, iv rule, q.v] w fun e w' => e = .returned (.tuple #[.bool (Price.holdsOf l rule q).1, iv (Price.holdsOf l rule q).2]) ∧ Below w.heap.size w w' := by
  obtain ⟨x, y, z⟩ := q
  have hb0 : Below w.heap.size w (w.alloc (.cells #[iv x, iv y, iv z] 26)) := (Below.refl _ _).alloc (Nat.le_refl _) _
  have hB0 : Blk (w.alloc (.cells #[iv x, iv y, iv z] 26)) w.heap.size 26 #[iv x, iv y, iv z] := Blk.new _ _ _
  have HC := Lib.hid (check_spec A l c (w.alloc (.cells #[iv x, iv y, iv z] 26)) hm hc (hs.below hb0))
  unfold big at hm
  by_cases h0 : Price.check l = 0
  · rw [h0] at HC
    cases h1 : Price.inB rule 0 (l.length - 1)
    · have HV : Hid (Price.holdsOf l rule ⟨x, y, z⟩ = (false, 1)) := by refine Lib.hid ?_; unfold Price.holdsOf; rw [if_pos h0, h1]; rfl
      clear h0
      go_enter Tryz.func25, Tryz.ntmps25
      go_wp2_with fail
      refine HC.out.mono ?_
      rintro e w1 ⟨rfl, hb1⟩
      go_wp2_with (go_at_call 60; refine (in_spec _ _ _ _).mono ?_; rintro e w' ⟨rfl, rfl⟩; rw [h1])
      go_ret2
      exact ⟨by rw [HV.out]; rfl, hb1.of_alloc⟩
    · cases h2 : Price.isP ⟨x, y, z⟩
      · have HV : Hid (Price.holdsOf l rule ⟨x, y, z⟩ = (false, 3)) := by refine Lib.hid ?_; unfold Price.holdsOf; rw [if_pos h0, h1, h2]; rfl
        clear h0
        go_enter Tryz.func25, Tryz.ntmps25
        go_wp2_with fail
        refine HC.out.mono ?_
        rintro e w1 ⟨rfl, hb1⟩
        have k0 := (hB0.under hb1).facts
        obtain ⟨m0, m1, m2, m3, m4, m5⟩ := k0
        go_wp2_with (first
          | (go_at_call 60; refine (in_spec _ _ _ _).mono ?_; rintro e w' ⟨rfl, rfl⟩; rw [h1])
          | (go_at_call 69; refine (is_spec ⟨x, y, z⟩ _).mono ?_; rintro e w2 ⟨rfl, hb2⟩; rw [h2]))
        go_ret2
        exact ⟨by rw [HV.out]; rfl, hb1.of_alloc.next hb2 (Nat.le_refl _)⟩
      · have h1' := h1
        simp only [Price.inB, Bool.and_eq_true, decide_eq_true_eq] at h1'
        obtain ⟨i, rfl⟩ := Int.eq_ofNat_of_zero_le h1'.1
        have hil : i < l.length := by omega
        have hli : (i : Int) < (l.length : Int) := by omega
        obtain ⟨b, off, r, hA, hb, hx, hc0, hc1, hc2, hc3⟩ := hs.atR hil
        have HV : Hid (Price.holdsOf l i ⟨x, y, z⟩ = (Price.holds r ⟨x, y, z⟩, 0)) := by
          refine Lib.hid ?_
          unfold Price.holdsOf
          rw [if_pos h0, h1, h2, if_pos rfl, if_pos rfl, List.getD_eq_getElem?_getD, Int.toNat_natCast, hx]; rfl
        obtain ⟨ra, rb, rc, rd⟩ := r
        dsimp only at hc0 hc1 hc2 hc3
        have HH := Lib.hid (fun a : World => holds_spec ⟨ra, rb, rc, rd⟩ ⟨x, y, z⟩ a)
        generalize Price.holds ⟨ra, rb, rc, rd⟩ ⟨x, y, z⟩ = hd at *
        subst hA
        clear h0 h1' hx
        go_enter Tryz.func25, Tryz.ntmps25
        go_wp2_with fail
        refine HC.out.mono ?_
        rintro e w1 ⟨rfl, hb1⟩
        have hB1 := hB0.under hb1
        have k0 := hB1.facts
        obtain ⟨m0, m1, m2, m3, m4, m5⟩ := k0
        have hb01 := hb1.of_alloc
        go_wp2_with (first
          | (go_at_call 60; refine (in_spec _ _ _ _).mono ?_; rintro e w' ⟨rfl, rfl⟩; rw [h1])
          | (go_at_call 69; refine (is_spec ⟨x, y, z⟩ _).mono ?_; rintro e w2 ⟨rfl, hb2⟩; rw [h2]))
        have HFF : Hid (∀ a : World, Below w2.heap.size w2 a → a.cell? ⟨w.heap.size, 0, none⟩ = some (iv x) ∧ a.cell? ⟨w.heap.size, 1, none⟩ = some (iv y) ∧ a.cell? ⟨w.heap.size, 2, none⟩ = some (iv z) ∧ a.cell? ⟨b, off + i * 4, none⟩ = some (iv ra) ∧ a.cell? ⟨b, off + i * 4 + 1, none⟩ = some (iv rb) ∧ a.cell? ⟨b, off + i * 4 + 2, none⟩ = some (iv rc) ∧ a.cell? ⟨b, off + i * 4 + 3, none⟩ = some (iv rd)) := fun a h => by
          have hB := (hB1.under hb2).under h
          have hbb := (hb01.next hb2 (Nat.le_refl _)).next h (Nat.le_refl _)
          exact ⟨hB.cell 0, hB.cell 1, hB.cell 2, (hbb.cell (p := ⟨b, off + i * 4, none⟩) hb).trans hc0, (hbb.cell (p := ⟨b, off + i * 4 + 1, none⟩) hb).trans hc1, (hbb.cell (p := ⟨b, off + i * 4 + 2, none⟩) hb).trans hc2, (hbb.cell (p := ⟨b, off + i * 4 + 3, none⟩) hb).trans hc3⟩
        clear m0 m1 m2 m3 m4 m5
        refine wp_havoc_lit (by kernel_rfl) (by kernel_rfl) ?_
        repeat (first
          | (refine hv_skip (by rfl) ?_; simp only [Act.put, List.setIfInBounds_toArray, List.set_cons_zero, List.set_cons_succ])
          | (apply hv_val (by rfl); (intro w hw; have F := HFF.out w hw; go_simp; exact rfl); simp only [Act.put, List.setIfInBounds_toArray, List.set_cons_zero, List.set_cons_succ])
          | (apply hv_call (by rfl); (intro w hw; have F := HFF.out w hw; go_simp; exact ⟨rfl, rfl⟩); (intro w hw; have F := HFF.out w hw; with_reducible exact HH.out w); simp only [Act.put, List.setIfInBounds_toArray, List.set_cons_zero, List.set_cons_succ]))
        refine hv_nil ?_
        rintro w3 hb3
        go_wp2
        go_ret2
        exact ⟨by rw [HV.out]; rfl, (hb01.next hb2 (Nat.le_refl _)).next hb3 (Nat.le_refl _)⟩
  · have HV : Hid (Price.holdsOf l rule ⟨x, y, z⟩ = (false, Price.check l)) := by refine Lib.hid ?_; unfold Price.holdsOf; rw [if_neg h0]
    have h0' : (Price.check l != 0) = true := bne_iff_ne.2 h0
    go_enter Tryz.func25, Tryz.ntmps25
    go_wp2_with fail
    refine HC.out.mono ?_
    rintro e w1 ⟨rfl, hb1⟩
    go_wp2
    go_ret2
    exact ⟨by rw [HV.out]; rfl, hb1.of_alloc⟩
theorem Counts_spec (A : Option Addr) (l : List Rule) (c : Nat) (q : Piece) (w : World) (hm : l.length ≤ big) (hc : l.length ≤ c) (hs : Sl ruleE w A l) :
    Calls Tryz.prog 26 #[.slice A l.length c, q.v] w fun e w' => ∃ v, e = .returned (.tuple #[v, iv (Price.countsOf l q).2]) ∧ Own intE 3 w.heap.size w' v (Price.countsOf l q).1 ∧ Below w.heap.size w w' := by
  obtain ⟨x, y, z⟩ := q
  have hb0 : Below w.heap.size w (w.alloc (.cells #[iv x, iv y, iv z] 26)) := (Below.refl _ _).alloc (Nat.le_refl _) _
  have hB0 : Blk (w.alloc (.cells #[iv x, iv y, iv z] 26)) w.heap.size 26 #[iv x, iv y, iv z] := Blk.new _ _ _
  have HC := Lib.hid (check_spec A l c (w.alloc (.cells #[iv x, iv y, iv z] 26)) hm hc (hs.below hb0))
  have hs0 := hs.below hb0
  by_cases h0 : Price.check l = 0
  · rw [h0] at HC
    cases h2 : Price.isP ⟨x, y, z⟩
    · have HV : Hid (Price.countsOf l ⟨x, y, z⟩ = ([], 3)) := by refine Lib.hid ?_; unfold Price.countsOf; rw [if_pos h0, h2]; rfl
      clear h0
      go_enter Tryz.func26, Tryz.ntmps26
      go_wp2_with fail
      refine HC.out.mono ?_
      rintro e w1 ⟨rfl, hb1⟩
      obtain ⟨m0, m1, m2, m3, m4, m5⟩ := (hB0.under hb1).facts
      go_wp2_with (go_at_call 69; refine (is_spec ⟨x, y, z⟩ _).mono ?_; rintro e w2 ⟨rfl, hb2⟩; rw [h2])
      go_ret2
      exact ⟨_, by rw [HV.out]; rfl, by rw [HV.out]; exact Own.nil, hb1.of_alloc.next hb2 (Nat.le_refl _)⟩
    · have HV : Hid (Price.countsOf l ⟨x, y, z⟩ = (Price.counts l ⟨x, y, z⟩, 0)) := by refine Lib.hid ?_; unfold Price.countsOf; rw [if_pos h0, h2]; rfl
      clear h0
      go_enter Tryz.func26, Tryz.ntmps26
      go_wp2_with fail
      refine HC.out.mono ?_
      rintro e w1 ⟨rfl, hb1⟩
      have hB1 := hB0.under hb1
      obtain ⟨m0, m1, m2, m3, m4, m5⟩ := hB1.facts
      go_wp2_with fail
      refine (is_spec ⟨x, y, z⟩ _).mono ?_
      rintro e w2 ⟨rfl, hb2⟩
      rw [h2]
      obtain ⟨n0, n1, n2, n3, n4, n5⟩ := (hB1.under hb2).facts
      go_wp2_with fail
      refine (counts_spec A l c ⟨x, y, z⟩ w2 hm ((hs0.below hb1).below hb2)).mono ?_
      rintro e w3 ⟨v, rfl, hown, hb3⟩
      go_wp2_with fail
      go_ret2
      have hb02 := hb1.of_alloc.next hb2 (Nat.le_refl _)
      exact ⟨v, by rw [HV.out]; rfl, by rw [HV.out]; exact hown.base hb02.size, hb02.next hb3 (Nat.le_refl _)⟩
  · have HV : Hid (Price.countsOf l ⟨x, y, z⟩ = ([], Price.check l)) := by refine Lib.hid ?_; unfold Price.countsOf; rw [if_neg h0]
    have h0' : (Price.check l != 0) = true := bne_iff_ne.2 h0
    go_enter Tryz.func26, Tryz.ntmps26
    go_wp2_with fail
    refine HC.out.mono ?_
    rintro e w1 ⟨rfl, hb1⟩
    go_wp2
    go_ret2
    exact ⟨_, by rw [HV.out]; rfl, by rw [HV.out]; exact Own.nil, hb1.of_alloc⟩
set_option maxHeartbeats 4000000 in
theorem Add_spec (A : Option Addr) (l : List Rule) (c : Nat) (r : Rule) (w : World) (hm : l.length ≤ 1000000) (hc : l.length ≤ c) (hs : Sl ruleE w A l) :
    Calls Tryz.prog 27 #[.slice A l.length c, r.v] w fun e w' => ∃ v, e = .returned (.tuple #[v, iv (Price.addOf l r).2]) ∧ Own ruleE 28 w.heap.size w' v (Price.addOf l r).1 ∧ Below w.heap.size w w' := by
  obtain ⟨ra, rb, rc, rd⟩ := r
  have hb0 : Below w.heap.size w (w.alloc (.cells #[iv ra, iv rb, iv rc, iv rd] 28)) := (Below.refl _ _).alloc (Nat.le_refl _) _
  have hB0 : Blk (w.alloc (.cells #[iv ra, iv rb, iv rc, iv rd] 28)) w.heap.size 28 #[iv ra, iv rb, iv rc, iv rd] := Blk.new _ _ _
  have HC := Lib.hid (check_spec A l c (w.alloc (.cells #[iv ra, iv rb, iv rc, iv rd] 28)) (by unfold big; omega) hc (hs.below hb0))
  by_cases h0 : Price.check l = 0
  · rw [h0] at HC
    by_cases h8 : l.length = 8
    · have HV : Hid (Price.addOf l ⟨ra, rb, rc, rd⟩ = ([], 9)) := by refine Lib.hid ?_; unfold Price.addOf; rw [if_pos h0, if_pos h8]
      have h8' : ((l.length : Int) == 8) = true := by rw [h8]; rfl
      have H8 := Lib.hid h8
      clear h0 h8
      go_enter Tryz.func27, Tryz.ntmps27
      go_wp2_with fail
      refine HC.out.mono ?_
      rintro e w1 ⟨rfl, hb1⟩
      go_wp2
      go_ret2
      exact ⟨_, by rw [HV.out]; rfl, by rw [HV.out]; exact Own.nil, hb1.of_alloc⟩
    · have h8' : ((l.length : Int) == 8) = false := beq_eq_false_iff_ne.2 (by omega)
      by_cases h3 : Price.check (l ++ [⟨ra, rb, rc, rd⟩]) = 0
      · have HV : Hid (Price.addOf l ⟨ra, rb, rc, rd⟩ = (l ++ [⟨ra, rb, rc, rd⟩], 0)) := by refine Lib.hid ?_; unfold Price.addOf; rw [if_pos h0, if_neg h8, if_pos h3]
        have H3 := Lib.hid h3
        clear h0 h8 h3
        go_enter Tryz.func27, Tryz.ntmps27
        go_wp2_with fail
        refine HC.out.mono ?_
        rintro e w1 ⟨rfl, hb1⟩
        have hB1 := hB0.under hb1
        have hb01 := hb1.of_alloc
        have hs1 := hs.below hb01
        have f0 := hB1.cell 0
        have f1 := hB1.cell 1
        have f2 := hB1.cell 2
        have f3 := hB1.cell 3
        have HCL : Hid (∀ W, Below w1.heap.size w1 W → Calls Tryz.prog 72 #[.slice A l.length c] W fun e w' => ∃ v, e = .returned v ∧ Own ruleE 28 W.heap.size w' v l ∧ Below W.heap.size W w') := fun W hW => cloneR A l c W (by unfold big; omega) (hs1.below hW)
        have HS : Hid (∀ a : World, Below w1.heap.size w1 a → Below w1.heap.size w1 a ∧ (a.cell? ⟨w.heap.size, 0, none⟩ = some (iv ra) ∧ a.cell? ⟨w.heap.size, 1, none⟩ = some (iv rb) ∧ a.cell? ⟨w.heap.size, 2, none⟩ = some (iv rc) ∧ a.cell? ⟨w.heap.size, 3, none⟩ = some (iv rd))) := fun a h => ⟨h, (hB1.under h).cell 0, (hB1.under h).cell 1, (hB1.under h).cell 2, (hB1.under h).cell 3⟩
        have HK0 := Lib.hid (HS.out w1.drew (Below.refl _ _).drew)
        clear hB0 hB1 HC hs hs1
        go_wp2_with fail
        go_region_held3 (fun a => Below w1.heap.size w1 a ∧ (a.cell? ⟨w.heap.size, 0, none⟩ = some (iv ra) ∧ a.cell? ⟨w.heap.size, 1, none⟩ = some (iv rb) ∧ a.cell? ⟨w.heap.size, 2, none⟩ = some (iv rc) ∧ a.cell? ⟨w.heap.size, 3, none⟩ = some (iv rd)))
          (first | with_reducible assumption | exact HK0.out | exact HS.out _ ((Below.refl _ w1).drew.alloc (Nat.le_refl _) _) | exact HS.out _ HX2.out | exact HS.out _ HX1.out | exact HS.out _ (HX1.out.alloc HX1.out.size _))
          (first
            | (go_at_call 72; refine (HCL.out _ (And.left ‹Below w1.heap.size w1 _ ∧ _›)).mono ?_; rintro e x1 ⟨v, rfl, hown, hbx⟩; have HX1 := Lib.hid ((And.left ‹Below w1.heap.size w1 _ ∧ _›).next hbx (Nat.le_refl _)); obtain ⟨A', c', rfl, _, _⟩ := hown.form)
            | (refine stepAppS ruleE tyRules (by rfl) _ _ (by rfl) hown ((Sl.fresh ruleE w1.drew 28 #[iv ra, iv rb, iv rc, iv rd] [⟨ra, rb, rc, rd⟩] rfl (by simp [maxLen])).below hbx) rfl (by rfl) (by rfl) (by rfl) hbx.size (by unfold big; simp; omega) ?_; intro v' x2 hown2 hbx2 _; have HX2 := Lib.hid (HX1.out.trans (hbx2.mono (by simp))); have hown3 := Lib.hid (hown2.base (B' := w1.heap.size) (by simp)); obtain ⟨A2, c2, rfl, hc2, hm2⟩ := hown2.form; have hsl2 := hown2.sl)
            | (refine stepAppS ruleE tyRules (by rfl) _ _ (by rfl) (hown.below ((Below.refl _ x1).alloc (Nat.le_refl _) _)) (Sl.fresh ruleE x1 28 #[iv ra, iv rb, iv rc, iv rd] [⟨ra, rb, rc, rd⟩] rfl (by simp [maxLen])) rfl (by rfl) (by rfl) (by rfl) (Nat.le_trans hbx.size (by simp)) (by unfold big; simp; omega) ?_; intro v' x2 hown2 hbx2 _; have HX2 := Lib.hid ((HX1.out.alloc HX1.out.size _).trans hbx2); have hown3 := Lib.hid (hown2.base (B' := w1.heap.size) (by simp)); obtain ⟨A2, c2, rfl, hc2, hm2⟩ := hown2.form; have hsl2 := hown2.sl))
        all_goals
          have HC2 := Lib.hid (check_spec A2 (l ++ [⟨ra, rb, rc, rd⟩]) c2 x2 (by simp; unfold big; omega) hc2 hsl2)
          have hb02 := hb01.trans (HX2.out.mono hb01.size)
          have hlen : (l ++ [(⟨ra, rb, rc, rd⟩ : Rule)]).length = l.length + 1 := by simp
          rw [hlen] at HC2 hown3
          clear hsl2 hown hown2 hc2 hm2
          rw [H3.out] at HC2
          go_wp2_with fail
          refine HC2.out.mono ?_
          rintro e x3 ⟨rfl, hb3⟩
          go_wp2
          go_ret2
          exact ⟨_, by rw [HV.out]; rfl, by rw [HV.out]; exact (hown3.out.below hb3).base hb01.size, hb02.next hb3 (Nat.le_refl _)⟩
      · have HV : Hid (Price.addOf l ⟨ra, rb, rc, rd⟩ = ([], Price.check (l ++ [⟨ra, rb, rc, rd⟩]))) := by refine Lib.hid ?_; unfold Price.addOf; rw [if_pos h0, if_neg h8, if_neg h3]
        have h3' : (Price.check (l ++ [⟨ra, rb, rc, rd⟩]) != 0) = true := bne_iff_ne.2 h3
        clear h0 h8 h3
        go_enter Tryz.func27, Tryz.ntmps27
        go_wp2_with fail
        refine HC.out.mono ?_
        rintro e w1 ⟨rfl, hb1⟩
        have hB1 := hB0.under hb1
        have hb01 := hb1.of_alloc
        have hs1 := hs.below hb01
        have f0 := hB1.cell 0
        have f1 := hB1.cell 1
        have f2 := hB1.cell 2
        have f3 := hB1.cell 3
        have HCL : Hid (∀ W, Below w1.heap.size w1 W → Calls Tryz.prog 72 #[.slice A l.length c] W fun e w' => ∃ v, e = .returned v ∧ Own ruleE 28 W.heap.size w' v l ∧ Below W.heap.size W w') := fun W hW => cloneR A l c W (by unfold big; omega) (hs1.below hW)
        have HS : Hid (∀ a : World, Below w1.heap.size w1 a → Below w1.heap.size w1 a ∧ (a.cell? ⟨w.heap.size, 0, none⟩ = some (iv ra) ∧ a.cell? ⟨w.heap.size, 1, none⟩ = some (iv rb) ∧ a.cell? ⟨w.heap.size, 2, none⟩ = some (iv rc) ∧ a.cell? ⟨w.heap.size, 3, none⟩ = some (iv rd))) := fun a h => ⟨h, (hB1.under h).cell 0, (hB1.under h).cell 1, (hB1.under h).cell 2, (hB1.under h).cell 3⟩
        have HK0 := Lib.hid (HS.out w1.drew (Below.refl _ _).drew)
        clear hB0 hB1 HC hs hs1
        go_wp2_with fail
        go_region_held3 (fun a => Below w1.heap.size w1 a ∧ (a.cell? ⟨w.heap.size, 0, none⟩ = some (iv ra) ∧ a.cell? ⟨w.heap.size, 1, none⟩ = some (iv rb) ∧ a.cell? ⟨w.heap.size, 2, none⟩ = some (iv rc) ∧ a.cell? ⟨w.heap.size, 3, none⟩ = some (iv rd)))
          (first | with_reducible assumption | exact HK0.out | exact HS.out _ ((Below.refl _ w1).drew.alloc (Nat.le_refl _) _) | exact HS.out _ HX2.out | exact HS.out _ HX1.out | exact HS.out _ (HX1.out.alloc HX1.out.size _))
          (first
            | (go_at_call 72; refine (HCL.out _ (And.left ‹Below w1.heap.size w1 _ ∧ _›)).mono ?_; rintro e x1 ⟨v, rfl, hown, hbx⟩; have HX1 := Lib.hid ((And.left ‹Below w1.heap.size w1 _ ∧ _›).next hbx (Nat.le_refl _)); obtain ⟨A', c', rfl, _, _⟩ := hown.form)
            | (refine stepAppS ruleE tyRules (by rfl) _ _ (by rfl) hown ((Sl.fresh ruleE w1.drew 28 #[iv ra, iv rb, iv rc, iv rd] [⟨ra, rb, rc, rd⟩] rfl (by simp [maxLen])).below hbx) rfl (by rfl) (by rfl) (by rfl) hbx.size (by unfold big; simp; omega) ?_; intro v' x2 hown2 hbx2 _; have HX2 := Lib.hid (HX1.out.trans (hbx2.mono (by simp))); have hown3 := Lib.hid (hown2.base (B' := w1.heap.size) (by simp)); obtain ⟨A2, c2, rfl, hc2, hm2⟩ := hown2.form; have hsl2 := hown2.sl)
            | (refine stepAppS ruleE tyRules (by rfl) _ _ (by rfl) (hown.below ((Below.refl _ x1).alloc (Nat.le_refl _) _)) (Sl.fresh ruleE x1 28 #[iv ra, iv rb, iv rc, iv rd] [⟨ra, rb, rc, rd⟩] rfl (by simp [maxLen])) rfl (by rfl) (by rfl) (by rfl) (Nat.le_trans hbx.size (by simp)) (by unfold big; simp; omega) ?_; intro v' x2 hown2 hbx2 _; have HX2 := Lib.hid ((HX1.out.alloc HX1.out.size _).trans hbx2); have hown3 := Lib.hid (hown2.base (B' := w1.heap.size) (by simp)); obtain ⟨A2, c2, rfl, hc2, hm2⟩ := hown2.form; have hsl2 := hown2.sl))
        all_goals
          have HC2 := Lib.hid (check_spec A2 (l ++ [⟨ra, rb, rc, rd⟩]) c2 x2 (by simp; unfold big; omega) hc2 hsl2)
          have hb02 := hb01.trans (HX2.out.mono hb01.size)
          have hlen : (l ++ [(⟨ra, rb, rc, rd⟩ : Rule)]).length = l.length + 1 := by simp
          rw [hlen] at HC2 hown3
          clear hsl2 hown hown2 hc2 hm2
          go_wp2_with fail
          refine HC2.out.mono ?_
          rintro e x3 ⟨rfl, hb3⟩
          go_wp2
          go_ret2
          exact ⟨_, by rw [HV.out]; rfl, by rw [HV.out]; exact Own.nil, hb02.next hb3 (Nat.le_refl _)⟩
  · have HV : Hid (Price.addOf l ⟨ra, rb, rc, rd⟩ = ([], Price.check l)) := by refine Lib.hid ?_; unfold Price.addOf; rw [if_neg h0]
    have h0' : (Price.check l != 0) = true := bne_iff_ne.2 h0
    go_enter Tryz.func27, Tryz.ntmps27
    go_wp2_with fail
    refine HC.out.mono ?_
    rintro e w1 ⟨rfl, hb1⟩
    go_wp2
    go_ret2
    exact ⟨_, by rw [HV.out]; rfl, by rw [HV.out]; exact Own.nil, hb1.of_alloc⟩
end Go.Proofs.YtkailkfiakagfaaGreat
