/- The reference's price of a piece, all pieces, rules as the reference's. Conditions: lengths are below a great bound; rules are allowed. -/
import Derived.Test.YtblmlpkjocbhpaaRefC
import Derived.Test.YtblmlpkjocbhpaaStep
set_option linter.unusedVariables false
set_option linter.unusedSimpArgs false
namespace Go.Proofs.Ytblmlpkjocbhpaa
open Go.RowKit
set_option maxRecDepth 100000
theorem tyRules2 : SlTy Try.prog 45 83 4 := slTy_of (z := .agg #[iv 0, iv 0, iv 0, iv 0]) (bytes := 32) Try.underlying45 (by kernel_rfl) rfl (by decide)
theorem tyPieces2 : SlTy Try.prog 52 49 3 := slTy_of (z := .agg #[iv 0, iv 0, iv 0]) (bytes := 24) Try.underlying52 (by kernel_rfl) rfl (by decide)
theorem theirs_spec (A : Option Addr) (l : List Rule) (c : Nat) (w : World) (hm : l.length ≤ 1000000) (hs : Sl ruleE w A l) :
    Calls Try.prog 23 #[.slice A l.length c] w fun e w' => ∃ v, e = .returned v ∧ Own ruleE 83 w.heap.size w' v l ∧ Below w.heap.size w w' := by
  go_enter Try.func23, Try.ntmps23
  go_wp2
  go_loopw [3, 5, 8] (fun v _ i wr => ∃ (k : Nat), k ≤ l.length ∧ i = iv k ∧ Own ruleE 83 w.heap.size wr v (l.take k) ∧ Below w.heap.size w wr) (fun _ _ i _ => l.length - (intOf i).toNat)
  case atStart => exact ⟨0, by omega, rfl, Own.nil, Below.refl _ _⟩
  case round =>
    obtain ⟨k, hk, rfl, hown, hbw⟩ := hrel
    have hzr := hbw.size
    by_cases hlt : k < l.length
    · obtain ⟨b, off, r, rfl, hb, hx, hc0, hc1, hc2, hc3⟩ := (hs.below hbw).atR hlt
      have hta := take_at hx
      obtain ⟨ra, rb, rc, rd⟩ := r
      dsimp only at hc0 hc1 hc2 hc3
      have HTA := Lib.hid hta
      have hown' := hown.below ((Below.refl _ wr).alloc (Nat.le_refl _) (.cells #[iv ra, iv rb, iv rc, iv rd] 27))
      have hlt' : (l.take k).length = k := by rw [List.length_take]; omega
      have HLT := Lib.hid hlt'
      clear hta hx hown hlt' hs
      go_wp2_with (first
        | (at_builtin; refine wpApp1G ruleE tyRules2 rfl _ _ rfl hown' ⟨ra, rb, rc, rd⟩ rfl rfl (G := wr.heap.size + 1) (by simp) rfl (by simp; omega) (by rw [HLT.out]; unfold big; omega) ?_; intro v' w5 hown5 hb5 _))
      go_roundw
      case rel => exact ⟨k + 1, by omega, by go_num, by rw [HTA.out]; exact hown5, (hbw.alloc hzr _).trans hb5⟩
      case measure => simp [intOf]; omega
    · rw [List.take_of_length_le (by omega)] at hown
      go_wp2
      go_ret
      exact ⟨_, rfl, hown, hbw⟩
set_option maxHeartbeats 4000000 in
theorem pieces2_spec (w : World) :
    Calls Try.prog 27 #[] w fun e w' => ∃ v, e = .returned v ∧ Own pieceE 49 w.heap.size w' v Price.allPieces ∧ Below w.heap.size w w' := by
  go_enter Try.func27, Try.ntmps27
  go_wp2
  go_loopw [1, 2] (fun v i wr => ∃ (k : Nat), k ≤ 60 ∧ i = iv k ∧ Own pieceE 49 w.heap.size wr v (Price.allPieces.take k) ∧ Below w.heap.size w wr) (fun _ i _ => 60 - (intOf i).toNat)
  case atStart => exact ⟨0, by omega, rfl, Own.nil, Below.refl _ _⟩
  case round =>
    obtain ⟨k, hk, rfl, hown, hbw⟩ := hrel
    have hzr := hbw.size
    by_cases hlt : k < 60
    · have HTA := Lib.hid (Price.allPieces_take hlt)
      have hlt' : (Price.allPieces.take k).length = k := by rw [List.length_take, Price.allPieces_length]; omega
      have HLT := Lib.hid hlt'
      clear hlt'
      have hlt2 : (k : Int) < 60 := by omega
      have e1 : (k : Int).tdiv 15 = ((k / 15 : Nat) : Int) := by rw [Int.tdiv_eq_ediv_of_nonneg (by omega)]; omega
      have e0 : (k : Int).tdiv 3 = ((k / 3 : Nat) : Int) := by rw [Int.tdiv_eq_ediv_of_nonneg (by omega)]; omega
      have e2 : ((k / 3 : Nat) : Int).tmod 5 = ((k / 3 % 5 : Nat) : Int) := by rw [Int.tmod_eq_emod_of_nonneg (by omega)]; omega
      have e3 : (k : Int).tmod 3 = ((k % 3 : Nat) : Int) := by rw [Int.tmod_eq_emod_of_nonneg (by omega)]; omega
      have f1 : IntKind.i64.wrap ((k / 15 : Nat) : Int) = ((k / 15 : Nat) : Int) := IntWalk.i64_in _ (by omega)
      have f0 : IntKind.i64.wrap ((k / 3 : Nat) : Int) = ((k / 3 : Nat) : Int) := IntWalk.i64_in _ (by omega)
      have f2 : IntKind.i64.wrap ((k / 3 % 5 : Nat) : Int) = ((k / 3 % 5 : Nat) : Int) := IntWalk.i64_in _ (by omega)
      have f3 : IntKind.i64.wrap ((k % 3 : Nat) : Int) = ((k % 3 : Nat) : Int) := IntWalk.i64_in _ (by omega)
      go_wp2_with (first
        | (at_builtin; refine wpApp1 pieceE tyPieces2 rfl _ _ rfl hown (Price.pieceAt k) rfl rfl rfl hzr (by rw [HLT.out]; unfold big; omega) ?_; intro v' w5 hown5 hb5 _))
      go_roundw
      case rel => exact ⟨k + 1, by omega, by go_num, by rw [HTA.out]; exact hown5, hbw.trans hb5⟩
      case measure => simp [intOf]; omega
    · have hlt2 : ¬ (k : Int) < 60 := by omega
      rw [List.take_of_length_le (by rw [Price.allPieces_length]; omega)] at hown
      go_wp2
      go_ret
      exact ⟨_, rfl, hown, hbw⟩
theorem allowed_ge {l : List Rule} (h : Price.check l = 0) : ∀ r ∈ l, -1 ≤ r.b ∧ -1 ≤ r.s ∧ -1 ≤ r.e := by
  intro r hr
  unfold Price.check at h
  split at h
  · cases h
  · split at h
    · rename_i ha
      have := List.all_eq_true.1 ha r hr
      simp only [Price.allowed, Price.inB, Bool.and_eq_true, decide_eq_true_eq] at this
      omega
    · cases h
set_option maxHeartbeats 4000000 in
theorem price2_spec (A : Option Addr) (l : List Rule) (c : Nat) (q : Piece) (w : World) (hm : l.length ≤ big) (hs : Sl ruleE w A l) (ha : ∀ r ∈ l, -1 ≤ r.b ∧ -1 ≤ r.s ∧ -1 ≤ r.e) :
    Calls Try.prog 26 #[.slice A l.length c, q.v] w fun e w' => e = .returned (.tuple #[iv (Price.priced l q).1, iv (Price.priced l q).2]) ∧ Below w.heap.size w w' := by
  obtain ⟨x, y, z⟩ := q
  have hmem : ∀ j ∈ Price.counts l ⟨x, y, z⟩, 0 ≤ j ∧ j < l.length := fun j hj => Price.counts_mem hj
  have hlen := Price.counts_length l ⟨x, y, z⟩
  have hpr : Price.priced l ⟨x, y, z⟩ = Price.pricedOf ((Price.counts l ⟨x, y, z⟩).map fun i => (l.getD i.toNat default).p) := rfl
  have hb0 : Below w.heap.size w (w.alloc (.cells #[iv x, iv y, iv z] 49)) := (Below.refl _ _).alloc (Nat.le_refl _) _
  have HC := Lib.hid (counts2_spec A l c ⟨x, y, z⟩ (w.alloc (.cells #[iv x, iv y, iv z] 49)) hm (hs.below hb0) ha)
  unfold big at hm
  have HPR := Lib.hid hpr
  have HM := Lib.hid hmem
  generalize Price.counts l ⟨x, y, z⟩ = cl at *
  clear hpr hmem ha
  go_enter Try.func26, Try.ntmps26
  go_wp2_with fail
  refine HC.out.mono ?_
  rintro e w1 ⟨v, rfl, hown, hb1⟩
  obtain ⟨Ac, cc, rfl, hcc, hcm⟩ := hown.form
  have hb1' := hb1.of_alloc
  have hs1 := hs.below hb1'
  have hsc := hown.sl
  clear hown HC hs
  by_cases h0 : cl.length = 0
  · have hcl : cl = [] := List.length_eq_zero_iff.1 h0
    subst hcl
    have HP2 : Hid (Price.priced l ⟨x, y, z⟩ = (0, 6)) := by rw [HPR.out]; rfl
    clear HPR h0 hlen
    go_wp2
    go_ret2
    exact ⟨by rw [HP2.out]; rfl, hb1'⟩
  · have h0' : ((cl.length : Int) == 0) = false := beq_eq_false_iff_ne.2 (by omega)
    obtain ⟨bc, offc, c0, rfl, hbc, hc0, hcc0⟩ := hsc.atI (k := 0) (by omega)
    have hm0 := HM.out c0 (mem_at hc0)
    obtain ⟨i0, rfl⟩ := Int.eq_ofNat_of_zero_le hm0.1
    obtain ⟨b, off, r0, rfl, hb, hx0, _, _, _, hp0⟩ := hs1.atR (k := i0) (by omega)
    have hil0 : (i0 : Int) < (l.length : Int) := by omega
    have hcl0 : (0 : Int) < (cl.length : Int) := by omega
    have HH0 : Hid (r0.p = (l.getD i0 default).p) := by rw [List.getD_eq_getElem?_getD, hx0]; rfl
    obtain ⟨px, hpx⟩ : ∃ px, px = r0.p := ⟨_, rfl⟩
    rw [← hpx] at hp0 HH0
    have HC0 := Lib.hid hc0
    rw [Nat.add_zero] at hcc0
    clear hx0 hpx hc0 hm0
    go_wp2_with fail
    go_wp2
    go_loopw [7] (fun i wr => ∃ (k : Nat), k ≤ cl.length ∧ i = iv k ∧ Hid (((cl.take k).map fun i => (l.getD i.toNat default).p).all (fun y => y == px) = true) ∧ Below w1.heap.size w1 wr) (fun i _ => cl.length - (intOf i).toNat)
    case atStart => exact ⟨0, by omega, rfl, rfl, Below.refl _ _⟩
    case round =>
      obtain ⟨k, hk, rfl, hf, hbw⟩ := hrel
      have hbb := hb1'.next hbw (Nat.le_refl _)
      have hcc1 := (hbw.cell (p := ⟨bc, offc, none⟩) hbc).trans hcc0
      have hp1 := (hbw.cell (p := ⟨b, off + i0 * 4 + 3, none⟩) hb).trans hp0
      by_cases hlt : k < cl.length
      · obtain ⟨bc2, offc2, ck, hA2, hbc2, hck, hcck⟩ := (hsc.below hbw).atI hlt
        injection hA2 with hA2
        injection hA2 with e1 e2
        subst e1 e2
        have hmk := HM.out ck (mem_at hck)
        obtain ⟨ik, rfl⟩ := Int.eq_ofNat_of_zero_le hmk.1
        obtain ⟨b2, off2, rk, hA3, hb2, hxk, _, _, _, hpk⟩ := (hs1.below hbw).atR (k := ik) (by omega)
        injection hA3 with hA3
        injection hA3 with e3 e4
        subst e3 e4
        have hilk : (ik : Int) < (l.length : Int) := by omega
        have hlk : (k : Int) < (cl.length : Int) := by omega
        have HHK : Hid (rk.p = (l.getD ik default).p) := by rw [List.getD_eq_getElem?_getD, hxk]; rfl
        have HTK := Lib.hid (take_at hck)
        obtain ⟨pk, hpkk⟩ : ∃ pk, pk = rk.p := ⟨_, rfl⟩
        rw [← hpkk] at hpk HHK
        have HCK := Lib.hid hck
        clear hxk hpkk hck hmk hs1 hsc
        by_cases hpq : pk = px
        · have hpq' : (pk != px) = false := by simp [hpq]
          have HPQ := Lib.hid hpq
          clear hpq
          go_wp2
          go_region
          go_wp2
          go_roundw
          case rel => exact ⟨k + 1, by omega, by go_num, by
            show List.all _ _ = true
            rw [HTK.out, List.map_append, List.all_append, hf.out]
            have := HHK.out
            simp only [List.map_cons, List.map_nil, List.all_cons, List.all_nil, Int.toNat_natCast, ← HHK.out, HPQ.out]
            simp, (by first | exact hbw | exact hbw.drew)⟩
          case measure => simp [intOf]; omega
        · have hpq' : (pk != px) = true := by simpa using hpq
          have HPQ := Lib.hid hpq
          clear hpq
          have HP2 : Hid (Price.priced l ⟨x, y, z⟩ = (0, 7)) := by
            refine Lib.hid ?_
            rw [HPR.out]
            have hc := HC0.out
            cases cl with
            | nil => simp at hc
            | cons a tl =>
              simp only [List.getElem?_cons_zero, Option.some.injEq] at hc
              subst hc
              simp only [List.map_cons, Price.pricedOf, Int.toNat_natCast, ← HH0.out]
              rw [if_neg]
              intro hall
              rw [List.all_eq_true] at hall
              have hmem : (ik : Int) ∈ ((i0 : Int) :: tl) := mem_at HCK.out
              rcases List.mem_cons.1 hmem with he | he
              · have : ik = i0 := by omega
                have h2 := HHK.out
                rw [this, ← HH0.out] at h2
                exact HPQ.out h2
              · have h2 := hall _ (List.mem_map.2 ⟨_, he, rfl⟩)
                simp only [Int.toNat_natCast, ← HHK.out, beq_iff_eq] at h2
                exact HPQ.out h2
          go_wp2
          go_region
          go_wp2
          go_ret2
          exact ⟨by rw [HP2.out]; rfl, (by first | exact hbb | exact hbb.drew)⟩
      · have HP2 : Hid (Price.priced l ⟨x, y, z⟩ = (px, 0)) := by
          refine Lib.hid ?_
          rw [HPR.out]
          have hall := hf.out
          rw [List.take_of_length_le (by omega)] at hall
          have hc := HC0.out
          cases cl with
          | nil => simp at hc
          | cons a tl =>
            simp only [List.getElem?_cons_zero, Option.some.injEq] at hc
            subst hc
            simp only [List.map_cons, List.all_cons, Bool.and_eq_true] at hall
            simp only [List.map_cons, Price.pricedOf, Int.toNat_natCast, ← HH0.out]
            rw [if_pos hall.2]
        clear hf
        go_wp2
        go_ret2
        exact ⟨by rw [HP2.out]; rfl, hbb⟩
end Go.Proofs.Ytblmlpkjocbhpaa
