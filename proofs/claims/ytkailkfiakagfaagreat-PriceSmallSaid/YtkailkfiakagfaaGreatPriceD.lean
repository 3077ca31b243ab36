/- The price of a piece. Condition: lengths are below a great bound, prices are allowed ones. -/
import Derived.Test.YtkailkfiakagfaaGreatPriceA
import Derived.Test.YtkailkfiakagfaaGreatMapk
set_option linter.unusedVariables false
set_option linter.unusedSimpArgs false
namespace Go.Proofs.YtkailkfiakagfaaGreat
open Go.RowKit Go.Maps

theorem keyedInt : Keyed Tryz.prog 3 := int_keyed Tryz.underlying3
theorem zeroInt (w : World) : (zeroValue 3).run Tryz.prog w = .ok (.int .i64 0) w := by kernel_rfl
def dis (ps : List Int) : List Int := ps.foldl addNew []
theorem dis_snoc (ps : List Int) (x : Int) : dis (ps ++ [x]) = addNew (dis ps) x := by simp [dis, List.foldl_append]
theorem addNew_hit {ds : List Int} {x : Int} (h : x ∈ ds) : addNew ds x = ds := by simp [addNew, h]
theorem foldl_hit (x : Int) : ∀ (xs ds : List Int), (∀ y ∈ xs, y = x) → x ∈ ds → xs.foldl addNew ds = ds := by
  intro xs
  induction xs with
  | nil => intros; rfl
  | cons y xs ih =>
    intro ds h hx
    have hy := h y List.mem_cons_self
    subst hy
    rw [List.foldl_cons, addNew_hit hx]
    exact ih ds (fun z hz => h z (List.mem_cons_of_mem _ hz)) hx
theorem addNew_sub {ds : List Int} {x y : Int} (h : y ∈ ds) : y ∈ addNew ds x := by unfold addNew; split <;> simp [h]
theorem addNew_self {ds : List Int} {x : Int} : x ∈ addNew ds x := by unfold addNew; split <;> simp_all
theorem foldl_sub : ∀ (xs ds : List Int) (y : Int), y ∈ ds ∨ y ∈ xs → y ∈ xs.foldl addNew ds := by
  intro xs
  induction xs with
  | nil => intro ds y h; simpa using h
  | cons x xs ih =>
    intro ds y h
    rw [List.foldl_cons]
    refine ih _ _ ?_
    rcases h with h | h
    · exact .inl (addNew_sub h)
    · rcases List.mem_cons.1 h with rfl | h
      · exact .inl addNew_self
      · exact .inr h
theorem dis_one (x : Int) (xs : List Int) : (dis (x :: xs)).length = 1 ↔ xs.all (fun y => y == x) = true := by
  have h0 : dis (x :: xs) = xs.foldl addNew [x] := rfl
  rw [h0]
  constructor
  · intro h
    rw [List.all_eq_true]
    intro y hy
    have hx := foldl_sub xs [x] x (.inl (by simp))
    have hy' := foldl_sub xs [x] y (.inr hy)
    match hm : xs.foldl addNew [x], h with
    | [z], _ => rw [hm] at hx hy'; simp at hx hy'; simp [hx, hy']
  · intro h
    rw [foldl_hit x xs [x] (fun y hy => by have := List.all_eq_true.1 h y hy; simpa using this) (by simp)]
    rfl
theorem dis_pos (x : Int) (xs : List Int) : (dis (x :: xs)).length ≠ 0 := by
  intro h
  have := foldl_sub xs [x] x (.inl (by simp))
  have h0 : dis (x :: xs) = xs.foldl addNew [x] := rfl
  rw [h0] at h
  rw [List.eq_nil_of_length_eq_zero h] at this
  cases this
theorem last_all {x : Int} {xs : List Int} (h : xs.all (fun y => y == x) = true) : (x :: xs).getLastD 0 = x := by
  induction xs with
  | nil => rfl
  | cons y ys ih =>
    simp only [List.all_cons, Bool.and_eq_true, beq_iff_eq] at h
    obtain ⟨rfl, h⟩ := h
    have := ih h
    simpa using this

set_option maxRecDepth 100000 in
set_option maxHeartbeats 4000000 in
theorem priced_spec (A : Option Addr) (l : List Rule) (c : Nat) (q : Piece) (w : World) (hm : l.length ≤ big) (hs : Sl ruleE w A l) (hp : ∀ r ∈ l, 0 ≤ r.p ∧ r.p ≤ 500) :
    Calls Tryz.prog 66 #[.slice A l.length c, q.v] w
    fun e w' => e = .returned (.tuple #[iv (Price.priced l q).1, iv (Price.priced l q).2]) ∧ Below w.heap.size w w' := by
  obtain ⟨x, y, z⟩ := q
  unfold big at hm
  have hmm := @run_makeMap Tryz.prog
  go_enter Tryz.func66, Tryz.ntmps66
  go_wp2_with (go_at_call 71; refine (counts_spec A l c ⟨x, y, z⟩ _ hm ((hs.alloc _).alloc _)).mono ?_; rintro e w1 ⟨v, rfl, hown, hb1⟩; obtain ⟨A1, c1, rfl, _, _⟩ := hown.form; have hs1 := hown.sl)
  have hmem : ∀ j ∈ Price.counts l ⟨x, y, z⟩, 0 ≤ j ∧ j < (l.length : Int) := fun j h => Price.counts_mem h
  have hlen := Price.counts_length l ⟨x, y, z⟩
  obtain ⟨ps, hps⟩ : ∃ ps, ps = Price.prices l ⟨x, y, z⟩ := ⟨_, rfl⟩
  have HP : Hid (ps = Price.prices l ⟨x, y, z⟩) := hps
  have hpl : ps.length = (Price.counts l ⟨x, y, z⟩).length := by rw [hps]; simp [Price.prices]
  have hpg : ∀ k j r, (Price.counts l ⟨x, y, z⟩)[k]? = some j → l[j.toNat]? = some r → ps.take (k + 1) = ps.take k ++ [r.p] := fun k j r h h' => by
    rw [take_at (x := r.p) (by rw [hps]; simp [Price.prices, h, h'])]
  have HPL := Lib.hid hpl
  have HPG := Lib.hid hpg
  clear hps hpl hpg
  generalize Price.counts l ⟨x, y, z⟩ = cs at *
  have hmk : MapKeys Tryz.prog 3 ((w.alloc (.cells #[iv x, iv y, iv z] 26)).alloc (.map #[] 0)) (w.heap.size + 1) 0 [] (.map []) := by
    have := MapKeys.made (P := Tryz.prog) (t := 3) (w := w.alloc (.cells #[iv x, iv y, iv z] 26))
    simpa using this
  have hmk1 := hmk.below hb1
  have hs0 := hs.below (hb1.of_alloc.of_alloc)
  clear hmk
  go_loopw [7, 15] (fun v i wr => ∃ (k : Nat) (p : Int) (D : DataW Unit), k ≤ cs.length ∧ i = iv k ∧ v = iv p ∧ Hid (p = (ps.take k).getLastD 0) ∧ MapKeys Tryz.prog 3 wr (w.heap.size + 1) k (dis (ps.take k)) D ∧ w1.grownBy wr (some (w.heap.size + 1))) (fun _ i _ => cs.length - (intOf i).toNat)
  case atStart => exact ⟨0, 0, _, by omega, rfl, rfl, rfl, hmk1, World.grownBy.refl _ _⟩
  case round =>
    obtain ⟨k, p, D, hk, rfl, rfl, hpr, hmr, hg⟩ := hrel
    have hs2 := hs0.grownMap hmk1 hg
    have hs3 := hs1.grownMap hmk1 hg
    by_cases hlt : k < cs.length
    · obtain ⟨b, off, j, rfl, hb, hjk, hc⟩ := hs3.atI hlt
      obtain ⟨hj0, hj1⟩ := hmem _ (mem_at hjk)
      obtain ⟨b', off', r, rfl, hb', hr, hc0, hc1, hc2, hc3⟩ := hs2.atR (k := j.toNat) (by omega)
      have hpw := hp r (mem_at hr)
      have hG := HPG.out k j r hjk hr
      obtain ⟨_, _, _, pr⟩ := r
      dsimp only at hpw hG hc3
      clear hjk hr
      have HG := Lib.hid hG
      clear hG hc0 hc1 hc2
      have hkey : keyOf Tryz.prog 3 (.int .i64 pr) = some (.int .i64 pr) := keyOf_int_mk Tryz.underlying3 (WalkArith.wf_i64 (by omega))
      have hown := hmr.1
      go_wp2_with (first
        | (at_lookup; refine wpList_lookup_own_int _ rfl _ _ 130 rfl 3 3 .i64 keyedInt Tryz.underlying130 Tryz.underlying3 (zeroInt _) (w.heap.size + 1) k _ rfl hown _ _ rfl hkey ?_; intro c0 hat hwc)
        | (at_mapUpdate; refine wpList_mapUpdate_own _ rfl _ _ _ 130 rfl 3 3 keyedInt Tryz.underlying130 _ (w.heap.size + 1) k _ rfl hown (by unfold maxLen; omega) _ _ _ rfl rfl hkey _ [] (plainElem_int Tryz.underlying3 (wrap64_wf _)) ?_; intro w3 hown3 hgrow3))
      go_roundw
      case rel => exact ⟨k + 1, pr, _, by omega, by go_num, rfl, by rw [HG.out]; exact List.getLastD_concat.symm, by rw [HG.out, dis_snoc]; exact hmr.put (WalkArith.wf_i64 (by omega)) hown3, grownBy_trans hg hgrow3⟩
      case measure => simp [intOf]; omega
    · have he : k = cs.length := by omega
      have hpk : ps.take k = ps := List.take_of_length_le (by have := HPL.out; omega)
      rw [hpk] at hpr hmr
      have hown := hmr.1
      have hsz := hmr.2.2.2
      have hbf : Below w.heap.size w wr := by
        have h1 : Below w.heap.size w w1 := hb1.of_alloc.of_alloc
        exact h1.trans ⟨hg.os, hg.tape, hg.output, hg.size, fun b hb => hg.block b (by have := h1.size; omega) (by intro e; injection e with e; omega)⟩
      have hpe : Price.priced l ⟨x, y, z⟩ = Price.pricedOf ps := by rw [HP.out]; rfl
      clear hmr hg hs2 hs3 hs0 hs1 hmk1 HPG hpk HP HPL
      generalize hn : size D = n at hsz
      have HN := Lib.hid hn
      have hval : (n = 0 → Price.pricedOf ps = (0, 6)) ∧ (n = 1 → Price.pricedOf ps = (p, 0)) ∧ (n ≠ 0 → n ≠ 1 → Price.pricedOf ps = (0, 7)) := by
        have hpr' := hpr.out
        cases ps with
        | nil => subst hsz; exact ⟨fun _ => rfl, (fun h => by cases h), fun h => absurd rfl h⟩
        | cons x0 xs =>
          have h1 := dis_one x0 xs
          have h0 := dis_pos x0 xs
          refine ⟨fun h => absurd (hsz ▸ h) h0, fun h => ?_, fun _ h => ?_⟩
          · have ha := h1.1 (hsz ▸ h)
            rw [last_all ha] at hpr'
            simp only [Price.pricedOf, ha, if_true, hpr']
          · have ha : ¬ (xs.all fun y => y == x0) = true := fun e => h (hsz.trans (h1.2 e))
            simp only [Price.pricedOf, ha, if_false]
            rfl
      rw [← hpe] at hval
      clear hn hsz hpr hpe
      have HV := Lib.hid hval
      clear hval
      by_cases h0 : n = 0
      · have V1 := Lib.hid (HV.out.1 h0)
        subst h0
        go_wp2_with (at_len; refine wpList_len_own _ rfl _ 130 rfl 3 3 Tryz.underlying130 _ (w.heap.size + 1) k D rfl hown ?_; rw [HN.out])
        go_ret2
        exact ⟨(by rw [V1.out]; try rfl), hbf⟩
      · by_cases h1 : n = 1
        · have V2 := Lib.hid (HV.out.2.1 h1)
          subst h1
          go_wp2_with (at_len; refine wpList_len_own _ rfl _ 130 rfl 3 3 Tryz.underlying130 _ (w.heap.size + 1) k D rfl hown ?_; rw [HN.out])
          go_ret2
          exact ⟨(by rw [V2.out]; try rfl), hbf⟩
        · have V3 := Lib.hid (HV.out.2.2 h0 h1)
          go_wp2_with (at_len; refine wpList_len_own _ rfl _ 130 rfl 3 3 Tryz.underlying130 _ (w.heap.size + 1) k D rfl hown ?_; rw [HN.out])
          go_ret2
          exact ⟨(by rw [V3.out]; try rfl), hbf⟩
end Go.Proofs.YtkailkfiakagfaaGreat
