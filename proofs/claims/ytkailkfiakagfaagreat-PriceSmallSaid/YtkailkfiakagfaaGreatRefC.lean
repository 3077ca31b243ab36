/- The reference's rules that count, and the price of a piece. Conditions: lengths are below a great bound; rules are allowed. -/
import Derived.Test.YtkailkfiakagfaaGreatRefA
import Derived.Test.YtkailkfiakagfaaGreatLawP
import Derived.Test.YtkailkfiakagfaaGreatDraw
import Derived.BigRegion
import Derived.Test.YtkailkfiakagfaaGreatStep
set_option linter.unusedVariables false
set_option linter.unusedSimpArgs false
namespace Go.Proofs.YtkailkfiakagfaaGreat
open Go.RowKit
set_option maxRecDepth 100000
namespace Price
/-- No rule that holds names more. -/
def countIs (l : List Rule) (p : Piece) (r : Rule) : Bool := holds r p && l.all fun q => !(holds q p && decide (many r < many q))
theorem countIs_eq {l : List Rule} {p : Piece} {r : Rule} (hr : r ∈ l) : countIs l p r = (holds r p && decide (many r = greatest (held l p))) := by
  unfold countIs
  cases hh : holds r p
  · rfl
  · rw [Bool.true_and, Bool.true_and]
    have h1 := greatest_ge (held l p) (many r) (List.mem_map.2 ⟨r, List.mem_filter.2 ⟨hr, hh⟩, rfl⟩)
    apply Bool.eq_iff_iff.2
    rw [List.all_eq_true, decide_eq_true_eq]
    constructor
    · intro h
      rcases foldl_max_mem (held l p) 0 with h2 | h2
      · have : greatest (held l p) = 0 := h2
        have := many_bounds r
        omega
      · obtain ⟨q, hq, hg⟩ := List.mem_map.1 h2
        have hq' := List.mem_filter.1 hq
        have h3 := h q hq'.1
        rw [hq'.2] at h3
        simp only [Bool.true_and, Bool.not_eq_true', decide_eq_false_iff_not] at h3
        have : greatest (held l p) = many q := hg.symm
        omega
    · intro h q hq
      cases hhq : holds q p
      · rfl
      · have := greatest_ge (held l p) (many q) (List.mem_map.2 ⟨q, List.mem_filter.2 ⟨hq, hhq⟩, rfl⟩)
        simp only [Bool.true_and, Bool.not_eq_true', decide_eq_false_iff_not]
        omega
/-- The numbers of the rules that count, the reference's way. -/
def countsR (l : List Rule) (p : Piece) : List Rule → Int → List Int
  | [], _ => []
  | r :: rs, i => if countIs l p r then i :: countsR l p rs (i + 1) else countsR l p rs (i + 1)
theorem countsR_eq (l : List Rule) (p : Piece) : ∀ (rs : List Rule) (i : Int), (∀ r ∈ rs, r ∈ l) → countsR l p rs i = countsFrom (greatest (held l p)) p rs i := by
  intro rs
  induction rs with
  | nil => intro i _; rfl
  | cons r rs ih =>
    intro i h
    simp only [countsR, countsFrom, countIs_eq (h r List.mem_cons_self), ih (i + 1) fun x hx => h x (List.mem_cons_of_mem _ hx)]
theorem countsR_counts (l : List Rule) (p : Piece) : countsR l p l 0 = counts l p := countsR_eq l p l 0 fun _ h => h
end Price
set_option maxHeartbeats 8000000 in
theorem counts2_spec (A : Option Addr) (l : List Rule) (c : Nat) (q : Piece) (w : World) (hm : l.length ≤ big) (hs : Sl ruleE w A l) (ha : ∀ r ∈ l, -1 ≤ r.b ∧ -1 ≤ r.s ∧ -1 ≤ r.e) :
    Calls Tryz.prog 24 #[.slice A l.length c, q.v] w fun e w' => ∃ v, e = .returned v ∧ Own intE 3 w.heap.size w' v (Price.counts l q) ∧ Below w.heap.size w w' := by
  obtain ⟨x, y, z⟩ := q
  unfold big at hm
  have HA := Lib.hid ha
  clear ha
  go_enter Tryz.func24, Tryz.ntmps24
  go_wp2
  have hb0 : Below w.heap.size w (w.alloc (.cells #[iv x, iv y, iv z] 59)) := (Below.refl _ _).alloc (Nat.le_refl _) _
  have hB0 : Blk (w.alloc (.cells #[iv x, iv y, iv z] 59)) w.heap.size 59 #[iv x, iv y, iv z] := Blk.new _ _ _
  have hz0 : (w.alloc (.cells #[iv x, iv y, iv z] 59)).heap.size = w.heap.size + 1 := by simp
  generalize w.alloc (.cells #[iv x, iv y, iv z] 59) = w0 at *
  have hs0 := hs.below hb0
  go_loopw [5, 6, 7, 8] (fun v i _ _ wr => ∃ (k : Nat) (acc : List Int), k ≤ l.length ∧ i = iv k ∧ Own intE 3 w0.heap.size wr v acc ∧ acc.length ≤ k ∧ Hid (acc ++ Price.countsR l ⟨x, y, z⟩ (l.drop k) k = Price.counts l ⟨x, y, z⟩) ∧ Below w0.heap.size w0 wr) (fun _ i _ _ _ => l.length - (intOf i).toNat)
  case atStart => exact ⟨0, [], by omega, rfl, Own.nil, by simp, by exact Price.countsR_counts l ⟨x, y, z⟩, Below.refl _ _⟩
  case round =>
    obtain ⟨k, acc, hk, rfl, hown, hacc, hf, hbw⟩ := hrel
    by_cases hlt : k < l.length
    · obtain ⟨b, off, r, rfl, hb, hx, hc0, hc1, hc2, hc3⟩ := (hs0.below hbw).atR hlt
      have hB := hB0.under hbw
      have hf' := hf.out
      rw [drop_at hx] at hf'
      simp only [Price.countsR] at hf'
      have HF := Lib.hid hf'
      have hra := HA.out r (mem_at hx)
      have HX := Lib.hid hx
      have hsr := hs0.below hbw
      have hlk : (k : Int) < (l.length : Int) := by omega
      obtain ⟨ra, rb, rc, rd⟩ := r
      dsimp only at *
      have HFF : Hid (∀ a : World, Below wr.heap.size wr a → a.cell? ⟨w.heap.size, 0, none⟩ = some (iv x) ∧ a.cell? ⟨w.heap.size, 1, none⟩ = some (iv y) ∧ a.cell? ⟨w.heap.size, 2, none⟩ = some (iv z) ∧ a.cell? ⟨b, off + k * 4, none⟩ = some (iv ra) ∧ a.cell? ⟨b, off + k * 4 + 1, none⟩ = some (iv rb) ∧ a.cell? ⟨b, off + k * 4 + 2, none⟩ = some (iv rc) ∧ a.cell? ⟨b, off + k * 4 + 3, none⟩ = some (iv rd)) := fun a h =>
        ⟨(hB.under h).cell 0, (hB.under h).cell 1, (hB.under h).cell 2, (h.cell (p := ⟨b, off + k * 4, none⟩) hb).trans hc0, (h.cell (p := ⟨b, off + k * 4 + 1, none⟩) hb).trans hc1, (h.cell (p := ⟨b, off + k * 4 + 2, none⟩) hb).trans hc2, (h.cell (p := ⟨b, off + k * 4 + 3, none⟩) hb).trans hc3⟩
      have HH : Hid (∀ a : World, Calls Tryz.prog 23 #[.agg #[iv ra, iv rb, iv rc, iv rd], .agg #[iv x, iv y, iv z]] a fun e w' => e = .returned (.bool (Price.holds ⟨ra, rb, rc, rd⟩ ⟨x, y, z⟩)) ∧ Below a.heap.size a w') := fun a => holds2_spec ⟨ra, rb, rc, rd⟩ ⟨x, y, z⟩ hra a
      have HN : Hid (∀ a : World, Calls Tryz.prog 68 #[.agg #[iv ra, iv rb, iv rc, iv rd]] a fun e w' => e = .returned (iv (Price.many ⟨ra, rb, rc, rd⟩)) ∧ Below a.heap.size a w') := fun a => named2_spec ⟨ra, rb, rc, rd⟩ hra a
      obtain ⟨hd, hhd⟩ : ∃ hd, hd = Price.holds ⟨ra, rb, rc, rd⟩ ⟨x, y, z⟩ := ⟨_, rfl⟩
      obtain ⟨mr, hmr⟩ : ∃ mr, mr = Price.many ⟨ra, rb, rc, rd⟩ := ⟨_, rfl⟩
      rw [← hhd] at HH
      rw [← hmr] at HN
      have HHD := Lib.hid hhd
      have HMR := Lib.hid hmr
      have HOW := Lib.hid hown
      clear hf hf' hx hhd hmr hown
      go_wp2
      refine wp_havoc_lit (by kernel_rfl) (by kernel_rfl) ?_
      repeat (first
        | (refine hv_skip (by rfl) ?_; simp only [Act.put, List.setIfInBounds_toArray, List.set_cons_zero, List.set_cons_succ])
        | (apply hv_val (by rfl); (intro w hw; have F := HFF.out w hw; go_simp; exact rfl); simp only [Act.put, List.setIfInBounds_toArray, List.set_cons_zero, List.set_cons_succ])
        | (apply hv_call (by rfl); (intro w hw; have F := HFF.out w hw; go_simp; exact ⟨rfl, rfl⟩); (intro w hw; have F := HFF.out w hw; with_reducible exact HH.out w); simp only [Act.put, List.setIfInBounds_toArray, List.set_cons_zero, List.set_cons_succ]))
      refine hv_nil ?_
      rintro w1 hb1
      have hb1' := hbw.next hb1 (Nat.le_refl _)
      have hsr1 := hsr.below hb1
      go_wp2
      obtain ⟨wo, rfl⟩ : ∃ wo : World, wo = wr := ⟨_, rfl⟩
      go_loopw [7, 8] (fun v7 v8 w2 => ∃ (j : Nat) (bb : Bool), j ≤ l.length ∧ v8 = iv j ∧ v7 = .bool bb ∧ Hid (bb = (hd && (l.take j).all fun p => !(Price.holds p ⟨x, y, z⟩ && decide (mr < Price.many p)))) ∧ Below w1.heap.size w1 w2) (fun _ v8 _ => l.length - (intOf v8).toNat)
      case atStart => exact ⟨0, hd, by omega, rfl, rfl, by show _ = _; simp, Below.refl _ _⟩
      case round =>
        obtain ⟨j, bb, hj, rfl, rfl, hg, hbj⟩ := hrel
        by_cases hjl : j < l.length
        · obtain ⟨b2, off2, r2, hA2, hb2, hx2, hd0, hd1, hd2, hd3⟩ := (hsr1.below hbj).atR hjl
          injection hA2 with hA2
          injection hA2 with e1 e2
          subst e1 e2
          have hra2 := HA.out r2 (mem_at hx2)
          have hg' := hg.out
          have hall := List.all_append (xs := l.take j) (ys := [r2]) (f := fun p => !(Price.holds p ⟨x, y, z⟩ && decide (mr < Price.many p)))
          rw [← take_at hx2] at hall
          simp only [List.all_cons, List.all_nil, Bool.and_true] at hall
          have HALL := Lib.hid hall
          have HG := Lib.hid hg'
          obtain ⟨sa, sb, sc, sd⟩ := r2
          dsimp only at *
          have hbx := hb1.next hbj (Nat.le_refl _)
          have HF2 : Hid (∀ a : World, Below wr.heap.size wr a → a.cell? ⟨w.heap.size, 0, none⟩ = some (iv x) ∧ a.cell? ⟨w.heap.size, 1, none⟩ = some (iv y) ∧ a.cell? ⟨w.heap.size, 2, none⟩ = some (iv z) ∧ (a.cell? ⟨b, off + k * 4, none⟩ = some (iv ra) ∧ a.cell? ⟨b, off + k * 4 + 1, none⟩ = some (iv rb) ∧ a.cell? ⟨b, off + k * 4 + 2, none⟩ = some (iv rc) ∧ a.cell? ⟨b, off + k * 4 + 3, none⟩ = some (iv rd)) ∧
              a.cell? ⟨b, off + j * 4, none⟩ = some (iv sa) ∧ a.cell? ⟨b, off + j * 4 + 1, none⟩ = some (iv sb) ∧ a.cell? ⟨b, off + j * 4 + 2, none⟩ = some (iv sc) ∧ a.cell? ⟨b, off + j * 4 + 3, none⟩ = some (iv sd)) := fun a h => by
            have h0 := HFF.out a (hbx.next h (Nat.le_refl _))
            exact ⟨h0.1, h0.2.1, h0.2.2.1, h0.2.2.2, (h.cell (p := ⟨b, off + j * 4, none⟩) hb2).trans hd0, (h.cell (p := ⟨b, off + j * 4 + 1, none⟩) hb2).trans hd1, (h.cell (p := ⟨b, off + j * 4 + 2, none⟩) hb2).trans hd2, (h.cell (p := ⟨b, off + j * 4 + 3, none⟩) hb2).trans hd3⟩
          have HH2 : Hid (∀ a : World, Calls Tryz.prog 23 #[.agg #[iv sa, iv sb, iv sc, iv sd], .agg #[iv x, iv y, iv z]] a fun e w' => e = .returned (.bool (Price.holds ⟨sa, sb, sc, sd⟩ ⟨x, y, z⟩)) ∧ Below a.heap.size a w') := fun a => holds2_spec ⟨sa, sb, sc, sd⟩ ⟨x, y, z⟩ hra2 a
          have HN2 : Hid (∀ a : World, Calls Tryz.prog 68 #[.agg #[iv sa, iv sb, iv sc, iv sd]] a fun e w' => e = .returned (iv (Price.many ⟨sa, sb, sc, sd⟩)) ∧ Below a.heap.size a w') := fun a => named2_spec ⟨sa, sb, sc, sd⟩ hra2 a
          have hlj : (j : Int) < (l.length : Int) := by omega
          obtain ⟨ms, hms⟩ : ∃ ms, ms = Price.many ⟨sa, sb, sc, sd⟩ := ⟨_, rfl⟩
          rw [← hms] at HN2 HALL
          clear hg hg' hall hx2 hms hd0 hd1 hd2 hd3 hc0 hc1 hc2 hc3
          cases hh2 : Price.holds ⟨sa, sb, sc, sd⟩ ⟨x, y, z⟩
          · rw [hh2] at HH2 HALL
            go_wp2
            refine wp_havoc_lit (by kernel_rfl) (by kernel_rfl) ?_
            repeat (first
              | (refine hv_skip (by rfl) ?_; simp only [Act.put, List.setIfInBounds_toArray, List.set_cons_zero, List.set_cons_succ])
              | (apply hv_val (by rfl); (intro w hw; have F := HF2.out w hw; go_simp; exact rfl); simp only [Act.put, List.setIfInBounds_toArray, List.set_cons_zero, List.set_cons_succ])
              | (apply hv_call (by rfl); (intro w hw; have F := HF2.out w hw; go_simp; exact ⟨rfl, rfl⟩); (intro w hw; have F := HF2.out w hw; with_reducible exact HH2.out w); simp only [Act.put, List.setIfInBounds_toArray, List.set_cons_zero, List.set_cons_succ]))
            refine hv_nil ?_
            rintro w3 hb3
            go_wp2
            go_roundw
            case rel => exact ⟨j + 1, bb, by omega, by go_num, rfl, by show _ = _; rw [HALL.out, HG.out]; simp, hbj.next hb3 (Nat.le_refl _)⟩
            case measure => simp [intOf]; omega
          · rw [hh2] at HH2 HALL
            by_cases hlt2 : mr < ms
            · rw [decide_eq_true hlt2] at HALL
              go_wp2
              refine wp_havoc_lit (by kernel_rfl) (by kernel_rfl) ?_
              repeat (first
                | (refine hv_skip (by rfl) ?_; simp only [Act.put, List.setIfInBounds_toArray, List.set_cons_zero, List.set_cons_succ])
                | (apply hv_val (by rfl); (intro w hw; have F := HF2.out w hw; go_simp; exact rfl); simp only [Act.put, List.setIfInBounds_toArray, List.set_cons_zero, List.set_cons_succ])
                | (apply hv_call (by rfl); (intro w hw; have F := HF2.out w hw; go_simp; exact ⟨rfl, rfl⟩); (intro w hw; have F := HF2.out w hw; with_reducible exact HH2.out w); simp only [Act.put, List.setIfInBounds_toArray, List.set_cons_zero, List.set_cons_succ])
                | (apply hv_call (by rfl); (intro w hw; have F := HF2.out w hw; go_simp; exact ⟨rfl, rfl⟩); (intro w hw; have F := HF2.out w hw; with_reducible exact HN2.out w); simp only [Act.put, List.setIfInBounds_toArray, List.set_cons_zero, List.set_cons_succ])
                | (apply hv_call (by rfl); (intro w hw; have F := HF2.out w hw; go_simp; exact ⟨rfl, rfl⟩); (intro w hw; have F := HF2.out w hw; with_reducible exact HN.out w); simp only [Act.put, List.setIfInBounds_toArray, List.set_cons_zero, List.set_cons_succ]))
              refine hv_nil ?_
              rintro w3 hb3
              go_wp2
              go_roundw
              case rel => exact ⟨j + 1, false, by omega, by go_num, rfl, by show _ = _; rw [HALL.out]; simp, hbj.next hb3 (Nat.le_refl _)⟩
              case measure => simp [intOf]; omega
            · rw [decide_eq_false hlt2] at HALL
              go_wp2
              refine wp_havoc_lit (by kernel_rfl) (by kernel_rfl) ?_
              repeat (first
                | (refine hv_skip (by rfl) ?_; simp only [Act.put, List.setIfInBounds_toArray, List.set_cons_zero, List.set_cons_succ])
                | (apply hv_val (by rfl); (intro w hw; have F := HF2.out w hw; go_simp; exact rfl); simp only [Act.put, List.setIfInBounds_toArray, List.set_cons_zero, List.set_cons_succ])
                | (apply hv_call (by rfl); (intro w hw; have F := HF2.out w hw; go_simp; exact ⟨rfl, rfl⟩); (intro w hw; have F := HF2.out w hw; with_reducible exact HH2.out w); simp only [Act.put, List.setIfInBounds_toArray, List.set_cons_zero, List.set_cons_succ])
                | (apply hv_call (by rfl); (intro w hw; have F := HF2.out w hw; go_simp; exact ⟨rfl, rfl⟩); (intro w hw; have F := HF2.out w hw; with_reducible exact HN2.out w); simp only [Act.put, List.setIfInBounds_toArray, List.set_cons_zero, List.set_cons_succ])
                | (apply hv_call (by rfl); (intro w hw; have F := HF2.out w hw; go_simp; exact ⟨rfl, rfl⟩); (intro w hw; have F := HF2.out w hw; with_reducible exact HN.out w); simp only [Act.put, List.setIfInBounds_toArray, List.set_cons_zero, List.set_cons_succ]))
              refine hv_nil ?_
              rintro w3 hb3
              go_wp2
              go_roundw
              case rel => exact ⟨j + 1, bb, by omega, by go_num, rfl, by show _ = _; rw [HALL.out, HG.out]; simp, hbj.next hb3 (Nat.le_refl _)⟩
              case measure => simp [intOf]; omega
        · have hci : Price.countIs l ⟨x, y, z⟩ ⟨ra, rb, rc, rd⟩ = bb := by
            rw [hg.out, List.take_of_length_le (by omega), HHD.out, HMR.out]; rfl
          have hf' := HF.out
          rw [hci] at hf'
          have HF3 := Lib.hid hf'
          have hb2' := hb1'.next hbj (Nat.le_refl _)
          have how2 := (HOW.out.below hb1).below hbj
          have hz2 := hb2'.size
          clear hf' HF hci hg
          cases bb
          · go_wp2
            go_roundw
            case rel => exact ⟨k + 1, acc, by omega, by go_num, how2, by omega, HF3.out, hb2'⟩
            case measure => simp [intOf]; omega
          · go_wp2_with (first
              | (at_builtin; refine wpApp1 intE tyInts rfl _ _ rfl how2 (k : Int) rfl rfl rfl (by omega) (by unfold big; omega) ?_; intro v' w5 hown5 hb5 _))
            go_roundw
            case rel => exact ⟨k + 1, acc ++ [(k : Int)], by omega, by go_num, hown5, by simp; omega, by have := HF3.out; show _ = _; rw [← this]; simp, hb2'.trans hb5⟩
            case measure => simp [intOf]; omega
    · have hf' := hf.out
      rw [drop_end hlt] at hf'
      simp only [Price.countsR, List.append_nil] at hf'
      rw [hf'] at hown
      have hbb := hb0.trans (hbw.mono (by omega))
      clear hf hf'
      go_wp2
      go_ret
      exact ⟨_, rfl, hown.base (by omega), hbb⟩
end Go.Proofs.YtkailkfiakagfaaGreat
-- The reference's price of a piece, all pieces, rules as the reference's. Conditions: lengths are below a great bound; rules are allowed.
namespace Go.Proofs.YtkailkfiakagfaaGreat
open Go.RowKit
set_option maxRecDepth 100000
theorem tyRules2 : SlTy Tryz.prog 55 61 4 := slTy_of (z := .agg #[iv 0, iv 0, iv 0, iv 0]) (bytes := 32) Tryz.underlying55 (by kernel_rfl) rfl (by decide)
theorem tyPieces2 : SlTy Tryz.prog 72 59 3 := slTy_of (z := .agg #[iv 0, iv 0, iv 0]) (bytes := 24) Tryz.underlying72 (by kernel_rfl) rfl (by decide)
theorem theirs_spec (A : Option Addr) (l : List Rule) (c : Nat) (w : World) (hm : l.length ≤ 1000000) (hs : Sl ruleE w A l) :
    Calls Tryz.prog 20 #[.slice A l.length c] w fun e w' => ∃ v, e = .returned v ∧ Own ruleE 61 w.heap.size w' v l ∧ Below w.heap.size w w' := by
  go_enter Tryz.func20, Tryz.ntmps20
  go_wp2
  go_loopw [3, 5, 8] (fun v _ i wr => ∃ (k : Nat), k ≤ l.length ∧ i = iv k ∧ Own ruleE 61 w.heap.size wr v (l.take k) ∧ Below w.heap.size w wr) (fun _ _ i _ => l.length - (intOf i).toNat)
  case atStart => exact ⟨0, by omega, rfl, Own.nil, Below.refl _ _⟩
  case round =>
    obtain ⟨k, hk, rfl, hown, hbw⟩ := hrel
    have hzr := hbw.size
    by_cases hlt : k < l.length
    · obtain ⟨b, off, r, rfl, hb, hx, hc0, hc1, hc2, hc3⟩ := (hs.below hbw).atR hlt
      have hta := take_at hx
      obtain ⟨ra, rb, rc, rd⟩ := r
      dsimp only at hc0 hc1 hc2 hc3
      have HTA := Lib.hid hta
      have hown' := hown.below ((Below.refl _ wr).alloc (Nat.le_refl _) (.cells #[iv ra, iv rb, iv rc, iv rd] 28))
      have hlt' : (l.take k).length = k := by rw [List.length_take]; omega
      have HLT := Lib.hid hlt'
      clear hta hx hown hlt' hs
      go_wp2_with (first
        | (at_builtin; refine wpApp1G ruleE tyRules2 rfl _ _ rfl hown' ⟨ra, rb, rc, rd⟩ rfl rfl (G := wr.heap.size + 1) (by simp) rfl (by simp; omega) (by rw [HLT.out]; unfold big; omega) ?_; intro v' w5 hown5 hb5 _))
      go_roundw
      case rel => exact ⟨k + 1, by omega, by go_num, by rw [HTA.out]; exact hown5, (hbw.alloc hzr _).trans hb5⟩
      case measure => simp [intOf]; omega
    · rw [List.take_of_length_le (by omega)] at hown
      go_wp2
      go_ret
      exact ⟨_, rfl, hown, hbw⟩
set_option maxHeartbeats 4000000 in
theorem pieces2_spec (w : World) :
    Calls Tryz.prog 31 #[] w fun e w' => ∃ v, e = .returned v ∧ Own pieceE 59 w.heap.size w' v Price.allPieces ∧ Below w.heap.size w w' := by
  go_enter Tryz.func31, Tryz.ntmps31
  go_wp2
  go_loopw [1, 2] (fun v i wr => ∃ (k : Nat), k ≤ 60 ∧ i = iv k ∧ Own pieceE 59 w.heap.size wr v (Price.allPieces.take k) ∧ Below w.heap.size w wr) (fun _ i _ => 60 - (intOf i).toNat)
  case atStart => exact ⟨0, by omega, rfl, Own.nil, Below.refl _ _⟩
  case round =>
    obtain ⟨k, hk, rfl, hown, hbw⟩ := hrel
    have hzr := hbw.size
    by_cases hlt : k < 60
    · have HTA := Lib.hid (Price.allPieces_take hlt)
      have hlt' : (Price.allPieces.take k).length = k := by rw [List.length_take, Price.allPieces_length]; omega
      have HLT := Lib.hid hlt'
      clear hlt'
      have hlt2 : (k : Int) < 60 := by omega
      have e1 : (k : Int).tdiv 15 = ((k / 15 : Nat) : Int) := by rw [Int.tdiv_eq_ediv_of_nonneg (by omega)]; omega
      have e0 : (k : Int).tdiv 3 = ((k / 3 : Nat) : Int) := by rw [Int.tdiv_eq_ediv_of_nonneg (by omega)]; omega
      have e2 : ((k / 3 : Nat) : Int).tmod 5 = ((k / 3 % 5 : Nat) : Int) := by rw [Int.tmod_eq_emod_of_nonneg (by omega)]; omega
      have e3 : (k : Int).tmod 3 = ((k % 3 : Nat) : Int) := by rw [Int.tmod_eq_emod_of_nonneg (by omega)]; omega
      have f1 : IntKind.i64.wrap ((k / 15 : Nat) : Int) = ((k / 15 : Nat) : Int) := IntWalk.i64_in _ (by omega)
      have f0 : IntKind.i64.wrap ((k / 3 : Nat) : Int) = ((k / 3 : Nat) : Int) := IntWalk.i64_in _ (by omega)
      have f2 : IntKind.i64.wrap ((k / 3 % 5 : Nat) : Int) = ((k / 3 % 5 : Nat) : Int) := IntWalk.i64_in _ (by omega)
      have f3 : IntKind.i64.wrap ((k % 3 : Nat) : Int) = ((k % 3 : Nat) : Int) := IntWalk.i64_in _ (by omega)
      go_wp2_with (first
        | (at_builtin; refine wpApp1 pieceE tyPieces2 rfl _ _ rfl hown (Price.pieceAt k) rfl rfl rfl hzr (by rw [HLT.out]; unfold big; omega) ?_; intro v' w5 hown5 hb5 _))
      go_roundw
      case rel => exact ⟨k + 1, by omega, by go_num, by rw [HTA.out]; exact hown5, hbw.trans hb5⟩
      case measure => simp [intOf]; omega
    · have hlt2 : ¬ (k : Int) < 60 := by omega
      rw [List.take_of_length_le (by rw [Price.allPieces_length]; omega)] at hown
      go_wp2
      go_ret
      exact ⟨_, rfl, hown, hbw⟩
theorem allowed_ge {l : List Rule} (h : Price.check l = 0) : ∀ r ∈ l, -1 ≤ r.b ∧ -1 ≤ r.s ∧ -1 ≤ r.e := by
  intro r hr
  unfold Price.check at h
  split at h
  · cases h
  · split at h
    · rename_i ha
      have := List.all_eq_true.1 ha r hr
      simp only [Price.allowed, Price.inB, Bool.and_eq_true, decide_eq_true_eq] at this
      omega
    · cases h
set_option maxHeartbeats 4000000 in
theorem price2_spec (A : Option Addr) (l : List Rule) (c : Nat) (q : Piece) (w : World) (hm : l.length ≤ big) (hs : Sl ruleE w A l) (ha : ∀ r ∈ l, -1 ≤ r.b ∧ -1 ≤ r.s ∧ -1 ≤ r.e) :
    Calls Tryz.prog 30 #[.slice A l.length c, q.v] w fun e w' => e = .returned (.tuple #[iv (Price.priced l q).1, iv (Price.priced l q).2]) ∧ Below w.heap.size w w' := by
  obtain ⟨x, y, z⟩ := q
  have hmem : ∀ j ∈ Price.counts l ⟨x, y, z⟩, 0 ≤ j ∧ j < l.length := fun j hj => Price.counts_mem hj
  have hlen := Price.counts_length l ⟨x, y, z⟩
  have hpr : Price.priced l ⟨x, y, z⟩ = Price.pricedOf ((Price.counts l ⟨x, y, z⟩).map fun i => (l.getD i.toNat default).p) := rfl
  have hb0 : Below w.heap.size w (w.alloc (.cells #[iv x, iv y, iv z] 59)) := (Below.refl _ _).alloc (Nat.le_refl _) _
  have HC := Lib.hid (counts2_spec A l c ⟨x, y, z⟩ (w.alloc (.cells #[iv x, iv y, iv z] 59)) hm (hs.below hb0) ha)
  unfold big at hm
  have HPR := Lib.hid hpr
  have HM := Lib.hid hmem
  generalize Price.counts l ⟨x, y, z⟩ = cl at *
  clear hpr hmem ha
  go_enter Tryz.func30, Tryz.ntmps30
  go_wp2_with fail
  refine HC.out.mono ?_
  rintro e w1 ⟨v, rfl, hown, hb1⟩
  obtain ⟨Ac, cc, rfl, hcc, hcm⟩ := hown.form
  have hb1' := hb1.of_alloc
  have hs1 := hs.below hb1'
  have hsc := hown.sl
  clear hown HC hs
  by_cases h0 : cl.length = 0
  · have hcl : cl = [] := List.length_eq_zero_iff.1 h0
    subst hcl
    have HP2 : Hid (Price.priced l ⟨x, y, z⟩ = (0, 6)) := by rw [HPR.out]; rfl
    clear HPR h0 hlen
    go_wp2
    go_ret2
    exact ⟨by rw [HP2.out]; rfl, hb1'⟩
  · have h0' : ((cl.length : Int) == 0) = false := beq_eq_false_iff_ne.2 (by omega)
    obtain ⟨bc, offc, c0, rfl, hbc, hc0, hcc0⟩ := hsc.atI (k := 0) (by omega)
    have hm0 := HM.out c0 (mem_at hc0)
    obtain ⟨i0, rfl⟩ := Int.eq_ofNat_of_zero_le hm0.1
    obtain ⟨b, off, r0, rfl, hb, hx0, _, _, _, hp0⟩ := hs1.atR (k := i0) (by omega)
    have hil0 : (i0 : Int) < (l.length : Int) := by omega
    have hcl0 : (0 : Int) < (cl.length : Int) := by omega
    have HH0 : Hid (r0.p = (l.getD i0 default).p) := by rw [List.getD_eq_getElem?_getD, hx0]; rfl
    obtain ⟨px, hpx⟩ : ∃ px, px = r0.p := ⟨_, rfl⟩
    rw [← hpx] at hp0 HH0
    have HC0 := Lib.hid hc0
    rw [Nat.add_zero] at hcc0
    clear hx0 hpx hc0 hm0
    go_wp2_with fail
    go_wp2
    go_loopw [7] (fun i wr => ∃ (k : Nat), k ≤ cl.length ∧ i = iv k ∧ Hid (((cl.take k).map fun i => (l.getD i.toNat default).p).all (fun y => y == px) = true) ∧ Below w1.heap.size w1 wr) (fun i _ => cl.length - (intOf i).toNat)
    case atStart => exact ⟨0, by omega, rfl, rfl, Below.refl _ _⟩
    case round =>
      obtain ⟨k, hk, rfl, hf, hbw⟩ := hrel
      have hbb := hb1'.next hbw (Nat.le_refl _)
      have hcc1 := (hbw.cell (p := ⟨bc, offc, none⟩) hbc).trans hcc0
      have hp1 := (hbw.cell (p := ⟨b, off + i0 * 4 + 3, none⟩) hb).trans hp0
      by_cases hlt : k < cl.length
      · obtain ⟨bc2, offc2, ck, hA2, hbc2, hck, hcck⟩ := (hsc.below hbw).atI hlt
        injection hA2 with hA2
        injection hA2 with e1 e2
        subst e1 e2
        have hmk := HM.out ck (mem_at hck)
        obtain ⟨ik, rfl⟩ := Int.eq_ofNat_of_zero_le hmk.1
        obtain ⟨b2, off2, rk, hA3, hb2, hxk, _, _, _, hpk⟩ := (hs1.below hbw).atR (k := ik) (by omega)
        injection hA3 with hA3
        injection hA3 with e3 e4
        subst e3 e4
        have hilk : (ik : Int) < (l.length : Int) := by omega
        have hlk : (k : Int) < (cl.length : Int) := by omega
        have HHK : Hid (rk.p = (l.getD ik default).p) := by rw [List.getD_eq_getElem?_getD, hxk]; rfl
        have HTK := Lib.hid (take_at hck)
        obtain ⟨pk, hpkk⟩ : ∃ pk, pk = rk.p := ⟨_, rfl⟩
        rw [← hpkk] at hpk HHK
        have HCK := Lib.hid hck
        clear hxk hpkk hck hmk hs1 hsc
        by_cases hpq : pk = px
        · have hpq' : (pk != px) = false := by simp [hpq]
          have HPQ := Lib.hid hpq
          clear hpq
          go_wp2
          go_region
          go_wp2
          go_roundw
          case rel => exact ⟨k + 1, by omega, by go_num, by
            show List.all _ _ = true
            rw [HTK.out, List.map_append, List.all_append, hf.out]
            have := HHK.out
            simp only [List.map_cons, List.map_nil, List.all_cons, List.all_nil, Int.toNat_natCast, ← HHK.out, HPQ.out]
            simp, (by first | exact hbw | exact hbw.drew)⟩
          case measure => simp [intOf]; omega
        · have hpq' : (pk != px) = true := by simpa using hpq
          have HPQ := Lib.hid hpq
          clear hpq
          have HP2 : Hid (Price.priced l ⟨x, y, z⟩ = (0, 7)) := by
            refine Lib.hid ?_
            rw [HPR.out]
            have hc := HC0.out
            cases cl with
            | nil => simp at hc
            | cons a tl =>
              simp only [List.getElem?_cons_zero, Option.some.injEq] at hc
              subst hc
              simp only [List.map_cons, Price.pricedOf, Int.toNat_natCast, ← HH0.out]
              rw [if_neg]
              intro hall
              rw [List.all_eq_true] at hall
              have hmem : (ik : Int) ∈ ((i0 : Int) :: tl) := mem_at HCK.out
              rcases List.mem_cons.1 hmem with he | he
              · have : ik = i0 := by omega
                have h2 := HHK.out
                rw [this, ← HH0.out] at h2
                exact HPQ.out h2
              · have h2 := hall _ (List.mem_map.2 ⟨_, he, rfl⟩)
                simp only [Int.toNat_natCast, ← HHK.out, beq_iff_eq] at h2
                exact HPQ.out h2
          go_wp2
          go_region
          go_wp2
          go_ret2
          exact ⟨by rw [HP2.out]; rfl, (by first | exact hbb | exact hbb.drew)⟩
      · have HP2 : Hid (Price.priced l ⟨x, y, z⟩ = (px, 0)) := by
          refine Lib.hid ?_
          rw [HPR.out]
          have hall := hf.out
          rw [List.take_of_length_le (by omega)] at hall
          have hc := HC0.out
          cases cl with
          | nil => simp at hc
          | cons a tl =>
            simp only [List.getElem?_cons_zero, Option.some.injEq] at hc
            subst hc
            simp only [List.map_cons, List.all_cons, Bool.and_eq_true] at hall
            simp only [List.map_cons, Price.pricedOf, Int.toNat_natCast, ← HH0.out]
            rw [if_pos hall.2]
        clear hf
        go_wp2
        go_ret2
        exact ⟨by rw [HP2.out]; rfl, hbb⟩
end Go.Proofs.YtkailkfiakagfaaGreat
