/- The reference's rules that count, and the price of a piece. Conditions: lengths are below a great bound; rules are allowed. -/
import Derived.Test.YtblmlpkjocbhpaaRefB
import Derived.Test.YtblmlpkjocbhpaaLawP
import Derived.Test.YtblmlpkjocbhpaaDraw
import Derived.BigRegion
set_option linter.unusedVariables false
set_option linter.unusedSimpArgs false
namespace Go.Proofs.Ytblmlpkjocbhpaa
open Go.RowKit
set_option maxRecDepth 100000
namespace Price
/-- No rule that holds names more. -/
def countIs (l : List Rule) (p : Piece) (r : Rule) : Bool := holds r p && l.all fun q => !(holds q p && decide (many r < many q))
theorem countIs_eq {l : List Rule} {p : Piece} {r : Rule} (hr : r ∈ l) : countIs l p r = (holds r p && decide (many r = greatest (held l p))) := by
  unfold countIs
  cases hh : holds r p
  · rfl
  · rw [Bool.true_and, Bool.true_and]
    have h1 := greatest_ge (held l p) (many r) (List.mem_map.2 ⟨r, List.mem_filter.2 ⟨hr, hh⟩, rfl⟩)
    apply Bool.eq_iff_iff.2
    rw [List.all_eq_true, decide_eq_true_eq]
    constructor
    · intro h
      rcases foldl_max_mem (held l p) 0 with h2 | h2
      · have : greatest (held l p) = 0 := h2
        have := many_bounds r
        omega
      · obtain ⟨q, hq, hg⟩ := List.mem_map.1 h2
        have hq' := List.mem_filter.1 hq
        have h3 := h q hq'.1
        rw [hq'.2] at h3
        simp only [Bool.true_and, Bool.not_eq_true', decide_eq_false_iff_not] at h3
        have : greatest (held l p) = many q := hg.symm
        omega
    · intro h q hq
      cases hhq : holds q p
      · rfl
      · have := greatest_ge (held l p) (many q) (List.mem_map.2 ⟨q, List.mem_filter.2 ⟨hq, hhq⟩, rfl⟩)
        simp only [Bool.true_and, Bool.not_eq_true', decide_eq_false_iff_not]
        omega
/-- The numbers of the rules that count, the reference's way. -/
def countsR (l : List Rule) (p : Piece) : List Rule → Int → List Int
  | [], _ => []
  | r :: rs, i => if countIs l p r then i :: countsR l p rs (i + 1) else countsR l p rs (i + 1)
theorem countsR_eq (l : List Rule) (p : Piece) : ∀ (rs : List Rule) (i : Int), (∀ r ∈ rs, r ∈ l) → countsR l p rs i = countsFrom (greatest (held l p)) p rs i := by
  intro rs
  induction rs with
  | nil => intro i _; rfl
  | cons r rs ih =>
    intro i h
    simp only [countsR, countsFrom, countIs_eq (h r List.mem_cons_self), ih (i + 1) fun x hx => h x (List.mem_cons_of_mem _ hx)]
theorem countsR_counts (l : List Rule) (p : Piece) : countsR l p l 0 = counts l p := countsR_eq l p l 0 fun _ h => h
end Price
set_option maxHeartbeats 8000000 in
theorem counts2_spec (A : Option Addr) (l : List Rule) (c : Nat) (q : Piece) (w : World) (hm : l.length ≤ big) (hs : Sl ruleE w A l) (ha : ∀ r ∈ l, -1 ≤ r.b ∧ -1 ≤ r.s ∧ -1 ≤ r.e) :
    Calls Try.prog 54 #[.slice A l.length c, q.v] w fun e w' => ∃ v, e = .returned v ∧ Own intE 3 w.heap.size w' v (Price.counts l q) ∧ Below w.heap.size w w' := by
  obtain ⟨x, y, z⟩ := q
  unfold big at hm
  have HA := Lib.hid ha
  clear ha
  go_enter Try.func54, Try.ntmps54
  go_wp2
  have hb0 : Below w.heap.size w (w.alloc (.cells #[iv x, iv y, iv z] 49)) := (Below.refl _ _).alloc (Nat.le_refl _) _
  have hB0 : Blk (w.alloc (.cells #[iv x, iv y, iv z] 49)) w.heap.size 49 #[iv x, iv y, iv z] := Blk.new _ _ _
  have hz0 : (w.alloc (.cells #[iv x, iv y, iv z] 49)).heap.size = w.heap.size + 1 := by simp
  generalize w.alloc (.cells #[iv x, iv y, iv z] 49) = w0 at *
  have hs0 := hs.below hb0
  go_loopw [5, 6, 7, 8] (fun v i _ _ wr => ∃ (k : Nat) (acc : List Int), k ≤ l.length ∧ i = iv k ∧ Own intE 3 w0.heap.size wr v acc ∧ acc.length ≤ k ∧ Hid (acc ++ Price.countsR l ⟨x, y, z⟩ (l.drop k) k = Price.counts l ⟨x, y, z⟩) ∧ Below w0.heap.size w0 wr) (fun _ i _ _ _ => l.length - (intOf i).toNat)
  case atStart => exact ⟨0, [], by omega, rfl, Own.nil, by simp, by exact Price.countsR_counts l ⟨x, y, z⟩, Below.refl _ _⟩
  case round =>
    obtain ⟨k, acc, hk, rfl, hown, hacc, hf, hbw⟩ := hrel
    by_cases hlt : k < l.length
    · obtain ⟨b, off, r, rfl, hb, hx, hc0, hc1, hc2, hc3⟩ := (hs0.below hbw).atR hlt
      have hB := hB0.under hbw
      have hf' := hf.out
      rw [drop_at hx] at hf'
      simp only [Price.countsR] at hf'
      have HF := Lib.hid hf'
      have hra := HA.out r (mem_at hx)
      have HX := Lib.hid hx
      have hsr := hs0.below hbw
      have hlk : (k : Int) < (l.length : Int) := by omega
      obtain ⟨ra, rb, rc, rd⟩ := r
      dsimp only at *
      have HFF : Hid (∀ a : World, Below wr.heap.size wr a → a.cell? ⟨w.heap.size, 0, none⟩ = some (iv x) ∧ a.cell? ⟨w.heap.size, 1, none⟩ = some (iv y) ∧ a.cell? ⟨w.heap.size, 2, none⟩ = some (iv z) ∧ a.cell? ⟨b, off + k * 4, none⟩ = some (iv ra) ∧ a.cell? ⟨b, off + k * 4 + 1, none⟩ = some (iv rb) ∧ a.cell? ⟨b, off + k * 4 + 2, none⟩ = some (iv rc) ∧ a.cell? ⟨b, off + k * 4 + 3, none⟩ = some (iv rd)) := fun a h =>
        ⟨(hB.under h).cell 0, (hB.under h).cell 1, (hB.under h).cell 2, (h.cell (p := ⟨b, off + k * 4, none⟩) hb).trans hc0, (h.cell (p := ⟨b, off + k * 4 + 1, none⟩) hb).trans hc1, (h.cell (p := ⟨b, off + k * 4 + 2, none⟩) hb).trans hc2, (h.cell (p := ⟨b, off + k * 4 + 3, none⟩) hb).trans hc3⟩
      have HH : Hid (∀ a : World, Calls Try.prog 53 #[.agg #[iv ra, iv rb, iv rc, iv rd], .agg #[iv x, iv y, iv z]] a fun e w' => e = .returned (.bool (Price.holds ⟨ra, rb, rc, rd⟩ ⟨x, y, z⟩)) ∧ Below a.heap.size a w') := fun a => holds2_spec ⟨ra, rb, rc, rd⟩ ⟨x, y, z⟩ hra a
      have HN : Hid (∀ a : World, Calls Try.prog 107 #[.agg #[iv ra, iv rb, iv rc, iv rd]] a fun e w' => e = .returned (iv (Price.many ⟨ra, rb, rc, rd⟩)) ∧ Below a.heap.size a w') := fun a => named2_spec ⟨ra, rb, rc, rd⟩ hra a
      obtain ⟨hd, hhd⟩ : ∃ hd, hd = Price.holds ⟨ra, rb, rc, rd⟩ ⟨x, y, z⟩ := ⟨_, rfl⟩
      obtain ⟨mr, hmr⟩ : ∃ mr, mr = Price.many ⟨ra, rb, rc, rd⟩ := ⟨_, rfl⟩
      rw [← hhd] at HH
      rw [← hmr] at HN
      have HHD := Lib.hid hhd
      have HMR := Lib.hid hmr
      have HOW := Lib.hid hown
      clear hf hf' hx hhd hmr hown
      go_wp2
      refine wp_havoc_lit (by kernel_rfl) (by kernel_rfl) ?_
      repeat (first
        | (refine hv_skip (by rfl) ?_; simp only [Act.put, List.setIfInBounds_toArray, List.set_cons_zero, List.set_cons_succ])
        | (apply hv_val (by rfl); (intro w hw; have F := HFF.out w hw; go_simp; exact rfl); simp only [Act.put, List.setIfInBounds_toArray, List.set_cons_zero, List.set_cons_succ])
        | (apply hv_call (by rfl); (intro w hw; have F := HFF.out w hw; go_simp; exact ⟨rfl, rfl⟩); (intro w hw; have F := HFF.out w hw; with_reducible exact HH.out w); simp only [Act.put, List.setIfInBounds_toArray, List.set_cons_zero, List.set_cons_succ]))
      refine hv_nil ?_
      rintro w1 hb1
      have hb1' := hbw.next hb1 (Nat.le_refl _)
      have hsr1 := hsr.below hb1
      go_wp2
      obtain ⟨wo, rfl⟩ : ∃ wo : World, wo = wr := ⟨_, rfl⟩
      go_loopw [7, 8] (fun v7 v8 w2 => ∃ (j : Nat) (bb : Bool), j ≤ l.length ∧ v8 = iv j ∧ v7 = .bool bb ∧ Hid (bb = (hd && (l.take j).all fun p => !(Price.holds p ⟨x, y, z⟩ && decide (mr < Price.many p)))) ∧ Below w1.heap.size w1 w2) (fun _ v8 _ => l.length - (intOf v8).toNat)
      case atStart => exact ⟨0, hd, by omega, rfl, rfl, by show _ = _; simp, Below.refl _ _⟩
      case round =>
        obtain ⟨j, bb, hj, rfl, rfl, hg, hbj⟩ := hrel
        by_cases hjl : j < l.length
        · obtain ⟨b2, off2, r2, hA2, hb2, hx2, hd0, hd1, hd2, hd3⟩ := (hsr1.below hbj).atR hjl
          injection hA2 with hA2
          injection hA2 with e1 e2
          subst e1 e2
          have hra2 := HA.out r2 (mem_at hx2)
          have hg' := hg.out
          have hall := List.all_append (xs := l.take j) (ys := [r2]) (f := fun p => !(Price.holds p ⟨x, y, z⟩ && decide (mr < Price.many p)))
          rw [← take_at hx2] at hall
          simp only [List.all_cons, List.all_nil, Bool.and_true] at hall
          have HALL := Lib.hid hall
          have HG := Lib.hid hg'
          obtain ⟨sa, sb, sc, sd⟩ := r2
          dsimp only at *
          have hbx := hb1.next hbj (Nat.le_refl _)
          have HF2 : Hid (∀ a : World, Below wr.heap.size wr a → a.cell? ⟨w.heap.size, 0, none⟩ = some (iv x) ∧ a.cell? ⟨w.heap.size, 1, none⟩ = some (iv y) ∧ a.cell? ⟨w.heap.size, 2, none⟩ = some (iv z) ∧ (a.cell? ⟨b, off + k * 4, none⟩ = some (iv ra) ∧ a.cell? ⟨b, off + k * 4 + 1, none⟩ = some (iv rb) ∧ a.cell? ⟨b, off + k * 4 + 2, none⟩ = some (iv rc) ∧ a.cell? ⟨b, off + k * 4 + 3, none⟩ = some (iv rd)) ∧
              a.cell? ⟨b, off + j * 4, none⟩ = some (iv sa) ∧ a.cell? ⟨b, off + j * 4 + 1, none⟩ = some (iv sb) ∧ a.cell? ⟨b, off + j * 4 + 2, none⟩ = some (iv sc) ∧ a.cell? ⟨b, off + j * 4 + 3, none⟩ = some (iv sd)) := fun a h => by
            have h0 := HFF.out a (hbx.next h (Nat.le_refl _))
            exact ⟨h0.1, h0.2.1, h0.2.2.1, h0.2.2.2, (h.cell (p := ⟨b, off + j * 4, none⟩) hb2).trans hd0, (h.cell (p := ⟨b, off + j * 4 + 1, none⟩) hb2).trans hd1, (h.cell (p := ⟨b, off + j * 4 + 2, none⟩) hb2).trans hd2, (h.cell (p := ⟨b, off + j * 4 + 3, none⟩) hb2).trans hd3⟩
          have HH2 : Hid (∀ a : World, Calls Try.prog 53 #[.agg #[iv sa, iv sb, iv sc, iv sd], .agg #[iv x, iv y, iv z]] a fun e w' => e = .returned (.bool (Price.holds ⟨sa, sb, sc, sd⟩ ⟨x, y, z⟩)) ∧ Below a.heap.size a w') := fun a => holds2_spec ⟨sa, sb, sc, sd⟩ ⟨x, y, z⟩ hra2 a
          have HN2 : Hid (∀ a : World, Calls Try.prog 107 #[.agg #[iv sa, iv sb, iv sc, iv sd]] a fun e w' => e = .returned (iv (Price.many ⟨sa, sb, sc, sd⟩)) ∧ Below a.heap.size a w') := fun a => named2_spec ⟨sa, sb, sc, sd⟩ hra2 a
          have hlj : (j : Int) < (l.length : Int) := by omega
          obtain ⟨ms, hms⟩ : ∃ ms, ms = Price.many ⟨sa, sb, sc, sd⟩ := ⟨_, rfl⟩
          rw [← hms] at HN2 HALL
          clear hg hg' hall hx2 hms hd0 hd1 hd2 hd3 hc0 hc1 hc2 hc3
          cases hh2 : Price.holds ⟨sa, sb, sc, sd⟩ ⟨x, y, z⟩
          · rw [hh2] at HH2 HALL
            go_wp2
            refine wp_havoc_lit (by kernel_rfl) (by kernel_rfl) ?_
            repeat (first
              | (refine hv_skip (by rfl) ?_; simp only [Act.put, List.setIfInBounds_toArray, List.set_cons_zero, List.set_cons_succ])
              | (apply hv_val (by rfl); (intro w hw; have F := HF2.out w hw; go_simp; exact rfl); simp only [Act.put, List.setIfInBounds_toArray, List.set_cons_zero, List.set_cons_succ])
              | (apply hv_call (by rfl); (intro w hw; have F := HF2.out w hw; go_simp; exact ⟨rfl, rfl⟩); (intro w hw; have F := HF2.out w hw; with_reducible exact HH2.out w); simp only [Act.put, List.setIfInBounds_toArray, List.set_cons_zero, List.set_cons_succ]))
            refine hv_nil ?_
            rintro w3 hb3
            go_wp2
            go_roundw
            case rel => exact ⟨j + 1, bb, by omega, by go_num, rfl, by show _ = _; rw [HALL.out, HG.out]; simp, hbj.next hb3 (Nat.le_refl _)⟩
            case measure => simp [intOf]; omega
          · rw [hh2] at HH2 HALL
            by_cases hlt2 : mr < ms
            · rw [decide_eq_true hlt2] at HALL
              go_wp2
              refine wp_havoc_lit (by kernel_rfl) (by kernel_rfl) ?_
              repeat (first
                | (refine hv_skip (by rfl) ?_; simp only [Act.put, List.setIfInBounds_toArray, List.set_cons_zero, List.set_cons_succ])
                | (apply hv_val (by rfl); (intro w hw; have F := HF2.out w hw; go_simp; exact rfl); simp only [Act.put, List.setIfInBounds_toArray, List.set_cons_zero, List.set_cons_succ])
                | (apply hv_call (by rfl); (intro w hw; have F := HF2.out w hw; go_simp; exact ⟨rfl, rfl⟩); (intro w hw; have F := HF2.out w hw; with_reducible exact HH2.out w); simp only [Act.put, List.setIfInBounds_toArray, List.set_cons_zero, List.set_cons_succ])
                | (apply hv_call (by rfl); (intro w hw; have F := HF2.out w hw; go_simp; exact ⟨rfl, rfl⟩); (intro w hw; have F := HF2.out w hw; with_reducible exact HN2.out w); simp only [Act.put, List.setIfInBounds_toArray, List.set_cons_zero, List.set_cons_succ])
                | (apply hv_call (by rfl); (intro w hw; have F := HF2.out w hw; go_simp; exact ⟨rfl, rfl⟩); (intro w hw; have F := HF2.out w hw; with_reducible exact HN.out w); simp only [Act.put, List.setIfInBounds_toArray, List.set_cons_zero, List.set_cons_succ]))
              refine hv_nil ?_
              rintro w3 hb3
              go_wp2
              go_roundw
              case rel => exact ⟨j + 1, false, by omega, by go_num, rfl, by show _ = _; rw [HALL.out]; simp, hbj.next hb3 (Nat.le_refl _)⟩
              case measure => simp [intOf]; omega
            · rw [decide_eq_false hlt2] at HALL
              go_wp2
              refine wp_havoc_lit (by kernel_rfl) (by kernel_rfl) ?_
              repeat (first
                | (refine hv_skip (by rfl) ?_; simp only [Act.put, List.setIfInBounds_toArray, List.set_cons_zero, List.set_cons_succ])
                | (apply hv_val (by rfl); (intro w hw; have F := HF2.out w hw; go_simp; exact rfl); simp only [Act.put, List.setIfInBounds_toArray, List.set_cons_zero, List.set_cons_succ])
                | (apply hv_call (by rfl); (intro w hw; have F := HF2.out w hw; go_simp; exact ⟨rfl, rfl⟩); (intro w hw; have F := HF2.out w hw; with_reducible exact HH2.out w); simp only [Act.put, List.setIfInBounds_toArray, List.set_cons_zero, List.set_cons_succ])
                | (apply hv_call (by rfl); (intro w hw; have F := HF2.out w hw; go_simp; exact ⟨rfl, rfl⟩); (intro w hw; have F := HF2.out w hw; with_reducible exact HN2.out w); simp only [Act.put, List.setIfInBounds_toArray, List.set_cons_zero, List.set_cons_succ])
                | (apply hv_call (by rfl); (intro w hw; have F := HF2.out w hw; go_simp; exact ⟨rfl, rfl⟩); (intro w hw; have F := HF2.out w hw; with_reducible exact HN.out w); simp only [Act.put, List.setIfInBounds_toArray, List.set_cons_zero, List.set_cons_succ]))
              refine hv_nil ?_
              rintro w3 hb3
              go_wp2
              go_roundw
              case rel => exact ⟨j + 1, bb, by omega, by go_num, rfl, by show _ = _; rw [HALL.out, HG.out]; simp, hbj.next hb3 (Nat.le_refl _)⟩
              case measure => simp [intOf]; omega
        · have hci : Price.countIs l ⟨x, y, z⟩ ⟨ra, rb, rc, rd⟩ = bb := by
            rw [hg.out, List.take_of_length_le (by omega), HHD.out, HMR.out]; rfl
          have hf' := HF.out
          rw [hci] at hf'
          have HF3 := Lib.hid hf'
          have hb2' := hb1'.next hbj (Nat.le_refl _)
          have how2 := (HOW.out.below hb1).below hbj
          have hz2 := hb2'.size
          clear hf' HF hci hg
          cases bb
          · go_wp2
            go_roundw
            case rel => exact ⟨k + 1, acc, by omega, by go_num, how2, by omega, HF3.out, hb2'⟩
            case measure => simp [intOf]; omega
          · go_wp2_with (first
              | (at_builtin; refine wpApp1 intE tyInts rfl _ _ rfl how2 (k : Int) rfl rfl rfl (by omega) (by unfold big; omega) ?_; intro v' w5 hown5 hb5 _))
            go_roundw
            case rel => exact ⟨k + 1, acc ++ [(k : Int)], by omega, by go_num, hown5, by simp; omega, by have := HF3.out; show _ = _; rw [← this]; simp, hb2'.trans hb5⟩
            case measure => simp [intOf]; omega
    · have hf' := hf.out
      rw [drop_end hlt] at hf'
      simp only [Price.countsR, List.append_nil] at hf'
      rw [hf'] at hown
      have hbb := hb0.trans (hbw.mono (by omega))
      clear hf hf'
      go_wp2
      go_ret
      exact ⟨_, rfl, hown.base (by omega), hbb⟩
end Go.Proofs.Ytblmlpkjocbhpaa
