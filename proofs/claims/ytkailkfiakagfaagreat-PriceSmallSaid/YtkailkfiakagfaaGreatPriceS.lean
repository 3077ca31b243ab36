/- slices.Delete of one rule, Witness of package price. Conditions: lengths are below a great bound. -/
import Derived.Test.YtkailkfiakagfaaGreatPriceP
import Derived.Deep.RegionLaw
set_option linter.unusedVariables false
set_option linter.unusedSimpArgs false
namespace Go.Proofs.YtkailkfiakagfaaGreat
open Go.RowKit Go.Shelf
set_option maxRecDepth 100000

theorem zeroRule : ∀ w, (zeroValue 28).run Tryz.prog w = .ok (.agg #[iv 0, iv 0, iv 0, iv 0]) w := fun w => by kernel_rfl
theorem run_clear1 {w : World} {g : Nat} {cur : Array Value} (hg : Blk w g 28 cur) (o c : Nat) (hfit : o + 4 ≤ cur.size) (ty : TypeId) :
    (Builtin.clear_ #[23] ty #[.slice (some ⟨g, o, none⟩) 1 c]).run Tryz.prog w = .ok (.tuple #[]) (w.setRow g (cur.toList.take o ++ [iv 0, iv 0, iv 0, iv 0] ++ cur.toList.drop (o + 4)).toArray) := by
  have hst := run_storeCells_at Tryz.prog g o 28 [iv 0, iv 0, iv 0, iv 0] 0 cur w hg (by simpa using hfit) (by simp [Value.oneCell'])
  simp only [Nat.add_zero] at hst
  have hz : (Builtin.zeroCells (Value.agg #[iv 0, iv 0, iv 0, iv 0]).cells 1).toList = [iv 0, iv 0, iv 0, iv 0] := by simp [Builtin.zeroCells, Value.cells]; rfl
  simp [Builtin.clear_, run_underlying Tryz.underlying23, zeroRule, hz, hst]
theorem infoRule : ∃ i, (Tryz.prog).info? 28 = some i ∧ i.size = 4 := by
  obtain ⟨i, h1, _, h2, _⟩ := info_parts (P := Tryz.prog) (e := 28) (z := .agg #[iv 0, iv 0, iv 0, iv 0]) (size := 4) (bytes := 32) (by kernel_rfl)
  exact ⟨i, h1, h2⟩
theorem flatR_take (xs : List Rule) (i : Nat) : (xs.flatMap ruleE.cells).take (i * 4) = (xs.take i).flatMap ruleE.cells := by
  induction xs generalizing i with
  | nil => simp
  | cons x xs ih =>
    cases i with
    | zero => simp
    | succ i =>
      have hx : (ruleE.cells x).length = 4 := ruleE.len x
      rw [List.flatMap_cons, List.take_succ_cons, List.flatMap_cons, List.take_append, hx, List.take_of_length_le (by rw [hx]; omega), show (i + 1) * 4 - 4 = i * 4 by omega, ih]
theorem flatR_drop (xs : List Rule) (i : Nat) : (xs.flatMap ruleE.cells).drop (i * 4) = (xs.drop i).flatMap ruleE.cells := by
  induction xs generalizing i with
  | nil => simp
  | cons x xs ih =>
    cases i with
    | zero => simp
    | succ i =>
      have hx : (ruleE.cells x).length = 4 := ruleE.len x
      rw [List.flatMap_cons, List.drop_succ_cons, List.drop_append, hx, List.drop_of_length_le (by rw [hx]; omega), show (i + 1) * 4 - 4 = i * 4 by omega, ih, List.nil_append]
theorem step_append_run {P : Program} {ops : Array Oper} {o : Oper} {a : Act} {w w' : World} {K : Act → World → Prop} {Q : Exit → Act → World → Prop} {E : Prop} {sv xv v : Value}
    (hg : o.guard = none) (s x : Operand) (t : TypeId) (hop : o.op = Op.call { callee := Callee.builtin Builtin.append, args := #[s, x], argTypes := #[t, t] })
    (hs : a.eval s = sv) (hx : a.eval x = xv) (hrun : (Builtin.append_ #[t, t] o.type #[sv, xv]).run P w = .ok v w') (hK : K (a.put o.dst v) w') :
    if Region.wanted o (yielded ops a.tmps) = true then Oper.wp P o a w K Q else E := by
  have hw : Region.wanted o (yielded ops a.tmps) = true := by simp [Region.wanted, hg]
  rw [if_pos hw]
  unfold Oper.wp
  simp [execOp, hop, resolve, invoke, builtin, hs, hx, hrun, Result.andThen]
  exact hK
set_option maxHeartbeats 4000000 in
theorem del_spec {B : Nat} {v : Value} {xs : List Rule} (i j : Nat) (w : World) (hown : Own ruleE 28 B w v xs) (hj : j = i + 1) (hi : i < xs.length) (hm : xs.length ≤ 1000) :
    Calls Tryz.prog 78 #[v, iv i, iv j] w fun e w' => ∃ v', e = .returned v' ∧ Own ruleE 28 B w' v' (xs.eraseIdx i) ∧ Below B w w' := by
  obtain ⟨i0, hi0, hsz0⟩ := infoRule
  rcases hown.2 with ⟨rfl, hn⟩ | ⟨g, cap, cur, rfl, hBg, hg, hnc, hcm, hcs, htk⟩
  · omega
  · have hcs' : cur.size = cap * 4 := hcs
    have htk' : cur.toList.take (xs.length * 4) = xs.flatMap ruleE.cells := htk
    obtain ⟨n, hn⟩ : ∃ n, n = xs.length := ⟨_, rfl⟩
    rw [← hn] at hi hm hnc htk' ⊢
    obtain ⟨news, hnews⟩ : ∃ news, news = (xs.drop j).flatMap ruleE.cells := ⟨_, rfl⟩
    have hnl : news.length = (n - j) * 4 := by rw [hnews, flat_length, List.length_drop, ← hn]; rfl
    have hgd : w.drew.heap[g]? = some (.cells cur 28 (0, 0)) := hg
    have hget : ∀ k u, news[k]? = some u → cur.toList[j * 4 + k]? = some u := fun k u hu => by
      have hk : k < (n - j) * 4 := by have := (List.getElem?_eq_some_iff.1 hu).1; omega
      rw [hnews, ← flatR_drop, List.getElem?_drop, ← htk', List.getElem?_take, if_pos (by omega)] at hu
      exact hu
    obtain ⟨A, hA, hsrc⟩ : ∃ A : Addr, (if cap = j then (some ⟨g, 0, none⟩ : Option Addr) else some ⟨g, j * 4, none⟩) = some A ∧ Hid (∀ j u, news[j]? = some u → w.drew.cell? (A.add j) = some u) := by
      by_cases h : cap = j
      · refine ⟨⟨g, 0, none⟩, by simp [h], fun t u hu => ?_⟩
        rw [List.length_eq_zero_iff.1 (by omega : news.length = 0)] at hu
        simp at hu
      · refine ⟨⟨g, j * 4, none⟩, by simp [h], fun t u hu => ?_⟩
        rw [Addr.add_lit, cell_of_row w.drew g _ cur _ (0, 0) hgd, ← Array.getElem?_toList]
        exact hget t u hu
    have hap : ∀ ty, (Builtin.append_ #[23, 23] ty #[.slice (some ⟨g, 0, none⟩) i cap, .slice (some A) (n - j) (cap - j)]).run Tryz.prog w.drew =
        .ok (.slice (some ⟨g, 0, none⟩) (i + (n - j)) cap) (w.drew.setRow g (cur.toList.take (i * 4) ++ news ++ cur.toList.drop (i * 4 + news.length)).toArray) := fun ty => by
      have := run_append_room (P := Tryz.prog) w.drew 23 ty 28 i0 Tryz.underlying23 hi0 g i cap cur hgd A (n - j) (cap - j) news (by rw [hsz0]; exact hnl) hsrc.out (fun u hu => by rw [hnews] at hu; obtain ⟨x, _, hx⟩ := List.mem_flatMap.1 hu; exact ruleE.one x u hx) (by omega) (by rw [hsz0]; omega)
      rw [hsz0] at this
      exact this
    obtain ⟨c1, hc1⟩ : ∃ c1, c1 = (cur.toList.take (i * 4) ++ news ++ cur.toList.drop (i * 4 + news.length)).toArray := ⟨_, rfl⟩
    rw [← hc1] at hap
    have hc1s : c1.size = cap * 4 := by rw [hc1]; simp only [List.size_toArray, List.length_append, List.length_take, List.length_drop, Array.length_toList]; omega
    have hB1 : Blk (w.drew.setRow g c1) g 28 c1 := setRow_heap _ _ _ _ _ _ hgd
    have hb1 : Below B w (w.drew.setRow g c1) := below_setRow (Below.drew (Below.refl B w)) hBg c1
    generalize w.drew.setRow g c1 = w1 at *
    have hcl : ∀ ty, (Builtin.clear_ #[23] ty #[.slice (some ⟨g, (i + (n - j)) * 4, none⟩) (n - (i + (n - j))) (cap - (i + (n - j)))]).run Tryz.prog w1 = .ok (.tuple #[]) (w1.setRow g (c1.toList.take ((i + (n - j)) * 4) ++ [iv 0, iv 0, iv 0, iv 0] ++ c1.toList.drop ((i + (n - j)) * 4 + 4)).toArray) := fun ty => by
      rw [show n - (i + (n - j)) = 1 by omega]
      exact run_clear1 hB1 _ _ (by omega) ty
    have hC := Lib.hid hc1
    obtain ⟨c2, hc2⟩ : ∃ c2, c2 = (c1.toList.take ((i + (n - j)) * 4) ++ [iv 0, iv 0, iv 0, iv 0] ++ c1.toList.drop ((i + (n - j)) * 4 + 4)).toArray := ⟨_, rfl⟩
    rw [← hc2] at hcl
    have hB2 : Blk (w1.setRow g c2) g 28 c2 := setRow_heap _ _ _ _ _ _ hB1
    have hb2 : Below B w (w1.setRow g c2) := below_setRow hb1 hBg c2
    generalize w1.setRow g c2 = w2 at *
    have HB2 := Lib.hid hB2
    have HC2 := Lib.hid hc2
    have hij : i ≤ j := by omega
    have hjn : j ≤ n := by omega
    have hjc : j ≤ cap := by omega
    have hic : i ≤ cap := by omega
    have hne : ((i : Int) == (j : Int)) = false := by simp; omega
    have hcn : ¬ cap = i + (n - j) := by omega
    have HT := Lib.hid htk'
    have HN := Lib.hid hnews
    have HO := Lib.hid hown
    have hle1 : i + (n - j) ≤ n := by omega
    have HJ := Lib.hid hj
    clear hc1 hget hgd htk' htk hnews hown hB1 hB2 hc2 hsrc hg hi0 hn hj
    go_enter Tryz.func78, Tryz.ntmps78
    go_wp2
    go_region_law (refine step_append_run (sv := .slice (some ⟨g, 0, none⟩) i cap) (xv := .slice (some A) (n - j) (cap - j)) rfl (.tmp 22) (.tmp 25) 23 rfl (by simp [Act.eval, Act.put]) (by simp [Act.eval, Act.put]) (hap _) ?_)
    go_wp2
    go_ret
    have hjj := HJ.out
    have hnx := HO.out.1
    obtain ⟨_, _, hv0, _, _⟩ := HO.out.form
    have hxn : xs.length = n := by
      have h1 : n * 4 ≤ cap * 4 := by omega
      have h2 := congrArg List.length HT.out
      rw [List.length_take, flat_length, Array.length_toList] at h2
      have h3 : ruleE.sz = 4 := rfl
      rw [h3] at h2
      omega
    have hel : (xs.eraseIdx i).length = i + (n - j) := by rw [List.length_eraseIdx_of_lt (by omega)]; omega
    have hce : ((i + (n - j)) * 4) = i * 4 + news.length := by omega
    have htl : cur.toList.length = cap * 4 := by rw [Array.length_toList]; exact hcs'
    have hfin : c1.toList.take ((i + (n - j)) * 4) = (xs.eraseIdx i).flatMap ruleE.cells := by
      rw [hC.out, hce, List.toList_toArray, List.take_append_of_le_length (by simp; omega), List.take_of_length_le (by simp; omega)]
      have e1 : cur.toList.take (i * 4) = (xs.take i).flatMap ruleE.cells := by
        rw [← flatR_take, ← HT.out, List.take_take, Nat.min_eq_left (by omega)]
      rw [e1, HN.out, ← List.flatMap_append, List.eraseIdx_eq_take_drop_succ, hjj]
    have hc1l : c1.toList.length = cap * 4 := by rw [Array.length_toList]; exact hc1s
    refine ⟨_, rfl, ⟨flat_length _ _, .inr ⟨g, cap, _, by rw [hel]; rfl, hBg, HB2.out, by rw [hel]; omega, hcm, ?_, ?_⟩⟩, hb2⟩
    · rw [HC2.out]
      simp only [List.size_toArray, List.length_append, List.length_take, List.length_drop, hc1l]
      show _ = cap * 4
      simp only [List.length_cons, List.length_nil]
      omega
    · rw [hel]
      show List.take ((i + (n - j)) * 4) _ = _
      rw [HC2.out, List.toList_toArray, List.append_assoc, List.take_append_of_le_length (by rw [List.length_take, hc1l]; omega), List.take_of_length_le (by rw [List.length_take]; omega), hfin]
def Price.witnessOf (l : List Rule) (rule : Int) : Piece × Int :=
  if Price.check l = 0 then (if 0 ≤ rule ∧ rule < l.length then Price.differ l (l.eraseIdx rule.toNat) else (⟨0, 0, 0⟩, 1)) else (⟨0, 0, 0⟩, Price.check l)
theorem Witness_spec (A : Option Addr) (l : List Rule) (c : Nat) (rule : Int) (w : World) (hm : l.length ≤ big) (hc : l.length ≤ c) (hs : Sl ruleE w A l) (hr : -9223372036854775808 ≤ rule ∧ rule ≤ 9223372036854775807) :
    Calls Tryz.prog 40 #[.slice A l.length c, iv rule] w fun e w' => e = .returned (.tuple #[(Price.witnessOf l rule).1.v, iv (Price.witnessOf l rule).2]) ∧ Below w.heap.size w w' := by
  have hW : Below w.heap.size w (w.alloc (.cells #[iv 0, iv 0, iv 0] 26)) := (Below.refl _ w).alloc (Nat.le_refl _) _
  by_cases h0 : Price.check l = 0
  · have hp := Price.check_prices h0
    have hl8 := Price.check_length h0
    by_cases h1 : 0 ≤ rule ∧ rule < l.length
    · obtain ⟨k, rfl⟩ : ∃ k : Nat, rule = k := ⟨rule.toNat, by omega⟩
      have hk : k < l.length := by omega
      have he : Price.witnessOf l k = Price.differ l (l.eraseIdx k) := by simp [Price.witnessOf, h0, hk]
      rw [he]
      clear he
      have hin : Price.inB k 0 ((l.length : Int) - 1) = true := by simp [Price.inB]; omega
      have hpe : ∀ r ∈ l.eraseIdx k, 0 ≤ r.p ∧ r.p ≤ 500 := fun r hr => hp r (List.mem_of_mem_eraseIdx hr)
      have hle : (l.eraseIdx k).length ≤ big := by rw [List.length_eraseIdx_of_lt hk]; omega
      go_enter Tryz.func40, Tryz.ntmps40
      go_wp2_with fail
      refine (check_spec A l c _ hm hc (hs.alloc _)).mono ?_
      rintro e w1 ⟨rfl, hb1⟩
      rw [h0]
      go_wp2_with fail
      refine (in_spec (k : Int) 0 ((l.length : Int) - 1) w1).mono ?_
      rintro e w2 ⟨rfl, rfl⟩
      rw [hin]
      go_wp2_with fail
      refine (cloneR A l c w1 hm ((hs.alloc _).below hb1)).mono ?_
      rintro e w3 ⟨v, rfl, hown, hb3⟩
      have hb13 := hb1.next hb3 (Nat.le_refl _)
      go_wp2_with fail
      have hkk : Value.int IntKind.i64 ((k : Int) + 1) = iv ((k + 1 : Nat) : Int) := by push_cast; rfl
      try rw [hkk]
      refine (del_spec k (k + 1) w3 hown rfl hk (by omega)).mono ?_
      rintro e w4 ⟨v', rfl, hown4, hb4⟩
      obtain ⟨A4, c4, rfl, _, _⟩ := hown4.form
      have hb14 := hb1.next (hb3.trans (hb4.mono (Nat.le_refl _))) (Nat.le_refl _)
      go_wp2_with fail
      refine (differ_spec A l c A4 (l.eraseIdx k) c4 w4 hm ((hs.alloc _).below hb14) hp hle hown4.sl hpe).mono ?_
      rintro e w5 ⟨rfl, hb5⟩
      have hb15 := hb14.next hb5 (Nat.le_refl _)
      have k4 := (Blk.new w 26 #[iv 0, iv 0, iv 0]).under hb15
      have k4c := k4.cell
      have k4f := k4.frozen
      go_wp2_with fail
      have k5 := ((k4.set_ 0 (iv ((Price.differ l (l.eraseIdx k)).1.b))).set_ 1 (iv ((Price.differ l (l.eraseIdx k)).1.s))).set_ 2 (iv ((Price.differ l (l.eraseIdx k)).1.e)); have d5 := k5.cell; refine bodyPost_ret (v := .tuple #[.agg #[iv ((Price.differ l (l.eraseIdx k)).1.b), iv ((Price.differ l (l.eraseIdx k)).1.s), iv ((Price.differ l (l.eraseIdx k)).1.e)], iv ((Price.differ l (l.eraseIdx k)).2)]) (by simp [results, Tryz.f40, go_sem, d5]) rfl ⟨rfl, ((hb15.of_alloc.setCell (p := ⟨w.heap.size, 0, none⟩) (Nat.le_refl _) _).setCell (p := ⟨w.heap.size, 1, none⟩) (Nat.le_refl _) _).setCell (p := ⟨w.heap.size, 2, none⟩) (Nat.le_refl _) _⟩
    · have he : Price.witnessOf l rule = (⟨0, 0, 0⟩, 1) := by simp [Price.witnessOf, h0, h1]
      rw [he]
      clear he
      have hin : Price.inB rule 0 ((l.length : Int) - 1) = false := by simp [Price.inB]; omega
      go_enter Tryz.func40, Tryz.ntmps40
      go_wp2_with fail
      refine (check_spec A l c _ hm hc (hs.alloc _)).mono ?_
      rintro e w1 ⟨rfl, hb1⟩
      rw [h0]
      go_wp2_with fail
      refine (in_spec rule 0 ((l.length : Int) - 1) w1).mono ?_
      rintro e w2 ⟨rfl, rfl⟩
      rw [hin]
      have k4 := (Blk.new w 26 #[iv 0, iv 0, iv 0]).under hb1
      have k4c := k4.cell
      have k4f := k4.frozen
      go_wp2_with fail
      have k5 := ((k4.set_ 0 (iv (0))).set_ 1 (iv (0))).set_ 2 (iv (0)); have d5 := k5.cell; refine bodyPost_ret (v := .tuple #[.agg #[iv (0), iv (0), iv (0)], iv (1)]) (by simp [results, Tryz.f40, go_sem, d5]) rfl ⟨rfl, ((hb1.of_alloc.setCell (p := ⟨w.heap.size, 0, none⟩) (Nat.le_refl _) _).setCell (p := ⟨w.heap.size, 1, none⟩) (Nat.le_refl _) _).setCell (p := ⟨w.heap.size, 2, none⟩) (Nat.le_refl _) _⟩
  · have he : Price.witnessOf l rule = (⟨0, 0, 0⟩, Price.check l) := by simp [Price.witnessOf, h0]
    rw [he]
    clear he
    have h0' : (Price.check l != 0) = true := by simpa using h0
    go_enter Tryz.func40, Tryz.ntmps40
    go_wp2_with fail
    refine (check_spec A l c _ hm hc (hs.alloc _)).mono ?_
    rintro e w1 ⟨rfl, hb1⟩
    have k4 := (Blk.new w 26 #[iv 0, iv 0, iv 0]).under hb1
    have k4c := k4.cell
    have k4f := k4.frozen
    go_wp2_with fail
    have k5 := ((k4.set_ 0 (iv (0))).set_ 1 (iv (0))).set_ 2 (iv (0)); have d5 := k5.cell; refine bodyPost_ret (v := .tuple #[.agg #[iv (0), iv (0), iv (0)], iv (Price.check l)]) (by simp [results, Tryz.f40, go_sem, d5]) rfl ⟨rfl, ((hb1.of_alloc.setCell (p := ⟨w.heap.size, 0, none⟩) (Nat.le_refl _) _).setCell (p := ⟨w.heap.size, 1, none⟩) (Nat.le_refl _) _).setCell (p := ⟨w.heap.size, 2, none⟩) (Nat.le_refl _) _⟩
end Go.Proofs.YtkailkfiakagfaaGreat
-- petershamkit.Eq of pieces. Condition: lengths are below a great bound.
namespace Go.Proofs.YtkailkfiakagfaaGreat
open Go.RowKit Go.Shelf
set_option maxRecDepth 100000

theorem take_ne {α : Type} {xs ys : List α} {k : Nat} {x y : α} (hx : xs[k]? = some x) (hy : ys[k]? = some y) (h : x ≠ y) : xs ≠ ys := by
  rintro rfl
  rw [hx] at hy
  injection hy with hy
  exact h hy
set_option maxHeartbeats 1000000 in
theorem equalP (A : Option Addr) (xs : List Piece) (c : Nat) (A' : Option Addr) (ys : List Piece) (c' : Nat) (w : World) (hm : xs.length ≤ big) (hs : Sl pieceE w A xs) (hm' : ys.length ≤ big) (hs' : Sl pieceE w A' ys) :
    Calls Tryz.prog 76 #[.slice A xs.length c, .slice A' ys.length c'] w fun e w' => e = .returned (.bool (decide (xs = ys))) ∧ Below w.heap.size w w' := by
  unfold big at hm hm'
  by_cases hl : xs.length = ys.length
  · have hl' : ((xs.length : Int) != (ys.length : Int)) = false := by simp [hl]
    have HL := Lib.hid hl
    clear hl
    go_enter Tryz.func76, Tryz.ntmps76
    go_wp2
    go_loopw [5, 13] (fun _ i wr => ∃ (k : Nat), k ≤ xs.length ∧ i = iv k ∧ Hid (xs.take k = ys.take k) ∧ Below w.heap.size w wr) (fun _ i _ => xs.length - (intOf i).toNat)
    case atStart => exact ⟨0, by omega, rfl, rfl, Below.refl _ _⟩
    case round =>
      obtain ⟨k, hk, rfl, hf, hbw⟩ := hrel
      by_cases hlt : k < xs.length
      · obtain ⟨b, off, p, rfl, hb, hp, hp0, hp1, hp2⟩ := (hs.below hbw).atP hlt
        obtain ⟨b', off', q, rfl, hb', hq, hq0, hq1, hq2⟩ := (hs'.below hbw).atP (by have := HL.out; omega : k < ys.length)
        obtain ⟨pa, pb, pc⟩ := p
        obtain ⟨qa, qb, qc⟩ := q
        dsimp only at hp0 hp1 hp2 hq0 hq1 hq2
        have hly : (k : Int) < (ys.length : Int) := by have := HL.out; omega
        have hlx : (k : Int) < (xs.length : Int) := by omega
        have heq : ∀ w, (Op.equalIn 10000 26 (.agg #[iv pa, iv pb, iv pc]) (.agg #[iv qa, iv qb, iv qc])).run Tryz.prog w = .ok (decide ((⟨pa, pb, pc⟩ : Piece) = ⟨qa, qb, qc⟩)) w := fun w => by
          rw [eqPiece]
          congr 1
          by_cases h1 : pa = qa <;> by_cases h2 : pb = qb <;> by_cases h3 : pc = qc <;> simp [h1, h2, h3]
        have HP := Lib.hid hp
        have HQ := Lib.hid hq
        clear hp hq hs hs'
        by_cases hpq : (⟨pa, pb, pc⟩ : Piece) = ⟨qa, qb, qc⟩
        · rw [decide_eq_true hpq] at heq
          have HPQ := Lib.hid hpq
          clear hpq
          go_wp2
          go_region
          go_wp2
          go_roundw
          case rel => exact ⟨k + 1, by omega, by go_num, by
            show xs.take (k + 1) = ys.take (k + 1)
            rw [List.take_add_one, List.take_add_one, HP.out, HQ.out, HPQ.out, hf.out], (by first | exact hbw | exact hbw.drew)⟩
          case measure => simp [intOf]; omega
        · rw [decide_eq_false hpq] at heq
          have HPQ := Lib.hid hpq
          clear hpq
          go_wp2
          go_region
          go_wp2
          go_ret
          exact ⟨ret_eq (by rw [decide_eq_false (take_ne HP.out HQ.out HPQ.out)]; rfl), (by first | exact hbw | exact hbw.drew)⟩
      · have he : xs = ys := by
          have := hf.out
          rwa [List.take_of_length_le (by omega), List.take_of_length_le (by have := HL.out; omega)] at this
        have HE := Lib.hid he
        clear he
        go_wp2
        go_ret
        exact ⟨ret_eq (by rw [decide_eq_true HE.out]; rfl), (by first | exact hbw | exact hbw.drew)⟩
  · have hl' : ((xs.length : Int) != (ys.length : Int)) = true := by simp; omega
    go_enter Tryz.func76, Tryz.ntmps76
    go_wp2
    go_ret
    exact ⟨ret_eq (by rw [decide_eq_false (fun h => hl (by rw [h]))]; rfl), Below.refl _ _⟩
theorem eqP (A : Option Addr) (xs : List Piece) (c : Nat) (A' : Option Addr) (ys : List Piece) (c' : Nat) (w : World) (hm : xs.length ≤ big) (hs : Sl pieceE w A xs) (hm' : ys.length ≤ big) (hs' : Sl pieceE w A' ys) :
    Calls Tryz.prog 35 #[.slice A xs.length c, .slice A' ys.length c'] w fun e w' => e = .returned (.bool (decide (xs = ys))) ∧ Below w.heap.size w w' := by
  go_enter Tryz.func35, Tryz.ntmps35
  go_wp2_with (go_at_call 76; refine (equalP A xs c A' ys c' w hm hs hm' hs').mono ?_; rintro e w1 ⟨rfl, hb1⟩)
  go_ret
  exact ⟨rfl, hb1⟩
end Go.Proofs.YtkailkfiakagfaaGreat
-- The examples of the chapter: Five, Week. No condition.
namespace Go.Proofs.YtkailkfiakagfaaGreat
open Go.RowKit Go.Shelf
set_option maxRecDepth 100000

theorem Sl.fresh {α : Type} (E : Enc α) (w : World) (t : TypeId) (arr : Array Value) (xs : List α) (h : arr.toList = xs.flatMap E.cells) (hm : xs.length ≤ maxLen) : Sl E (w.alloc (.cells arr t)) (some ⟨w.heap.size, 0, none⟩) xs := by
  have hb : Blk (w.alloc (.cells arr t)) w.heap.size t (xs.flatMap E.cells).toArray := by
    rw [← h]; exact Blk.new w t arr
  exact (Own.ofBlk (E := E) (B := 0) hb (Nat.zero_le _) hm).sl
def Price.five : List Rule := [⟨-1, -1, -1, 10⟩, ⟨1, -1, -1, 12⟩, ⟨-1, 2, -1, 15⟩, ⟨1, 2, -1, 14⟩, ⟨-1, -1, 1, 12⟩]
def Price.weekStock : List Piece := [⟨1, 2, 0⟩, ⟨0, 0, 0⟩, ⟨1, 0, 0⟩, ⟨0, 0, 0⟩]
theorem Five_spec (w : World) : Calls Tryz.prog 4 #[] w fun e w' => ∃ A, e = .returned (.slice A Price.five.length 5) ∧ Sl ruleE w' A Price.five ∧ Below w.heap.size w w' := by
  go_enter Tryz.func4, Tryz.ntmps4
  go_wp2
  go_ret
  exact ⟨_, rfl, Sl.fresh ruleE w _ _ Price.five rfl (by decide), (Below.refl _ _).alloc (Nat.le_refl _) _⟩
theorem Week_spec (w : World) : Calls Tryz.prog 5 #[] w fun e w' => ∃ A A', e = .returned (.tuple #[saleV 10 A [(1 : Int), 2].length 2, .slice A' Price.weekStock.length 4]) ∧ Sl intE w' A [1, 2] ∧ Sl pieceE w' A' Price.weekStock ∧ Below w.heap.size w w' := by
  go_enter Tryz.func5, Tryz.ntmps5
  go_wp2
  have k0 := ((Blk.new w 30 #[.int .i64 10, .slice (some ⟨w.heap.size + 1, 0, none⟩) 2 2]).alloc (.cells #[.int .i64 1, .int .i64 2] 3)).alloc (.cells #[.int .i64 1, .int .i64 2, .int .i64 0, .int .i64 0, .int .i64 0, .int .i64 0, .int .i64 1, .int .i64 0, .int .i64 0, .int .i64 0, .int .i64 0, .int .i64 0] 26)
  have d0 := k0.cell
  have s1 := (Sl.fresh intE (w.alloc (.cells #[.int .i64 10, .slice (some ⟨w.heap.size + 1, 0, none⟩) 2 2] 30)) 3 #[.int .i64 1, .int .i64 2] [1, 2] rfl (by decide)).alloc (.cells #[.int .i64 1, .int .i64 2, .int .i64 0, .int .i64 0, .int .i64 0, .int .i64 0, .int .i64 1, .int .i64 0, .int .i64 0, .int .i64 0, .int .i64 0, .int .i64 0] 26)
  have s2 := Sl.fresh pieceE ((w.alloc (.cells #[.int .i64 10, .slice (some ⟨w.heap.size + 1, 0, none⟩) 2 2] 30)).alloc (.cells #[.int .i64 1, .int .i64 2] 3)) 26 #[.int .i64 1, .int .i64 2, .int .i64 0, .int .i64 0, .int .i64 0, .int .i64 0, .int .i64 1, .int .i64 0, .int .i64 0, .int .i64 0, .int .i64 0, .int .i64 0] Price.weekStock rfl (by decide)
  rw [World.size_alloc] at s1 s2
  rw [World.size_alloc] at s2
  refine bodyPost_ret (v := .tuple #[.agg #[.int .i64 10, .slice (some ⟨w.heap.size + 1, 0, none⟩) 2 2], .slice (some ⟨w.heap.size + 1 + 1, 0, none⟩) 4 4]) (by simp [results, Tryz.f5, go_sem, d0]) rfl ?_
  exact ⟨_, _, rfl, s1, s2, (((Below.refl _ w).alloc (Nat.le_refl _) _).alloc (by simp) _).alloc (by simp; omega) _⟩
end Go.Proofs.YtkailkfiakagfaaGreat
