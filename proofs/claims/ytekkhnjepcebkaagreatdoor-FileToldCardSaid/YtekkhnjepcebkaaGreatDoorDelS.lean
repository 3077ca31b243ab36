/- slices.Delete of one line. Condition: lengths are below a bound. -/
import Derived.Test.YtekkhnjepcebkaaGreatDoorInsS
import Derived.Deep.RegionLaw
set_option linter.unusedVariables false
set_option linter.unusedSimpArgs false
namespace Go.Proofs.YtekkhnjepcebkaaGreatDoor
namespace Fl
open Go.RowKit Go.Shelf
set_option maxRecDepth 100000
theorem zeroStr : ∀ w, (zeroValue 9).run Tryz.prog w = .ok (.string ⟨#[]⟩) w := fun w => by kernel_rfl
theorem run_clear1 {w : World} {g : Nat} {cur : Array Value} (hg : Blk w g 9 cur) (o c : Nat) (hfit : o + 1 ≤ cur.size) (ty : TypeId) :
    (Builtin.clear_ #[22] ty #[.slice (some ⟨g, o, none⟩) 1 c]).run Tryz.prog w = .ok (.tuple #[]) (w.setRow g (cur.toList.take o ++ [Value.string ⟨#[]⟩] ++ cur.toList.drop (o + 1)).toArray) := by
  have hst := run_storeCells_at Tryz.prog g o 9 [Value.string ⟨#[]⟩] 0 cur w hg (by simpa using hfit) (by simp [Value.oneCell'])
  simp only [Nat.add_zero] at hst
  have hz : (Builtin.zeroCells (Value.string ⟨#[]⟩).cells 1).toList = [Value.string ⟨#[]⟩] := by simp [Builtin.zeroCells, Value.cells]
  simp [Builtin.clear_, run_underlying Tryz.underlying22, zeroStr, hz, hst]
theorem infoStr : ∃ i, (Tryz.prog).info? 9 = some i ∧ i.size = 1 := by
  obtain ⟨i, h1, _, h2, _⟩ := info_parts (P := Tryz.prog) (e := 9) (z := .string ⟨#[]⟩) (size := 1) (bytes := 16) (by kernel_rfl)
  exact ⟨i, h1, h2⟩
theorem flatS_take (xs : List ByteArray) (i : Nat) : (xs.flatMap strE.cells).take i = (xs.take i).flatMap strE.cells := by rw [flat_str, flat_str, List.map_take]
theorem flatS_drop (xs : List ByteArray) (i : Nat) : (xs.flatMap strE.cells).drop i = (xs.drop i).flatMap strE.cells := by rw [flat_str, flat_str, List.map_drop]
theorem step_append_run {P : Program} {ops : Array Oper} {o : Oper} {a : Act} {w w' : World} {K : Act → World → Prop} {Q : Exit → Act → World → Prop} {E : Prop} {sv xv v : Value}
    (hg : o.guard = none) (s x : Operand) (t : TypeId) (hop : o.op = Op.call { callee := Callee.builtin Builtin.append, args := #[s, x], argTypes := #[t, t] })
    (hs : a.eval s = sv) (hx : a.eval x = xv) (hrun : (Builtin.append_ #[t, t] o.type #[sv, xv]).run P w = .ok v w') (hK : K (a.put o.dst v) w') :
    if Region.wanted o (yielded ops a.tmps) = true then Oper.wp P o a w K Q else E := by
  have hw : Region.wanted o (yielded ops a.tmps) = true := by simp [Region.wanted, hg]
  rw [if_pos hw]
  unfold Oper.wp
  simp [execOp, hop, resolve, invoke, builtin, hs, hx, hrun, Result.andThen]
  exact hK
set_option maxHeartbeats 4000000 in
theorem del_spec {B : Nat} {v : Value} {xs : List ByteArray} (i j : Nat) (w : World) (hown : Own strE 9 B w v xs) (hj : j = i + 1) (hi : i < xs.length) (hm : xs.length ≤ 1000) :
    Calls Tryz.prog 109 #[v, iv i, iv j] w fun e w' => ∃ v', e = .returned v' ∧ Own strE 9 B w' v' (xs.eraseIdx i) ∧ Below B w w' := by
  obtain ⟨i0, hi0, hsz0⟩ := infoStr
  rcases hown.2 with ⟨rfl, hn⟩ | ⟨g, cap, cur, rfl, hBg, hg, hnc, hcm, hcs, htk⟩
  · omega
  · have hcs' : cur.size = cap := by simpa [strE] using hcs
    have htk' : cur.toList.take xs.length = xs.flatMap strE.cells := by simpa [strE] using htk
    obtain ⟨n, hn⟩ : ∃ n, n = xs.length := ⟨_, rfl⟩
    rw [← hn] at hi hm hnc htk' ⊢
    obtain ⟨news, hnews⟩ : ∃ news, news = (xs.drop j).flatMap strE.cells := ⟨_, rfl⟩
    have hnl : news.length = (n - j) := by rw [hnews, flat_str, List.length_map, List.length_drop, ← hn]
    have hgd : w.drew.heap[g]? = some (.cells cur 9 (0, 0)) := hg
    have hget : ∀ k u, news[k]? = some u → cur.toList[j + k]? = some u := fun k u hu => by
      have hk : k < (n - j) := by have := (List.getElem?_eq_some_iff.1 hu).1; omega
      rw [hnews, ← flatS_drop, List.getElem?_drop, ← htk', List.getElem?_take, if_pos (by omega)] at hu
      exact hu
    obtain ⟨A, hA, hsrc⟩ : ∃ A : Addr, (if cap = j then (some ⟨g, 0, none⟩ : Option Addr) else some ⟨g, j, none⟩) = some A ∧ Hid (∀ j u, news[j]? = some u → w.drew.cell? (A.add j) = some u) := by
      by_cases h : cap = j
      · refine ⟨⟨g, 0, none⟩, by simp [h], fun t u hu => ?_⟩
        rw [List.length_eq_zero_iff.1 (by omega : news.length = 0)] at hu
        simp at hu
      · refine ⟨⟨g, j, none⟩, by simp [h], fun t u hu => ?_⟩
        rw [Addr.add_lit, cell_of_row w.drew g _ cur _ (0, 0) hgd, ← Array.getElem?_toList]
        exact hget t u hu
    have hap : ∀ ty, (Builtin.append_ #[22, 22] ty #[.slice (some ⟨g, 0, none⟩) i cap, .slice (some A) (n - j) (cap - j)]).run Tryz.prog w.drew =
        .ok (.slice (some ⟨g, 0, none⟩) (i + (n - j)) cap) (w.drew.setRow g (cur.toList.take (i) ++ news ++ cur.toList.drop (i + news.length)).toArray) := fun ty => by
      have := run_append_room (P := Tryz.prog) w.drew 22 ty 9 i0 Tryz.underlying22 hi0 g i cap cur hgd A (n - j) (cap - j) news (by rw [hsz0]; omega) hsrc.out (fun u hu => by rw [hnews] at hu; obtain ⟨x, _, hx⟩ := List.mem_flatMap.1 hu; exact strE.one x u hx) (by omega) (by rw [hsz0]; omega)
      simp only [hsz0, Nat.mul_one] at this
      exact this
    obtain ⟨c1, hc1⟩ : ∃ c1, c1 = (cur.toList.take (i) ++ news ++ cur.toList.drop (i + news.length)).toArray := ⟨_, rfl⟩
    rw [← hc1] at hap
    have hc1s : c1.size = cap := by rw [hc1]; simp only [List.size_toArray, List.length_append, List.length_take, List.length_drop, Array.length_toList]; omega
    have hB1 : Blk (w.drew.setRow g c1) g 9 c1 := setRow_heap _ _ _ _ _ _ hgd
    have hb1 : Below B w (w.drew.setRow g c1) := below_setRow (Below.drew (Below.refl B w)) hBg c1
    generalize w.drew.setRow g c1 = w1 at *
    have hcl : ∀ ty, (Builtin.clear_ #[22] ty #[.slice (some ⟨g, (i + (n - j)), none⟩) (n - (i + (n - j))) (cap - (i + (n - j)))]).run Tryz.prog w1 = .ok (.tuple #[]) (w1.setRow g (c1.toList.take ((i + (n - j))) ++ [Value.string ⟨#[]⟩] ++ c1.toList.drop ((i + (n - j)) + 1)).toArray) := fun ty => by
      rw [show n - (i + (n - j)) = 1 by omega]
      exact run_clear1 hB1 _ _ (by omega) ty
    have hC := Lib.hid hc1
    obtain ⟨c2, hc2⟩ : ∃ c2, c2 = (c1.toList.take ((i + (n - j))) ++ [Value.string ⟨#[]⟩] ++ c1.toList.drop ((i + (n - j)) + 1)).toArray := ⟨_, rfl⟩
    rw [← hc2] at hcl
    have hB2 : Blk (w1.setRow g c2) g 9 c2 := setRow_heap _ _ _ _ _ _ hB1
    have hb2 : Below B w (w1.setRow g c2) := below_setRow hb1 hBg c2
    generalize w1.setRow g c2 = w2 at *
    have HB2 := Lib.hid hB2
    have HC2 := Lib.hid hc2
    have hij : i ≤ j := by omega
    have hjn : j ≤ n := by omega
    have hjc : j ≤ cap := by omega
    have hic : i ≤ cap := by omega
    have hne : ((i : Int) == (j : Int)) = false := by simp; omega
    have hcn : ¬ cap = i + (n - j) := by omega
    have HT := Lib.hid htk'
    have HN := Lib.hid hnews
    have HO := Lib.hid hown
    have hle1 : i + (n - j) ≤ n := by omega
    have HJ := Lib.hid hj
    clear hc1 hget hgd htk' htk hnews hown hB1 hB2 hc2 hsrc hg hi0 hn hj
    go_enter Tryz.func109, Tryz.ntmps109
    go_wp2
    go_region_law (refine step_append_run (sv := .slice (some ⟨g, 0, none⟩) i cap) (xv := .slice (some A) (n - j) (cap - j)) rfl (.tmp 22) (.tmp 25) 22 rfl (by simp [Act.eval, Act.put]) (by simp [Act.eval, Act.put]) (hap _) ?_)
    go_wp2
    go_ret
    have hjj := HJ.out
    have hnx := HO.out.1
    obtain ⟨_, _, hv0, _, _⟩ := HO.out.form
    have hxn : xs.length = n := by
      have h1 : n ≤ cap := by omega
      have h2 := congrArg List.length HT.out
      rw [List.length_take, flat_length, Array.length_toList] at h2
      have h3 : strE.sz = 1 := rfl
      rw [h3] at h2
      omega
    have hel : (xs.eraseIdx i).length = i + (n - j) := by rw [List.length_eraseIdx_of_lt (by omega)]; omega
    have hce : ((i + (n - j))) = i + news.length := by omega
    have htl : cur.toList.length = cap := by rw [Array.length_toList]; exact hcs'
    have hfin : c1.toList.take ((i + (n - j))) = (xs.eraseIdx i).flatMap strE.cells := by
      rw [hC.out, hce, List.toList_toArray, List.take_append_of_le_length (by simp; omega), List.take_of_length_le (by simp; omega)]
      have e1 : cur.toList.take (i) = (xs.take i).flatMap strE.cells := by
        rw [← flatS_take, ← HT.out, List.take_take, Nat.min_eq_left (by omega)]
      rw [e1, HN.out, ← List.flatMap_append, List.eraseIdx_eq_take_drop_succ, hjj]
    have hc1l : c1.toList.length = cap := by rw [Array.length_toList]; exact hc1s
    refine ⟨_, rfl, ⟨flat_length _ _, .inr ⟨g, cap, _, by rw [hel]; rfl, hBg, HB2.out, by rw [hel]; omega, hcm, ?_, ?_⟩⟩, hb2⟩
    · rw [HC2.out]
      simp only [List.size_toArray, List.length_append, List.length_take, List.length_drop, hc1l]
      show _ = cap * 1
      simp only [List.length_cons, List.length_nil]
      omega
    · rw [hel]
      show List.take ((i + (n - j)) * 1) _ = _
      rw [Nat.mul_one]
      rw [HC2.out, List.toList_toArray, List.append_assoc, List.take_append_of_le_length (by rw [List.length_take, hc1l]; omega), List.take_of_length_le (by rw [List.length_take]; omega), hfin]
end Fl
end Go.Proofs.YtekkhnjepcebkaaGreatDoor
