/- The spool's orders. Conditions: at most 100 numbers. -/
import Derived.Test.YtblmlpkjocbhpaaCountsP
import Derived.Test.YtblmlpkjocbhpaaTriedW
import Derived.Test.YtblmlpkjocbhpaaEqR
set_option linter.unusedVariables false
set_option linter.unusedSimpArgs false
namespace Go.Proofs.Ytblmlpkjocbhpaa
open Go.RowKit Go.Shelf
set_option maxRecDepth 100000
theorem upTo_succ (j : Nat) : Price.upTo (j + 1) = Price.upTo j ++ [(j : Int)] := by
  unfold Price.upTo; rw [List.range_succ, List.map_append]; rfl
/-- One step of an order. -/
theorem order_step {acc : List Int} {j n r : Nat} (hl : acc.length = j) (hp : acc.Perm (Price.upTo j)) (hj : j < n) (hr : r ≤ j) :
    ∃ acc2 : List Int, acc2.length = j + 1 ∧ acc2.Perm (Price.upTo (j + 1)) ∧ ((acc ++ List.replicate (n - j) 0).set j ((acc ++ List.replicate (n - j) 0).getD r 0)).set r (j : Int) = acc2 ++ List.replicate (n - (j + 1)) 0 := by
  have hrep : List.replicate (n - j) (0 : Int) = 0 :: List.replicate (n - (j + 1)) 0 := by
    rw [show n - j = (n - (j + 1)) + 1 by omega]; rfl
  rw [hrep]
  by_cases h : r < j
  · have hx : acc[r]? = some (acc[r]'(by omega)) := List.getElem?_eq_getElem _
    refine ⟨acc.set r j ++ [acc[r]'(by omega)], by simp [hl], ?_, ?_⟩
    · rw [upTo_succ]
      exact (Price.set_perm acc r _ (j : Int) hx).trans (hp.append_right _)
    · have hg : (acc ++ 0 :: List.replicate (n - (j + 1)) (0 : Int)).getD r 0 = acc[r]'(by omega) := by
        rw [List.getD_eq_getElem?_getD, List.getElem?_append_left (by omega), hx]; rfl
      rw [hg, List.set_append_right _ _ (by omega)]
      rw [show j - acc.length = 0 by omega, List.set_cons_zero, List.set_append_left _ _ (by omega), List.append_assoc]
      rfl
  · obtain rfl : r = j := by omega
    refine ⟨acc ++ [(r : Int)], by simp [hl], by rw [upTo_succ]; exact hp.append_right _, ?_⟩
    rw [List.set_set, List.set_append_right _ _ (by omega), show r - acc.length = 0 by omega, List.set_cons_zero, List.append_assoc]
    rfl
theorem upTo_nodup (n : Nat) : (Price.upTo n).Nodup := by
  unfold Price.upTo List.Nodup
  rw [List.pairwise_map]
  exact List.Pairwise.imp (fun h e => h (by omega)) (List.nodup_range (n := n))
theorem upTo_map {α : Type} (ts : List α) (d : α) : (Price.upTo ts.length).map (fun x => ts.getD x.toNat d) = ts := by
  apply List.ext_getElem
  · simp [Price.upTo]
  · intro i h1 h2
    simp [Price.upTo, List.getD_eq_getElem?_getD, List.getElem?_eq_getElem h2]
/-- A list whose rules are put at the places of an order. -/
theorem turned_perm {l ts : List Rule} {os : List Int} (hp : os.Perm (Price.upTo l.length)) (hl : ts.length = l.length) (hol : os.length = l.length) (h : ∀ (i : Nat) (x : Int) (r : Rule), os[i]? = some x → l[i]? = some r → ts[x.toNat]? = some r) : l.Perm ts := by
  have h1 : os.map (fun x => ts.getD x.toNat default) = l := by
    apply List.ext_getElem
    · simp [hol]
    · intro i h1 h2
      have := h i (os[i]'(by omega)) (l[i]) (List.getElem?_eq_getElem _) (List.getElem?_eq_getElem _)
      simp [List.getD_eq_getElem?_getD, this]
  rw [← h1]
  refine (hp.map _).trans ?_
  rw [← hl, upTo_map]
theorem order_mem {os : List Int} {n : Nat} (hp : os.Perm (Price.upTo n)) {x : Int} (hx : x ∈ os) : 0 ≤ x ∧ x < n := by
  have := hp.mem_iff.1 hx
  simp only [Price.upTo, List.mem_map, List.mem_range] at this
  obtain ⟨i, hi, rfl⟩ := this
  omega
theorem flatR_set (r : Rule) : ∀ (ts : List Rule) (i : Nat), i < ts.length → ((((ts.flatMap ruleE.cells).set (i * 4) (iv r.b)).set (i * 4 + 1) (iv r.s)).set (i * 4 + 2) (iv r.e)).set (i * 4 + 3) (iv r.p) = (ts.set i r).flatMap ruleE.cells := by
  intro ts
  induction ts with
  | nil => intro i h; simp at h
  | cons t ts ih =>
    intro i h
    have hc : ∀ q : Rule, ruleE.cells q = [iv q.b, iv q.s, iv q.e, iv q.p] := fun _ => rfl
    cases i with
    | zero => simp [List.flatMap_cons, hc]
    | succ i =>
      have h1 := ih i (by simpa using h)
      simp only [List.flatMap_cons, List.set_cons_succ]
      rw [← h1, hc]
      simp only [List.cons_append, List.nil_append]
      rw [show (i + 1) * 4 = i * 4 + 1 + 1 + 1 + 1 by omega]
      rfl
theorem blkR_set {w : World} {g : Nat} {t : TypeId} {ts : List Rule} (r : Rule) {i : Nat} (h : Blk w g t (ts.flatMap ruleE.cells).toArray) (hi : i < ts.length) :
    Blk ((((w.setCell ⟨g, i * 4, none⟩ (iv r.b)).setCell ⟨g, i * 4 + 1, none⟩ (iv r.s)).setCell ⟨g, i * 4 + 2, none⟩ (iv r.e)).setCell ⟨g, i * 4 + 3, none⟩ (iv r.p)) g t ((ts.set i r).flatMap ruleE.cells).toArray := by
  have := (((h.set_ (i * 4) (iv r.b)).set_ (i * 4 + 1) (iv r.s)).set_ (i * 4 + 2) (iv r.e)).set_ (i * 4 + 3) (iv r.p)
  rw [← flatR_set r ts i hi]
  simpa using this
/-- What an order answers. -/
def OrderOk (n B g k : Nat) (w : World) (e : Ending) (w' : World) : Prop :=
  ∃ (v : Value) (os : List Int), e = .returned v ∧ Own intE 3 w.heap.size w' v os ∧ os.length = n ∧ os.Perm (Price.upTo n) ∧ IsSpool B w' g (k + n) ∧ Only g w w'
set_option maxHeartbeats 4000000 in
theorem order_spec (B g k n : Nat) (w : World) (h : IsSpool B w g k) (hk : k < 1000000) (hn : n ≤ 100) :
    Calls Try.prog 61 #[.pointer (some ⟨g, 0, none⟩), iv n] w (OrderOk n B g k w) := by
  have hgB : g < B ∧ B ≤ w.heap.size := ⟨h.1, h.2.1⟩
  have H := Lib.hid h
  have hmx : max (0 : Int) (n : Int) = (n : Int) := by omega
  clear h
  go_enter Try.func61, Try.ntmps61
  go_wp2_with (at_make; (try rw [hmx]); refine wpMakeN intE tyInts 0 ⟨_, _, rfl, rfl, rfl⟩ rfl _ _ rfl n (by first | rfl | simp [hmx]) (by first | rfl | simp [hmx]) (by unfold big; omega) ?_; intro w3 hob hb3)
  have hz3 := hb3.size
  have hgl := (hob.lt w.heap.size rfl).2
  have hsp3 := H.out.below hb3 (by omega)
  have hon3 : Hid (Only g w w3) := ⟨hb3.mono (by omega), fun b hb _ => hb3.block b hb⟩
  clear H
  go_wp2_with fail
  go_loopw [6, 7, 13] (fun _ _ i wr => ∃ (j : Nat) (acc : List Int), j ≤ n ∧ i = iv j ∧ acc.length = j ∧ Hid (acc.Perm (Price.upTo j)) ∧ Own intE 3 w.heap.size wr (.slice (some ⟨w.heap.size, 0, none⟩) n n) (acc ++ List.replicate (n - j) 0) ∧ IsSpool B wr g (k + j) ∧ Hid (Only g w wr)) (fun _ _ i _ => n - (intOf i).toNat)
  case atStart => exact ⟨0, [], by omega, rfl, rfl, List.Perm.refl _, by simpa using hob, hsp3, hon3⟩
  case round =>
    obtain ⟨j, acc, hj, rfl, hal, hap, hown, hsp, hon⟩ := hrel
    have hzr := hon.out.below.size
    by_cases hlt : j < n
    · have hji : (j : Int) < (n : Int) := by omega
      have hU := Lib.hid (upto_spec B wr g (k + j) j hsp (by omega) (by omega))
      have HAL := Lib.hid hal
      have HOW := Lib.hid hown
      clear hal hown hsp
      go_wp2_with fail
      refine hU.out.mono ?_
      rintro e w4 ⟨r, rfl, hr, hsp4, ho4⟩
      have hown4 := HOW.out.only (by omega) ho4
      have hlen : (acc ++ List.replicate (n - j) (0 : Int)).length = n := by simp [HAL.out]; omega
      obtain ⟨acc2, ha2, hp2, he2⟩ := order_step HAL.out hap.out hlt hr
      obtain ⟨full, hfull⟩ : ∃ full, full = acc ++ List.replicate (n - j) (0 : Int) := ⟨_, rfl⟩
      rw [← hfull] at hown4 hlen he2
      have hri : (r : Int) < (n : Int) := by omega
      obtain ⟨vr, hvr⟩ : ∃ vr, vr = full.getD r 0 := ⟨_, rfl⟩
      obtain ⟨z1, _, hg4, hcr, _⟩ := hown4.store r (by omega) 0
      obtain ⟨z2, _, _, _, hst⟩ := hown4.store j (by omega) vr
      obtain ⟨z3, _, hg5, _, hst2⟩ := hst.store r (by simp; omega) (j : Int)
      rw [← hvr] at hcr he2
      rw [he2] at hst2
      have HST := Lib.hid hst2
      have hspx : IsSpool B ((w4.setCell ⟨w.heap.size, j, none⟩ (iv vr)).setCell ⟨w.heap.size, r, none⟩ (iv j)) g (k + j + 1) := hsp4.keep (by simp [World.setCell]) fun b hb => by rw [Below.heap_setCell _ _ _ b (by simp; omega), Below.heap_setCell _ _ _ b (by simp; omega)]
      have HSP := Lib.hid hspx
      have HON : Hid (Only g w ((w4.setCell ⟨w.heap.size, j, none⟩ (iv vr)).setCell ⟨w.heap.size, r, none⟩ (iv j))) := ((hon.out.trans ho4).setCell (p := ⟨w.heap.size, j, none⟩) (by simp; omega) (by simp) _).setCell (p := ⟨w.heap.size, r, none⟩) (by simp; omega) (by simp) _
      have hz4 := ho4.below.size
      have HA2 := Lib.hid ha2
      have HP2 := Lib.hid hp2
      clear hfull hvr hst hst2 he2 hspx hlen hsp4 ho4 ha2 hp2 hown4 hU
      go_wp2_with fail
      go_roundw
      case rel => exact ⟨j + 1, acc2, by omega, by go_num, HA2.out, HP2.out, HST.out, HSP.out, HON.out⟩
      case measure => simp [intOf]; omega
    · obtain rfl : j = n := by omega
      go_wp2_with fail
      go_ret
      rw [Nat.sub_self, List.replicate_zero, List.append_nil] at hown
      exact ⟨_, acc, rfl, hown, hal, hap.out, hsp, hon.out⟩
end Go.Proofs.Ytblmlpkjocbhpaa
-- slices.Contains and slices.IsSorted of numbers; the spool's orders. Conditions: lengths are below a great bound.
namespace Go.Proofs.Ytblmlpkjocbhpaa
open Go.RowKit Go.Shelf
set_option maxRecDepth 100000
theorem index2I (A : Option Addr) (xs : List Int) (c : Nat) (r : Int) (w : World) (hm : xs.length ≤ big) (hs : Sl intE w A xs) :
    Calls Try.prog 112 #[.slice A xs.length c, iv r] w fun e w' => e = .returned (iv (findFrom (fun x => decide (r = x)) xs 0)) ∧ w = w' := by
  unfold big at hm
  go_enter Try.func112, Try.ntmps112
  go_wp2
  go_loop [5, 8] (fun _ i => ∃ (k : Nat), k ≤ xs.length ∧ i = iv k ∧ Hid (findFrom (fun x => decide (r = x)) (xs.drop k) k = findFrom (fun x => decide (r = x)) xs 0)) (fun _ i => xs.length - (intOf i).toNat)
  case atStart => exact ⟨0, by omega, rfl, rfl⟩
  case round =>
    obtain ⟨k, hk, rfl, hf⟩ := hrel
    by_cases hlt : k < xs.length
    · obtain ⟨b, off, p, rfl, hb, hp, hc⟩ := hs.atI hlt
      have hf' := hf.out
      rw [drop_at hp] at hf'
      simp only [findFrom] at hf'
      have HF := Lib.hid hf'
      have hlx : (k : Int) < (xs.length : Int) := by omega
      clear hf hf' hp hs
      by_cases hpq : r = p
      · have hpq' : (r == p) = true := by simpa using hpq
        have h2 := HF.out
        rw [if_pos (by simpa using hpq)] at h2
        have H2 := Lib.hid h2
        clear h2 HF hpq
        go_wp2
        go_ret
        exact ⟨ret_eq (by rw [← H2.out]; rfl), rfl⟩
      · have hpq' : (r == p) = false := by simpa using hpq
        have h2 := HF.out
        rw [if_neg (by simpa using hpq)] at h2
        have H2 := Lib.hid h2
        clear h2 HF hpq
        go_wp2
        go_round
        case rel => exact ⟨k + 1, by omega, by go_num, H2⟩
        case measure => simp [intOf]; omega
    · have hf' := hf.out
      rw [drop_end hlt] at hf'
      have HF := Lib.hid hf'
      clear hf hf'
      go_wp2
      go_ret
      exact ⟨ret_eq (by rw [← HF.out]; rfl), rfl⟩
theorem containsI_any (r : Int) (xs : List Int) (k : Int) (hk : 0 ≤ k) : decide (0 ≤ findFrom (fun x => decide (r = x)) xs k) = xs.contains r := by
  rw [findFrom_nonneg _ xs k hk]
  induction xs with
  | nil => rfl
  | cons x xs ih => simp only [List.any_cons, ih, List.contains_cons]; congr 1
theorem contains2I (A : Option Addr) (xs : List Int) (c : Nat) (r : Int) (w : World) (hm : xs.length ≤ big) (hs : Sl intE w A xs) :
    Calls Try.prog 66 #[.slice A xs.length c, iv r] w fun e w' => e = .returned (.bool (xs.contains r)) ∧ w = w' := by
  have HI := Lib.hid (index2I A xs c r w hm hs)
  have HC := Lib.hid (containsI_any r xs 0 (Int.le_refl 0))
  generalize findFrom (fun x => decide (r = x)) xs 0 = fi at *
  go_enter Try.func66, Try.ntmps66
  go_wp2_with (go_at_call 112; refine HI.out.mono ?_; rintro e w1 ⟨rfl, rfl⟩)
  go_ret
  exact ⟨ret_eq (by rw [← HC.out]; rfl), rfl⟩
theorem isNaN_int (x : Int) (w : World) : Calls Try.prog 140 #[iv x] w fun e w' => e = .returned (.bool false) ∧ w = w' := by
  go_enter Try.func140, Try.ntmps140
  go_wp2
  go_ret
  exact ⟨by simp, rfl⟩
theorem less_int (x y : Int) (w : World) : Calls Try.prog 113 #[iv x, iv y] w fun e w' => e = .returned (.bool (decide (x < y))) ∧ w = w' := by
  by_cases h : x < y
  · rw [decide_eq_true h]
    go_enter Try.func113, Try.ntmps113
    go_wp2_with (go_at_call 140; refine (isNaN_int _ _).mono ?_; rintro e w' ⟨rfl, rfl⟩)
    go_ret
    exact ⟨by first | rfl | (simp; done) | (simp; omega), rfl⟩
  · rw [decide_eq_false h]
    go_enter Try.func113, Try.ntmps113
    go_wp2_with (go_at_call 140; refine (isNaN_int _ _).mono ?_; rintro e w' ⟨rfl, rfl⟩)
    go_ret
    exact ⟨by first | rfl | (simp; done) | (simp; omega), rfl⟩
/-- Do the numbers rise? -/
def Rising (xs : List Int) : Prop := ∀ k x y, xs[k]? = some x → xs[k + 1]? = some y → x ≤ y
set_option maxHeartbeats 2000000 in
theorem sortedI (A : Option Addr) (xs : List Int) (c : Nat) (w : World) (hm : xs.length ≤ big) (hs : Sl intE w A xs) (hr : Rising xs) :
    Calls Try.prog 67 #[.slice A xs.length c] w fun e w' => e = .returned (.bool true) ∧ Below w.heap.size w w' := by
  unfold big at hm
  have HR := Lib.hid hr
  have hwl : IntKind.i64.wrap ((xs.length : Int) - 1) = (xs.length : Int) - 1 := IntWalk.i64_in _ (by omega)
  clear hr
  go_enter Try.func67, Try.ntmps67
  go_wp2
  go_loopw [3] (fun i wr => ∃ k : Int, -1 ≤ k ∧ k < xs.length ∧ i = iv k ∧ Below w.heap.size w wr) (fun i _ => (intOf i).toNat)
  case atStart => exact ⟨(xs.length : Int) - 1, by omega, by omega, rfl, Below.refl _ _⟩
  case round =>
    obtain ⟨k, hk0, hk1, rfl, hbw⟩ := hrel
    by_cases hlt : 0 < k
    · obtain ⟨j, rfl⟩ : ∃ j : Nat, k = ((j + 1 : Nat) : Int) := ⟨(k - 1).toNat, by omega⟩
      have hj1 : j + 1 < xs.length := by omega
      obtain ⟨b, off, x, rfl, hb, hx, hc⟩ := (hs.below hbw).atI (k := j) (by omega)
      obtain ⟨b2, off2, y, hA, hb2, hy, hc2⟩ := (hs.below hbw).atI (k := j + 1) hj1
      injection hA with hA
      injection hA with e1 e2
      subst e1 e2
      have hxy := HR.out j x y hx hy
      have q1 : IntKind.i64.wrap ((j : Int) + 1 - 1) = (j : Int) := by rw [Int.add_sub_cancel]; exact IntWalk.i64_in _ (by omega)
      have q6 : IntKind.i64.wrap (j : Int) = (j : Int) := IntWalk.i64_in _ (by omega)
      have q2 : (j : Int) + 1 < (xs.length : Int) := by omega
      have q3 : (j : Int) < (xs.length : Int) := by omega
      have q4 : (0 : Int) ≤ (j : Int) + 1 := by omega
      have q5 : ((j : Int) + 1).toNat = j + 1 := by omega
      have HFF : Hid (∀ a : World, Below wr.heap.size wr a → a.cell? ⟨b, off + j, none⟩ = some (iv x) ∧ a.cell? ⟨b, off + (j + 1), none⟩ = some (iv y)) := fun a h => ⟨(h.cell (p := ⟨b, off + j, none⟩) hb).trans hc, (h.cell (p := ⟨b, off + (j + 1), none⟩) hb).trans hc2⟩
      have HL : Hid (∀ a : World, Calls Try.prog 113 #[iv y, iv x] a fun e w' => e = .returned (.bool false) ∧ Below a.heap.size a w') := fun a => by
        have := less_int y x a
        rw [decide_eq_false (by omega)] at this
        exact this.mono fun e w' h => ⟨h.1, by rw [← h.2]; exact Below.refl _ _⟩
      clear hc hc2 hx hy hxy
      go_wp2_with fail
      refine wp_havoc_lit (by kernel_rfl) (by kernel_rfl) ?_
      repeat (first
        | (refine hv_skip (by rfl) ?_; simp only [Act.put, List.setIfInBounds_toArray, List.set_cons_zero, List.set_cons_succ])
        | (apply hv_val (by rfl); (intro w hw; have F := HFF.out w hw; go_simp; exact rfl); simp only [Act.put, List.setIfInBounds_toArray, List.set_cons_zero, List.set_cons_succ])
        | (apply hv_call (by rfl); (intro w hw; have F := HFF.out w hw; go_simp; exact ⟨rfl, rfl⟩); (intro w hw; have F := HFF.out w hw; with_reducible exact HL.out w); simp only [Act.put, List.setIfInBounds_toArray, List.set_cons_zero, List.set_cons_succ]))
      refine hv_nil ?_
      rintro w3 hb3
      go_wp2
      go_roundw
      case rel => exact ⟨(j : Int), by omega, by omega, (by first | rfl | go_num), hbw.next hb3 (Nat.le_refl _)⟩
      case measure => simp [intOf] <;> omega
    · go_wp2
      go_ret
      exact ⟨rfl, hbw⟩
end Go.Proofs.Ytblmlpkjocbhpaa
