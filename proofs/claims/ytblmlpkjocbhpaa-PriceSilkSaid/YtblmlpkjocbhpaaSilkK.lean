/- Package silk, for a mill of one lot: one more weighing. Conditions: weighings that are right. -/
import Derived.Test.YtblmlpkjocbhpaaSilkI
set_option linter.unusedVariables false
set_option linter.unusedSimpArgs false
namespace Go.Proofs.Ytblmlpkjocbhpaa
open Go.RowKit Go.Maps
set_option maxRecDepth 100000
/-- make([]T, n, m) -/
theorem wpMakeCap {α : Type} (E : Enc α) {P : Program} {t e : TypeId} (hT : SlTy P t e E.sz) {ops : Array Oper} {rest : List Oper} {o : Oper} {a : Act} {Q : Exit → Act → World → Prop} {w : World}
    (hgd : o.guard = none) (l c : Operand) (ho : o.op = .makeSlice t l c) (n m : Nat) (hl : a.eval l = iv n) (hc : a.eval c = iv m) (hnm : n ≤ m) (hm : m ≤ big)
    (h : ∀ w' cs, cs.size = m * E.sz → Blk w' w.heap.size e cs → Below w.heap.size w w' → w'.heap.size = w.heap.size + 1 → wpList P ops Q rest (a.put o.dst (.slice (some ⟨w.heap.size, 0, none⟩) n m)) w') :
    wpList P ops Q (o :: rest) a w := by
  obtain ⟨i, z, hi, hz, hsz, hby, hzc⟩ := hT.info
  unfold big at hm
  have hb' : (i.bytes : Int) * (m : Int) ≤ 281474976710656 := by
    have h1 := Nat.mul_le_mul hby hm
    have h : ((i.bytes * m : Nat) : Int) ≤ 281474976710656 := by omega
    rwa [Int.natCast_mul] at h
  have hr := run_make (P := P) w t e i z hT.ht hi hz .i64 .i64 n m (by omega) (by omega) hb' (by omega)
  simp only [Int.toNat_natCast] at hr
  refine wpList_plain hgd fun K hK' => ?_
  unfold Oper.wp
  simp [execOp, ho, hl, hc, hr, Result.andThen]
  exact hK' _ _ (h _ _ (by rw [size_madeCells, hsz]) (Blk.new _ _ _) ((Below.refl _ _).alloc (Nat.le_refl _) _) (by simp))
/-- copy to the head of a block. -/
theorem run_copyE {α : Type} (E : Enc α) {P : Program} {t e ty : TypeId} (hT : SlTy P t e E.sz) {w : World} {g : Nat} {cur : Array Value} (hB : Blk w g e cur) {A : Option Addr} {ys : List α} (hs : Sl E w A ys) (dl dc c k : Nat)
    (hk : k = Nat.min ys.length dl) (hfit : k * E.sz ≤ cur.size) :
    ∃ w2, (Builtin.copy_ #[t, t] ty #[.slice (some ⟨g, 0, none⟩) dl dc, .slice A ys.length c]).run P w = .ok (iv k) w2 ∧ Blk w2 g e ((ys.take k).flatMap E.cells ++ cur.toList.drop (k * E.sz)).toArray ∧ Below g w w2 := by
  obtain ⟨i, z, hi, hz, hsz, hby, hzc⟩ := hT.info
  by_cases h0 : k = 0
  · refine ⟨w, ?_, ?_, Below.refl _ _⟩
    · cases A with
      | none => simp [Builtin.copy_, run_underlying hT.ht, Builtin.lenOf, Builtin.firstCells, sizeOf, typeInfo, hi, ← hk, h0, storeCells]; rfl
      | some ad => simp [Builtin.copy_, run_underlying hT.ht, Builtin.lenOf, Builtin.firstCells, sizeOf, typeInfo, hi, ← hk, h0, storeCells]; rfl
    · simp [h0]; exact hB
  · have hys : ys ≠ [] := by
      rintro rfl
      simp at hk
      omega
    obtain ⟨b, off, rfl, hb, hc⟩ := hs hys
    have hkl : k ≤ ys.length := by rw [hk]; exact Nat.min_le_left _ _
    have hlen : ((ys.take k).flatMap E.cells).length = k * E.sz := by rw [flat_length, List.length_take, Nat.min_eq_left hkl]
    have hl := run_loadCells_list (P := P) w ⟨b, off, none⟩ ((ys.take k).flatMap E.cells) fun j u hu => by
      obtain ⟨q, y, q', rfl, hq, hu⟩ := flat_inv E _ j u hu
      rw [Addr.add_lit, ← Nat.add_assoc]
      refine hc q y ?_ q' u hu
      rw [List.getElem?_take] at hq
      split at hq
      · exact hq
      · cases hq
    have hst := run_storeCells_at P g 0 e ((ys.take k).flatMap E.cells) 0 cur w hB (by simpa [hlen] using hfit) fun u hu => by
      obtain ⟨y, _, hu⟩ := List.mem_flatMap.1 hu
      exact E.one y u hu
    simp only [Nat.zero_add, Nat.add_zero, List.take_zero, List.nil_append, hlen] at hst hl
    refine ⟨w.setRow g ((ys.take k).flatMap E.cells ++ cur.toList.drop (k * E.sz)).toArray, ?_, setRow_heap w g cur _ e (0, 0) hB, below_setRow (Below.refl g w) (Nat.le_refl _) _⟩
    simp only [Builtin.copy_, run_underlying hT.ht, Builtin.lenOf, Builtin.firstCells, sizeOf, typeInfo, hi, hsz, ← hk]
    simp [hl, hst, Builtin.firstCells, run_underlying hT.ht, sizeOf, typeInfo, Builtin.lenOf, hi, hsz, ← hk, Result.andThen, goInt]
theorem wpCopyE {α : Type} (E : Enc α) {P : Program} {t e : TypeId} (hT : SlTy P t e E.sz) {ops : Array Oper} {rest : List Oper} {o : Oper} {a : Act} {Q : Exit → Act → World → Prop} {w : World}
    (hgd : o.guard = none) (d s : Operand) (ho : o.op = .call { callee := .builtin .copy, args := #[d, s], argTypes := #[t, t] }) {g : Nat} {cur : Array Value} (hB : Blk w g e cur) {A : Option Addr} {ys : List α} (hs : Sl E w A ys) (dl dc c k : Nat)
    (hd : a.eval d = .slice (some ⟨g, 0, none⟩) dl dc) (hse : a.eval s = .slice A ys.length c) (hk : k = Nat.min ys.length dl) (hfit : k * E.sz ≤ cur.size)
    (h : ∀ w', Blk w' g e ((ys.take k).flatMap E.cells ++ cur.toList.drop (k * E.sz)).toArray → Below g w w' → wpList P ops Q rest (a.put o.dst (iv k)) w') : wpList P ops Q (o :: rest) a w := by
  obtain ⟨w2, hr, hB2, hb2⟩ := run_copyE E (ty := o.type) hT hB hs dl dc c k hk hfit
  refine wpList_plain hgd fun K hK => ?_
  unfold Oper.wp
  simp [execOp, ho, resolve, invoke, builtin, hd, hse, hr, Result.andThen]
  exact hK _ _ (h w2 hB2 hb2)
/-- A block whose head holds the list is owned. -/
theorem Own.ofHead {α : Type} {E : Enc α} {e : TypeId} {B : Nat} {w : World} {g n m : Nat} {xs : List α} {rest : List Value} (h : Blk w g e (xs.flatMap E.cells ++ rest).toArray) (hB : B ≤ g) (hn : xs.length = n) (hnm : n ≤ m) (hm : m ≤ maxLen) (hr : n * E.sz + rest.length = m * E.sz) :
    Own E e B w (.slice (some ⟨g, 0, none⟩) n m) xs := by
  subst hn
  exact ⟨flat_length E xs, .inr ⟨g, m, _, rfl, hB, h, hnm, hm, by rw [List.size_toArray, List.length_append, flat_length, hr], by simp [← flat_length E xs]⟩⟩
theorem tyLots : SlTy Try.prog 116 115 2 := slTy_of (z := .agg #[iv 0, iv 0]) (bytes := 16) Try.underlying116 (by kernel_rfl) rfl (by decide)
theorem tyWs : SlTy Try.prog 117 129 4 := slTy_of (z := .agg #[iv 0, iv 0, iv 0, iv 0]) (bytes := 32) Try.underlying117 (by kernel_rfl) rfl (by decide)
theorem cloneL (A : Option Addr) (l : List SLot) (c : Nat) (w : World) (hm : l.length ≤ big) (hs : Sl lotE w A l) :
    Calls Try.prog 154 #[.slice A l.length c] w fun e w' => ∃ v, e = .returned v ∧ Own lotE 115 w.heap.size w' v l ∧ Below w.heap.size w w' := by
  cases A with
  | none =>
    have hl : l = [] := by
      by_cases h : l = []
      · exact h
      · obtain ⟨_, _, h, _⟩ := hs h; cases h
    subst hl
    have hnil := fun w => Lib.run_eql_slice_nil (P := Try.prog) w 116 115 none 0 c 0 0 Try.underlying116
    go_enter Try.func154, Try.ntmps154
    go_wp2
    go_ret
    exact ⟨_, rfl, Own.nil, Below.refl _ _⟩
  | some ad =>
    have hnil := fun w => Lib.run_eql_slice_nil (P := Try.prog) w 116 115 (some ad) l.length c 0 0 Try.underlying116
    go_enter Try.func154, Try.ntmps154
    go_wp2_with (at_builtin; refine wpAppS lotE tyLots rfl _ _ rfl (Own.empty (Nat.le_refl _)) (hs.alloc _) rfl rfl (by simp) (by simpa using hm) ?_; intro v1 w1 hown1 hb1 _)
    go_ret
    exact ⟨_, rfl, by simpa using hown1, ((Below.refl _ _).alloc (Nat.le_refl _) _).trans hb1⟩
set_option maxHeartbeats 2000000 in
theorem copied_spec (Al : Option Addr) (cl : Nat) (Aw : Option Addr) (ws : List Weigh) (c : Nat) (w : World) (hl : Sl lotE w Al [⟨-1, 2⟩]) (hw : Sl weighE w Aw ws) (hn : ws.length ≤ 10) :
    Calls Try.prog 125 #[millV Al cl Aw ws.length c] w fun e w' => ∃ A2 c2 g, e = .returned (.agg #[iv 1, .slice A2 1 c2, .slice (some ⟨g, 0, none⟩) ws.length (ws.length + 1)]) ∧ Own lotE 115 w.heap.size w' (.slice A2 1 c2) [⟨-1, 2⟩] ∧
      Own weighE 129 w.heap.size w' (.slice (some ⟨g, 0, none⟩) ws.length (ws.length + 1)) ws ∧ Below w.heap.size w w' := by
  have e1 : IntKind.i64.wrap ((ws.length : Int) + 1) = ((ws.length + 1 : Nat) : Int) := IntWalk.i64_in _ (by omega)
  go_enter Try.func125, Try.ntmps125
  go_upto_region 1 with fail
  have hM : Blk ((w.alloc (.cells #[iv 1, .slice Al 1 cl, .slice Aw ws.length c] 119)).alloc (.cells #[iv 0, .slice none 0 0, .slice none 0 0] 119)) w.heap.size 119 #[iv 1, .slice Al 1 cl, .slice Aw ws.length c] := (Blk.new _ _ _).alloc _
  have hR : Blk ((w.alloc (.cells #[iv 1, .slice Al 1 cl, .slice Aw ws.length c] 119)).alloc (.cells #[iv 0, .slice none 0 0, .slice none 0 0] 119)) (w.heap.size + 1) 119 #[iv 0, .slice none 0 0, .slice none 0 0] := Blk.new_ _ _ _ (by simp)
  have hb1 : Below w.heap.size w ((w.alloc (.cells #[iv 1, .slice Al 1 cl, .slice Aw ws.length c] 119)).alloc (.cells #[iv 0, .slice none 0 0, .slice none 0 0] 119)) := ((Below.refl _ _).alloc (Nat.le_refl _) _).alloc (by simp) _
  generalize (w.alloc (.cells #[iv 1, .slice Al 1 cl, .slice Aw ws.length c] 119)).alloc (.cells #[iv 0, .slice none 0 0, .slice none 0 0] 119) = w1 at *
  have m1 := hM.cell
  have l1 := hM.lt
  go_upto_region 3 with (first
    | (at_make; refine wpMakeCap weighE tyWs rfl _ _ rfl ws.length (ws.length + 1) rfl (by first | rfl | exact congrArg iv e1) (by omega) (by unfold big; omega) ?_; intro w3 cs hcs hB3 hb3 hz3; have hM3 := hM.under hb3; have m3 := hM3.cell; have l3 := hM3.lt)
    | (refine wpCopyE weighE tyWs rfl _ _ rfl hB3 (hw.below (hb1.next hb3 (Nat.le_refl _))) ws.length (ws.length + 1) c ws.length rfl rfl (by simp) (by rw [hcs]; exact Nat.mul_le_mul_right _ (by omega)) ?_; intro w4 hB4 hb4))
  simp only [List.take_length] at hB4
  have hb14 : Below w1.heap.size w1 w4 := hb3.trans hb4
  have hb04 := hb1.next hb14 (Nat.le_refl _)
  have hM4 := hM.under hb14
  have hR4 := hR.under hb14
  have hl4 := hl.below hb04
  have hge : w.heap.size + 1 < w1.heap.size := hR.lt
  have HOWN := Lib.hid (show ∀ x, Below w4.heap.size w4 x → Own weighE 129 w1.heap.size x (.slice (some ⟨w1.heap.size, 0, none⟩) ws.length (ws.length + 1)) ws from fun x hx =>
    (Own.ofHead (n := ws.length) (m := ws.length + 1) hB4 (by omega) rfl (by omega) (by unfold maxLen; omega) (by have := Nat.mul_le_mul_right weighE.sz (show ws.length ≤ ws.length + 1 by omega); simp only [List.length_drop, Array.length_toList, hcs]; omega)).below hx)
  have HFF : Hid (∀ a : World, Below w4.heap.size w4 a → a.cell? ⟨w.heap.size, 0, none⟩ = some (iv 1) ∧ a.cell? ⟨w.heap.size, 1, none⟩ = some (.slice Al 1 cl)) := fun a h => ⟨(hM4.under h).cell 0, (hM4.under h).cell 1⟩
  have HL4 := Lib.hid hl4
  have HR4 := Lib.hid hR4
  have HB04 := Lib.hid hb04
  have hge4 : w1.heap.size < w4.heap.size := hB4.lt
  clear hM hR hb1 m1 l1 hB3 hb3 hz3 hM3 m3 l3 hB4 hb4 hb14 hb04 hM4 hR4 hl4 hcs hl hw
  simp only [Act.put]
  refine wp_free_lit (by kernel_rfl) 7 (by kernel_rfl) (by kernel_rfl) (by decide) (fun _ x => Below w4.heap.size w4 x) (fun x x' => Below x.heap.size x x')
    [fun _ u _ => u = .pointer (some ⟨w.heap.size, 0, none⟩),
     fun _ u _ => u = iv 1,
     fun _ u _ => u = .pointer (some ⟨w.heap.size, 1, none⟩),
     fun _ u _ => u = .slice Al 1 cl,
     fun _ u x => Own lotE 115 w4.heap.size x u [⟨-1, 2⟩],
     fun _ u _ => u = .slice (some ⟨w1.heap.size, 0, none⟩) ws.length (ws.length + 1),
     fun v u _ => u = .agg #[iv 1, v 4, .slice (some ⟨w1.heap.size, 0, none⟩) ws.length (ws.length + 1)]]
    (Below.refl _ w4).drew ?_ ?_
  · simp only [List.take_succ_cons, List.take_zero, HopL]
    refine ⟨?_, ?_, ?_, ?_, ?_, ?_, ?_, trivial⟩
    · refine ⟨fun _ _ _ _ _ h => h, fun _ _ _ _ h _ => h, fun v n x hn hR hk => ?_⟩
      obtain ⟨f0, f1⟩ := HFF.out x hR
      skip
      simp only [List.take_succ_cons, List.take_zero, frameF, Act.put, List.setIfInBounds_toArray, List.set_cons_zero, List.set_cons_succ]
      exact stepF_val (by rfl) (by go_simp) ⟨rfl, Below.refl _ _, hR⟩
    · refine ⟨fun _ _ _ _ _ h => h, fun _ _ _ _ h _ => h, fun v n x hn hR hk => ?_⟩
      obtain ⟨f0, f1⟩ := HFF.out x hR
      have h0 : v 0 = .pointer (some ⟨w.heap.size, 0, none⟩) := hk 0 (by kernel_rfl)
      simp only [List.take_succ_cons, List.take_zero, frameF, Act.put, List.setIfInBounds_toArray, List.set_cons_zero, List.set_cons_succ]
      exact stepF_val (by rfl) (by go_simp) ⟨rfl, Below.refl _ _, hR⟩
    · refine ⟨fun _ _ _ _ _ h => h, fun _ _ _ _ h _ => h, fun v n x hn hR hk => ?_⟩
      obtain ⟨f0, f1⟩ := HFF.out x hR
      skip
      simp only [List.take_succ_cons, List.take_zero, frameF, Act.put, List.setIfInBounds_toArray, List.set_cons_zero, List.set_cons_succ]
      exact stepF_val (by rfl) (by go_simp) ⟨rfl, Below.refl _ _, hR⟩
    · refine ⟨fun _ _ _ _ _ h => h, fun _ _ _ _ h _ => h, fun v n x hn hR hk => ?_⟩
      obtain ⟨f0, f1⟩ := HFF.out x hR
      have h0 : v 2 = .pointer (some ⟨w.heap.size, 1, none⟩) := hk 2 (by kernel_rfl)
      simp only [List.take_succ_cons, List.take_zero, frameF, Act.put, List.setIfInBounds_toArray, List.set_cons_zero, List.set_cons_succ]
      exact stepF_val (by rfl) (by go_simp) ⟨rfl, Below.refl _ _, hR⟩
    · refine ⟨fun _ _ _ _ _ h => h, fun _ _ _ _ h hS => h.below hS, fun v n x hn hR hk => ?_⟩
      have h3 : v 3 = .slice Al 1 cl := hk 3 (by kernel_rfl)
      simp only [List.take_succ_cons, List.take_zero, frameF, Act.put, List.setIfInBounds_toArray, List.set_cons_zero, List.set_cons_succ]
      refine stepF_call (by rfl) (by go_simp) (cloneL Al [⟨-1, 2⟩] cl x (by simp [big]) (HL4.out.below hR)) ?_
      rintro e x' ⟨u, rfl, hown, hbx⟩
      exact ⟨_, rfl, hown.base hR.size, hbx, hR.next hbx (Nat.le_refl _)⟩
    · refine ⟨fun _ _ _ _ _ h => h, fun _ _ _ _ h _ => h, fun v n x hn hR hk => ?_⟩
      obtain ⟨f0, f1⟩ := HFF.out x hR
      skip
      simp only [List.take_succ_cons, List.take_zero, frameF, Act.put, List.setIfInBounds_toArray, List.set_cons_zero, List.set_cons_succ]
      exact stepF_val (by rfl) (by go_simp) ⟨rfl, Below.refl _ _, hR⟩
    · refine ⟨fun v v' u x hvv h => ?_, fun _ _ _ _ h _ => h, fun v n x hn hR hk => ?_⟩
      · have e4 : v 4 = v' 4 := hvv 4 (by kernel_rfl)
        show u = .agg #[iv 1, v' 4, .slice (some ⟨w1.heap.size, 0, none⟩) ws.length (ws.length + 1)]
        rw [← e4]
        exact h
      · have h1 : v 1 = iv 1 := hk 1 (by kernel_rfl)
        have h4 : Own lotE 115 w4.heap.size x (v 4) [⟨-1, 2⟩] := hk 4 (by kernel_rfl)
        have h5 : v 5 = .slice (some ⟨w1.heap.size, 0, none⟩) ws.length (ws.length + 1) := hk 5 (by kernel_rfl)
        obtain ⟨A, c2, e4, _, _⟩ := h4.form
        simp only [List.take_succ_cons, List.take_zero, frameF, Act.put, List.setIfInBounds_toArray, List.set_cons_zero, List.set_cons_succ]
        exact stepF_val (by rfl) (by go_simp) ⟨rfl, Below.refl _ _, hR⟩
  · intro v n x hn hR hall
    have h6 : v 6 = .agg #[iv 1, v 4, .slice (some ⟨w1.heap.size, 0, none⟩) ws.length (ws.length + 1)] := hall 6 (by decide)
    have h4 : Own lotE 115 w4.heap.size x (v 4) [⟨-1, 2⟩] := hall 4 (by decide)
    have HO4 := Lib.hid h4
    have HX := Lib.hid hR
    have hRx := HR4.out.under hR
    have n0 := hRx.cell
    have n1 := hRx.lt
    have n2 := hRx.frozen
    have HRX := Lib.hid hRx
    obtain ⟨A2, c2, e4, _, _⟩ := h4.form
    rw [e4] at h6 HO4
    clear hall h4 hR hRx
    simp only [List.drop_succ_cons, List.drop_zero, List.take_succ_cons, List.take_zero, frameF, Act.put, List.setIfInBounds_toArray, List.set_cons_zero, List.set_cons_succ, h6]
    go_wp2_with fail
    have hRf : Blk (((x.setCell ⟨w.heap.size + 1, 0, none⟩ (iv 1)).setCell ⟨w.heap.size + 1, 1, none⟩ (.slice A2 1 c2)).setCell ⟨w.heap.size + 1, 2, none⟩ (.slice (some ⟨w1.heap.size, 0, none⟩) ws.length (ws.length + 1))) (w.heap.size + 1) 119 #[iv 1, .slice A2 1 c2, .slice (some ⟨w1.heap.size, 0, none⟩) ws.length (ws.length + 1)] := by
      simpa using ((HRX.out.set_ 0 (iv 1)).set_ 1 (.slice A2 1 c2)).set_ 2 (.slice (some ⟨w1.heap.size, 0, none⟩) ws.length (ws.length + 1))
    have hxs := HX.out.size
    exact bodyPost_ret (results_cell_row (P := Try.prog) (fn := Try.f125) (p := 2) (ty := 119) (by kernel_rfl) _ _ (w.heap.size + 1) 119 _ (0, 0) _ (by rfl) hRf Try.underlying119 (by rfl) (by kernel_rfl)) rfl
      ⟨A2, c2, w1.heap.size, rfl, (((HO4.out.setCell (by simp; omega) _).setCell (by simp; omega) _).setCell (by simp; omega) _).base (by omega), ((((HOWN.out x HX.out).setCell (by simpa using hge) _).setCell (by simpa using hge) _).setCell (by simpa using hge) _).base (by omega),
       (((HB04.out.next HX.out (Nat.le_refl _)).setCell (by simp) _).setCell (by simp) _).setCell (by simp) _⟩
theorem Own.apart5 {α β : Type} {E : Enc α} {E2 : Enc β} {e e2 : TypeId} {B B2 : Nat} {w : World} {v v2 : Value} {xs : List α} {ys : List β} (h : Own E e B w v xs) (h2 : Own E2 e2 B2 w v2 ys) (hne : e ≠ e2) {b : Nat} (hb : v.ownBlock = some b) : v2.ownBlock ≠ some b := fun hv => by
  rcases h.2 with ⟨rfl, _⟩ | ⟨g, cap, cur, rfl, _, hg, _⟩
  · cases hb
  · rcases h2.2 with ⟨rfl, _⟩ | ⟨g', cap', cur', rfl, _, hg', _⟩
    · cases hv
    · have e1 : g = b := by simpa [Value.ownBlock] using hb
      have e3 : g' = b := by simpa [Value.ownBlock] using hv
      rw [e1] at hg
      rw [e3, hg] at hg'
      injection hg' with hg'
      injection hg' with _ h3 _
      exact hne h3
set_option maxHeartbeats 2000000 in
theorem weigh_spec (Al : Option Addr) (cl : Nat) (Aw : Option Addr) (ws : List Weigh) (c : Nat) (x : Weigh) (w : World) (hl : Sl lotE w Al [⟨-1, 2⟩]) (hw : Sl weighE w Aw ws) (hn : ws.length ≤ 9) (hok : ∀ x ∈ ws, x.Ok) (hx : x.Ok) :
    Calls Try.prog 79 #[millV Al cl Aw ws.length c, x.v] w fun e w' => ∃ A2 c2 A3 c3, e = .returned (.tuple #[millV A2 c2 A3 (ws.length + 1) c3, iv 0]) ∧ Own lotE 115 w.heap.size w' (.slice A2 1 c2) [⟨-1, 2⟩] ∧ Own weighE 129 w.heap.size w' (.slice A3 (ws.length + 1) c3) (ws ++ [x]) ∧ Below w.heap.size w w' := by
  have hne : ¬ (ws.length : Int) = 10 := by omega
  have HOK := Lib.hid hok
  obtain ⟨x0, x1, x2, x3⟩ := x
  have HX := Lib.hid hx
  clear hok hx
  go_enter Try.func79, Try.ntmps79
  go_wp2_with fail
  have hM : Blk (((w.alloc (.cells #[iv 1, .slice Al 1 cl, .slice Aw ws.length c] 119)).alloc (.cells #[iv x0, iv x1, iv x2, iv x3] 129)).alloc (.cells #[iv 0, .slice none 0 0, .slice none 0 0] 119)) w.heap.size 119 #[iv 1, .slice Al 1 cl, .slice Aw ws.length c] := ((Blk.new _ _ _).alloc _).alloc _
  have hW : Blk (((w.alloc (.cells #[iv 1, .slice Al 1 cl, .slice Aw ws.length c] 119)).alloc (.cells #[iv x0, iv x1, iv x2, iv x3] 129)).alloc (.cells #[iv 0, .slice none 0 0, .slice none 0 0] 119)) (w.heap.size + 1) 129 #[iv x0, iv x1, iv x2, iv x3] := (Blk.new_ _ _ _ (by simp)).alloc _
  have hR : Blk (((w.alloc (.cells #[iv 1, .slice Al 1 cl, .slice Aw ws.length c] 119)).alloc (.cells #[iv x0, iv x1, iv x2, iv x3] 129)).alloc (.cells #[iv 0, .slice none 0 0, .slice none 0 0] 119)) (w.heap.size + 1 + 1) 119 #[iv 0, .slice none 0 0, .slice none 0 0] := Blk.new_ _ _ _ (by simp)
  have hb1 : Below w.heap.size w (((w.alloc (.cells #[iv 1, .slice Al 1 cl, .slice Aw ws.length c] 119)).alloc (.cells #[iv x0, iv x1, iv x2, iv x3] 129)).alloc (.cells #[iv 0, .slice none 0 0, .slice none 0 0] 119)) := (((Below.refl _ _).alloc (Nat.le_refl _) _).alloc (by simp) _).alloc (by simp; omega) _
  generalize ((w.alloc (.cells #[iv 1, .slice Al 1 cl, .slice Aw ws.length c] 119)).alloc (.cells #[iv x0, iv x1, iv x2, iv x3] 129)).alloc (.cells #[iv 0, .slice none 0 0, .slice none 0 0] 119) = w1 at *
  refine (scheck_spec Al cl Aw ws c w1 (hl.below hb1) (hw.below hb1) (by omega) HOK.out).mono ?_
  rintro e w2 ⟨rfl, hb2⟩
  have hM2 := hM.under hb2
  have hW2 := hW.under hb2
  have hR2 := hR.under hb2
  have hb02 := hb1.next hb2 (Nat.le_refl _)
  have m0 := hM2.cell
  have m1 := hM2.lt
  clear hM hW hR hb1 hb2
  have HCO := Lib.hid (copied_spec Al cl Aw ws c w2 (hl.below hb02) (hw.below hb02) (by omega))
  clear hl hw
  go_wp2_with fail
  refine HCO.out.mono ?_
  rintro e w3 ⟨A2, c2, g, rfl, hl3, hw3, hb3⟩
  have hW3 := hW2.under hb3
  have hR3 := hR2.under hb3
  have hb03 := hb02.next hb3 (Nat.le_refl _)
  have hz02 : w.heap.size + 1 + 1 < w2.heap.size := hR2.lt
  clear hM2 hW2 HCO m0 m1
  go_upto_region 7 with fail
  have hO4 : Blk (w3.alloc (.cells #[iv 1, .slice A2 1 c2, .slice (some ⟨g, 0, none⟩) ws.length (ws.length + 1)] 119)) w3.heap.size 119 #[iv 1, .slice A2 1 c2, .slice (some ⟨g, 0, none⟩) ws.length (ws.length + 1)] := Blk.new _ _ _
  have hb4 : Below w3.heap.size w3 (w3.alloc (.cells #[iv 1, .slice A2 1 c2, .slice (some ⟨g, 0, none⟩) ws.length (ws.length + 1)] 119)) := (Below.refl _ _).alloc (Nat.le_refl _) _
  have hW4 := hW3.under hb4
  have hR4 := hR3.under hb4
  have hl4 := hl3.below hb4
  have hw4 := hw3.below hb4
  have hb24 := hb3.next hb4 (Nat.le_refl _)
  change Code.wp _ _ _ _ (w3.alloc (.cells #[iv 1, .slice A2 1 c2, .slice (some ⟨g, 0, none⟩) ws.length (ws.length + 1)] 119))
  have hz24 : w2.heap.size ≤ w3.heap.size := hb3.size
  generalize (w3.alloc (.cells #[iv 1, .slice A2 1 c2, .slice (some ⟨g, 0, none⟩) ws.length (ws.length + 1)] 119)) = w4 at *
  generalize w3.heap.size = go at *
  have hlen : (ws ++ [(⟨x0, x1, x2, x3⟩ : Weigh)]).length = ws.length + 1 := by simp
  have n0 := hO4.cell
  have n1 := hO4.lt
  have q0 := hW4.cell
  have q1 := hW4.lt
  have hz4 := hb24.size
  have HLEN := Lib.hid hlen
  clear hlen hW3 hR3 hl3 hw3 hb3 hb4
  go_upto_region 8 with (at_builtin; refine wpApp1G weighE tyWs rfl _ _ rfl hw4 (⟨x0, x1, x2, x3⟩ : Weigh) (by rfl) rfl rfl rfl hb24.size (by unfold big; omega) ?_; intro v5 w5 hown5 hb5 hot5; obtain ⟨A3, c3, e5, _, _⟩ := hown5.form; rw [HLEN.out] at e5; subst e5; have hO5 : Blk w5 go 119 _ := (hot5 go n1 (Own.ne_blkS hw4 hO4 (by decide))).trans hO4; have hl5 := hl4.keep hb5.size (fun b hv => hot5 b (hl4.lt b hv).2 (Own.apart5 hl4 hw4 (by decide) hv)); have p0 := hO5.cell; have p1 := hO5.lt; have p2 := hO5.frozen; have HO5 := Lib.hid hO5; clear hO5 hot5)
  have hO6 : Blk (w5.setCell ⟨go, 2, none⟩ (.slice A3 (ws.length + 1) c3)) go 119 #[iv 1, .slice A2 1 c2, .slice A3 (ws.length + 1) c3] := by simpa using HO5.out.set_ 2 (.slice A3 (ws.length + 1) c3)
  have hl6 : Own lotE 115 w2.heap.size (w5.setCell ⟨go, 2, none⟩ (.slice A3 (ws.length + 1) c3)) (.slice A2 1 c2) [⟨-1, 2⟩] := (hl5.keep (by simp [World.setCell]) fun b hv => Below.heap_setCell _ _ _ b (fun e => Own.ne_blkS hl5 HO5.out (by decide) (by rw [hv]; exact congrArg some e)))
  have hw6 : Own weighE 129 w2.heap.size (w5.setCell ⟨go, 2, none⟩ (.slice A3 (ws.length + 1) c3)) (.slice A3 (ws.length + 1) c3) (ws ++ [⟨x0, x1, x2, x3⟩]) := (hown5.keep (by simp [World.setCell]) fun b hv => Below.heap_setCell _ _ _ b (fun e => Own.ne_blkS hown5 HO5.out (by decide) (by rw [hv]; exact congrArg some e)))
  have hb26 : Below w2.heap.size w2 (w5.setCell ⟨go, 2, none⟩ (.slice A3 (ws.length + 1) c3)) := (hb24.trans hb5).setCell (by simpa using hz24) _
  generalize w5.setCell ⟨go, 2, none⟩ (.slice A3 (ws.length + 1) c3) = w6 at *
  have HCK := scheck_spec A2 c2 A3 (ws ++ [⟨x0, x1, x2, x3⟩]) c3 w6 hl6.sl hw6.sl (by rw [HLEN.out]; omega) (fun y hy => by
    rcases List.mem_append.1 hy with h | h
    · exact HOK.out y h
    · rw [List.mem_singleton.1 h]; exact HX.out)
  rw [HLEN.out] at HCK
  have HC6 := Lib.hid HCK
  have o0 := hO6.cell
  have o1 := hO6.lt
  have hR6 := hR2.under hb26
  have hb06 := hb02.next hb26 (Nat.le_refl _)
  clear HCK p0 p1 p2 HO5 hown5 hl5 hb5 hw4 hl4 hW4 hR4 hO4 hR2 hb24 q0 q1 n0 n1
  go_wp2_with fail
  refine HC6.out.mono ?_
  rintro e w7 ⟨rfl, hb7⟩
  have hO7 := hO6.under hb7
  have hR7 := hR6.under hb7
  have hb07 := hb06.next hb7 (Nat.le_refl _)
  have hl7 := hl6.below hb7
  have hw7 := hw6.below hb7
  have o0 := hO7.cell
  have o1 := hO7.lt
  have r0 := hR7.cell
  have r1 := hR7.lt
  have r2 := hR7.frozen
  have HR7 := Lib.hid hR7
  clear HC6 hO6 hR6 hb06 hl6 hw6 hO7 hR7
  go_wp2_with fail
  have hRf : Blk (((w7.setCell ⟨w.heap.size + 1 + 1, 0, none⟩ (iv 1)).setCell ⟨w.heap.size + 1 + 1, 1, none⟩ (.slice A2 1 c2)).setCell ⟨w.heap.size + 1 + 1, 2, none⟩ (.slice A3 (ws.length + 1) c3)) (w.heap.size + 1 + 1) 119 #[iv 1, .slice A2 1 c2, .slice A3 (ws.length + 1) c3] := by
    simpa using ((HR7.out.set_ 0 (iv 1)).set_ 1 (.slice A2 1 c2)).set_ 2 (.slice A3 (ws.length + 1) c3)
  have hr := run_loadVar_row (P := Try.prog) _ (w.heap.size + 1 + 1) 119 119 _ (0, 0) _ hRf Try.underlying119 rfl (by kernel_rfl)
  refine bodyPost_ret (v := .tuple #[.agg #[iv 1, .slice A2 1 c2, .slice A3 (ws.length + 1) c3], iv 0]) ?_ rfl ⟨A2, c2, A3, c3, rfl, (((hl7.setCell hz02 _).setCell hz02 _).setCell hz02 _).base (by omega), (((hw7.setCell hz02 _).setCell hz02 _).setCell hz02 _).base (by omega), ((hb07.setCell (by simp; omega) _).setCell (by simp; omega) _).setCell (by simp; omega) _⟩
  rw [results_cell_tmp (p := 4) (u := 5) (ty := 119) (by kernel_rfl)]
  simp [asAddr, hr]
end Go.Proofs.Ytblmlpkjocbhpaa
