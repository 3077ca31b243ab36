/- Package silk, for a mill of one lot: what is told, and where silk is. Conditions: weighings that are right. -/
import Derived.Test.YtblmlpkjocbhpaaSilkG
set_option linter.unusedVariables false
set_option linter.unusedSimpArgs false
namespace Go.Proofs.Ytblmlpkjocbhpaa
open Go.RowKit Go.Maps
set_option maxRecDepth 100000
theorem all_spec (w : World) : Calls Try.prog 152 #[] w fun e w' => e = .returned (.agg #[.func (.func 165) #[] #[]]) ∧ Below w.heap.size w w' := by
  go_enter Try.func152, Try.ntmps152
  go_wp2_with fail
  exact bodyPost_ret (results_cell_row (P := Try.prog) (fn := Try.f152) (p := 0) (ty := 200) (by kernel_rfl) _ _ w.heap.size 200 _ (0, 0) _ (by rfl) (Blk.new w _ _) Try.underlying200 (by rfl) (by kernel_rfl)) rfl ⟨rfl, (Below.refl _ _).alloc (Nat.le_refl _) _⟩
theorem results_tct {fn : Func} {t p u : Tmp} {ty : TypeId} (h : fn.results = #[.tmp t, .cell p ty, .tmp u]) (tmps : Array Value) (P : Program) (w : World) (g : Nat) (v : Value) (hp : tmps.getD p undef = .pointer (some ⟨g, 0, none⟩)) (hv : (loadVar ty ⟨g, 0, none⟩).run P w = .ok v w) :
    (results fn tmps).run P w = .ok (.tuple #[tmps.getD t undef, v, tmps.getD u undef]) w := by
  have hp' : tmps[p]?.getD undef = .pointer (some ⟨g, 0, none⟩) := by simpa using hp
  simp [results, h, hp', asAddr, hv]
theorem stepF_load_row {P : Program} {ops : Array Oper} {o : Oper} {a : Act} {K : Value → World → Prop} {w : World} (hw : Region.wanted o (yielded ops a.tmps) = true) (ty : TypeId) (x : Operand) (ho : o.op = .load ty x)
    (g : Nat) (hx : a.eval x = .pointer (some ⟨g, 0, none⟩)) (t : TypeId) (cs : Array Value) (fr : Nat × Nat) (d : TypeDesc) (hg : w.heap[g]? = some (.cells cs t fr))
    (hu : P.underlying ty = some d) (hd : (match d with | .struct _ | .array _ _ => true | _ => false) = true) (hi : (P.info? ty).map (·.size) = some cs.size) (hK : K (.agg cs) w) : StepF P ops o a w K := by
  refine stepF_val (u := .agg cs) hw ?_ hK
  unfold execOp
  simp only [ho, hx, Instr.loadAt, Instr.sureAddr, Sem.run_bind, Sem.run_pure, Result.andThen_ok, run_loadVar_row w g t ty cs fr d hg hu hd hi]
theorem Own.ne_blkS {α : Type} {E : Enc α} {e t : TypeId} {B : Nat} {w : World} {v : Value} {xs : List α} {g : Nat} {cs : Array Value} (h : Own E e B w v xs) (hb : Blk w g t cs) (ht : t ≠ e) : v.ownBlock ≠ some g := fun hv => by
  rcases h.2 with ⟨rfl, _⟩ | ⟨g', cap, cur, rfl, _, hg, _⟩
  · cases hv
  · have hg' : g' = g := by simpa [Value.ownBlock] using hv
    unfold Blk at hb
    rw [hg', hb] at hg
    injection hg with hg
    injection hg with _ h2 _
    exact ht h2
theorem DeskOk.setRow {x : World} {gd gr : Nat} {l y : Value} {old cs : Array Value} (h : DeskOk x gd l y) (hr : Blk x gr 176 old) : DeskOk (x.setRow gr cs) gd l y := by
  obtain ⟨gm, gp, cp, h1, h2, h3⟩ := h
  have e1 : gd ≠ gr := by
    rintro rfl
    unfold Blk at h1 hr
    rw [h1] at hr
    injection hr with hr
    injection hr with _ hr _
    exact absurd hr (by decide)
  have e2 : gm ≠ gr := by
    rintro rfl
    obtain ⟨es, ck, hh, _⟩ := h2
    unfold Blk at hr
    rw [hh] at hr
    cases hr
  have e3 := Own.ne_blkS h3 hr (by decide)
  have hz : (x.setRow gr cs).heap.size = x.heap.size := by simp [World.setRow]
  refine ⟨gm, gp, cp, (setRow_other x gr gd cs e1).trans h1, ?_, h3.keep (Nat.le_of_eq hz.symm) fun b hb => setRow_other x gr b cs (fun e => e3 (by rw [hb, e]))⟩
  exact World.ownsMap.kept (row := some gr) h2 ⟨rfl, rfl, rfl, Nat.le_of_eq hz.symm, fun k _ hk => setRow_other x gr k cs (fun e => hk (by rw [e]))⟩ (by simpa using e2)
set_option maxHeartbeats 4000000 in
theorem told_spec (Al : Option Addr) (cl : Nat) (Aw : Option Addr) (ws : List Weigh) (c : Nat) (w : World) (hl : Sl lotE w Al [⟨-1, 2⟩]) (hw : Sl weighE w Aw ws) (hn : ws.length ≤ 10) (hok : ∀ x ∈ ws, x.Ok) (h : (Price.sbnd ws).1 ≤ (Price.sbnd ws).2) :
    Calls Try.prog 121 #[millV Al cl Aw ws.length c] w fun e w' => ∃ gd, e = .returned (.tuple #[.pointer (some ⟨gd, 0, none⟩), bndV (Price.sbnd ws).1 (Price.sbnd ws).2, iv 0]) ∧ Below w.heap.size w w' ∧ DeskOk w' gd (.slice Al 1 cl) (.slice Aw ws.length c) := by
  have hb1 : Below w.heap.size w (w.alloc (.cells #[iv 1, .slice Al 1 cl, .slice Aw ws.length c] 119)) := (Below.refl _ _).alloc (Nat.le_refl _) _
  have hz1 : (w.alloc (.cells #[iv 1, .slice Al 1 cl, .slice Aw ws.length c] 119)).heap.size = w.heap.size + 1 := by simp
  have hR2 : Blk ((w.alloc (.cells #[iv 1, .slice Al 1 cl, .slice Aw ws.length c] 119)).alloc (.cells zeroA 176)) (w.heap.size + 1) 176 zeroA := by rw [← hz1]; exact Blk.new _ _ _
  have hb2 := hb1.alloc hb1.size (.cells zeroA 176)
  have HOP := Lib.hid (opened_one Al cl Aw ws c _ (hl.below hb2) (hw.below hb2) hn hok)
  clear hb1 hz1
  go_enter Try.func121, Try.ntmps121
  go_wp2_with fail
  refine HOP.out.mono ?_
  generalize (w.alloc (.cells #[iv 1, .slice Al 1 cl, .slice Aw ws.length c] 119)).alloc (.cells zeroA 176) = w2 at *
  rintro e w3 ⟨gd, rfl, hb3, hd3⟩
  have hb03 := hb2.next hb3 (Nat.le_refl _)
  have hR3 := hR2.under hb3
  clear HOP hR2 hb2 hb3
  go_wp2_with fail
  refine (all_spec _).mono ?_
  rintro e w4 ⟨rfl, hb4⟩
  have hd4 := hd3.below hb4
  have hb04 := hb03.next hb4 (Nat.le_refl _)
  have hR4 := hR3.under hb4
  have HBN := Lib.hid (bounds_spec gd Al cl Aw ws c w4 hd4 (hw.below hb04) hn hok h)
  clear hd3 hb03 hR3 hb4
  go_wp2_with fail
  refine HBN.out.mono ?_
  rintro e w5 ⟨rfl, hb5⟩
  have hd5 := hd4.below hb5
  have hb05 := hb04.next hb5 (Nat.le_refl _)
  have hR5 := hR4.under hb5
  clear hd4 hb04 hR4 hb5 HBN
  go_upto_region 5 with (refine wpList_store_row rfl 176 _ _ rfl w5.heap.size _ rfl rfl 176 zeroA (heap_alloc_new w5 _) (bndA_info _ _) (by rw [bndA_size]; rfl) (bndA_one _ _) ?_)
  have hx6 : Below w5.heap.size w5 ((w5.alloc (.cells zeroA 176)).setRow w5.heap.size (bndA (Price.sbnd ws).1 (Price.sbnd ws).2)) := below_setRow ((Below.refl _ _).alloc (Nat.le_refl _) _) (Nat.le_refl _) _
  have hBn : Blk ((w5.alloc (.cells zeroA 176)).setRow w5.heap.size (bndA (Price.sbnd ws).1 (Price.sbnd ws).2)) w5.heap.size 176 (bndA (Price.sbnd ws).1 (Price.sbnd ws).2) := setRow_heap _ _ _ _ _ _ (heap_alloc_new w5 _)
  generalize (w5.alloc (.cells zeroA 176)).setRow w5.heap.size (bndA (Price.sbnd ws).1 (Price.sbnd ws).2) = w6 at *
  have hR6 := hR5.under hx6
  have hd6 := hd5.below hx6
  have hb06 := hb05.next hx6 (Nat.le_refl _)
  have hgl := hR5.lt
  go_upto_region 7 with fail
  refine wp_free_lit (by kernel_rfl) 3 (by kernel_rfl) (by kernel_rfl) (by decide) (fun _ x => Below w6.heap.size w6 x) (fun x x' => Below x.heap.size x x')
    [fun _ u _ => u = .pointer (some ⟨gd, 0, none⟩),
     fun _ u _ => u = bndV (Price.sbnd ws).1 (Price.sbnd ws).2,
     fun _ u _ => u = .pointer (some ⟨gd, 0, none⟩)]
    (Below.refl _ w6).drew ?_ ?_
  · simp only [List.take_succ_cons, List.take_zero, HopL]
    refine ⟨?_, ?_, ?_, trivial⟩
    · refine ⟨fun _ _ _ _ _ h => h, fun _ _ _ _ h _ => h, fun v n x hn hR hk => ?_⟩
      simp only [List.take_succ_cons, List.take_zero, frameF, Act.put, List.setIfInBounds_toArray, List.set_cons_zero, List.set_cons_succ]
      exact stepF_val (by rfl) (by go_simp) ⟨rfl, Below.refl _ _, hR⟩
    · refine ⟨fun _ _ _ _ _ h => h, fun _ _ _ _ h _ => h, fun v n x hn hR hk => ?_⟩
      simp only [List.take_succ_cons, List.take_zero, frameF, Act.put, List.setIfInBounds_toArray, List.set_cons_zero, List.set_cons_succ]
      exact stepF_load_row (by rfl) _ _ rfl w5.heap.size rfl 176 _ (0, 0) _ (hBn.under hR) Try.underlying176 rfl (bndA_info _ _) ⟨rfl, Below.refl _ _, hR⟩
    · refine ⟨fun _ _ _ _ _ h => h, fun _ _ _ _ h _ => h, fun v n x hn hR hk => ?_⟩
      have h0 : v 0 = .pointer (some ⟨gd, 0, none⟩) := hk 0 (by kernel_rfl)
      simp only [List.take_succ_cons, List.take_zero, frameF, Act.put, List.setIfInBounds_toArray, List.set_cons_zero, List.set_cons_succ]
      exact stepF_val (by rfl) (by go_simp) ⟨rfl, Below.refl _ _, hR⟩
  · intro v n x hn hR hall
    have h1 : v 1 = bndV (Price.sbnd ws).1 (Price.sbnd ws).2 := hall 1 (by decide)
    have h2 : v 2 = .pointer (some ⟨gd, 0, none⟩) := hall 2 (by decide)
    have hR7 := hR6.under hR
    have hd7 := hd6.below hR
    have hb07 := hb06.next hR (Nat.le_refl _)
    clear hall
    simp only [List.drop_succ_cons, List.drop_zero, List.take_succ_cons, List.take_zero, frameF, Act.put, List.setIfInBounds_toArray, List.set_cons_zero, List.set_cons_succ, h1, h2]
    go_wp2_with (refine wpList_store_row rfl 176 _ _ rfl (w.heap.size + 1) _ rfl rfl 176 zeroA hR7 (bndA_info _ _) (by rw [bndA_size]; rfl) (bndA_one _ _) ?_)
    have hr := run_loadVar_row (P := Try.prog) (x.setRow (w.heap.size + 1) (bndA (Price.sbnd ws).1 (Price.sbnd ws).2)) (w.heap.size + 1) 176 176 (bndA (Price.sbnd ws).1 (Price.sbnd ws).2) (0, 0) _ (setRow_heap _ _ _ _ _ _ hR7) Try.underlying176 rfl (bndA_info _ _)
    refine bodyPost_ret (v := .tuple #[.pointer (some ⟨gd, 0, none⟩), bndV (Price.sbnd ws).1 (Price.sbnd ws).2, iv 0]) ?_ rfl ⟨gd, rfl, below_setRow hb07 (Nat.le_succ _) _, hd7.setRow hR7⟩
    exact results_tct (t := 2) (p := 3) (u := 4) (ty := 176) (by kernel_rfl) _ _ _ (w.heap.size + 1) _ (by rfl) hr
end Go.Proofs.Ytblmlpkjocbhpaa
