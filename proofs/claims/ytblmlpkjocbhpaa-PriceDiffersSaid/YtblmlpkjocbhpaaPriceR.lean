/- erring, Open, Torn of package price. Conditions: lengths are below a great bound. -/
import Derived.Test.YtblmlpkjocbhpaaPriceQ
set_option linter.unusedVariables false
set_option linter.unusedSimpArgs false
namespace Go.Proofs.Ytblmlpkjocbhpaa
open Go.RowKit Go.Shelf
set_option maxRecDepth 100000
attribute [local go_sem] Oper.semAt_some

/-- wpApp1 within a fence. -/
theorem wpApp1In {F : Fence} {m : Nat} {α : Type} (E : Enc α) {P : Program} {t e : TypeId} (hT : SlTy P t e E.sz) {ops : Array Oper} {rest : List Oper} {o : Oper} {a : Act} {Q : Exit → Act → World → Prop} {w : World} {arr : Array Value}
    (hgd : o.guard = none) (s x : Operand) (ho : o.op = .call { callee := .builtin .append, args := #[s, x], argTypes := #[t, t] })
    {B : Nat} {v : Value} {xs : List α} (hown : Own E e B w v xs) (y : α) (harr : arr.toList = E.cells y) (hs : a.eval s = v) (hx : a.eval x = .slice (some ⟨w.heap.size, 0, none⟩) 1 1)
    (hB : B ≤ w.heap.size) (hn : xs.length + 1 ≤ big)
    (h : ∀ v' w', Own E e B w' v' (xs ++ [y]) → Below B w w' → (∀ b, b < w.heap.size → v.ownBlock ≠ some b → w'.heap[b]? = w.heap[b]?) → wpListIn F m P ops Q rest (a.put o.dst v') w') :
    wpListIn F m P ops Q (o :: rest) a (w.alloc (.cells arr e)) := by
  obtain ⟨i, z, hi, hz, hsz, hby, hzc⟩ := hT.info
  unfold big at hn
  have hsize : arr.size = E.sz := by rw [← Array.length_toList, harr, E.len]
  refine wpListIn_append_own (w.alloc (.cells arr e)) hgd s x t ho B e i z E.sz i.bytes hT.ht hi hz hsz rfl hzc E.pos v xs.length (xs.flatMap E.cells) hs (World.ownsRow.alloc hown _)
    ⟨w.heap.size, 0, none⟩ 1 1 (E.cells y) hx (by rw [E.len]; omega) ?_ (E.one y) (by unfold maxLen; omega) (by have := Nat.mul_le_mul hn hby; omega) (by simp; omega) ?_
  · intro j u hu
    have hadd : (⟨w.heap.size, 0, none⟩ : Addr).add j = ⟨w.heap.size, j, none⟩ := by unfold Addr.add; split <;> simp_all
    rw [hadd, cell_of_row _ w.heap.size j arr e (0, 0) (heap_alloc_new w _), ← hu, ← harr, Array.getElem?_toList]
  · intro v' w' hown' hg _
    have hlt := Own.lt hown
    refine h v' w' (by unfold Own; simpa using hown') ?_ (fun b hb hv => ?_)
    · refine (((Below.refl B w).alloc hB _).grown hg (by simp; omega) fun k hk => ?_)
      exact (hlt k hk).1
    · rw [hg.block b (by simp; omega) (fun e => hv e.symm)]
      exact Below.heap_alloc w _ b hb
theorem Own.cellsAt {α : Type} {E : Enc α} {e : TypeId} {B : Nat} {w : World} {v : Value} {xs : List α} (h : Own E e B w v xs) {b : Nat} (hb : v.ownBlock = some b) : ∃ o : Obj, w.heap[b]? = some o ∧ o.isCells = true := by
  rcases h.2 with ⟨rfl, _⟩ | ⟨g, cap, cur, rfl, _, hg, _⟩
  · cases hb
  · obtain rfl : g = b := by simpa [Value.ownBlock] using hb
    exact ⟨_, hg, rfl⟩
/-- A box that holds a slice of the loop's own. -/
theorem boxOwn_ownF {β α : Type} (B' g : Nat) (t : TypeId) (E : Enc α) (e : TypeId) (n : Nat) (f : β → List α) : OwnFrom B' (fun s W => ∃ v, Blk W g t #[v] ∧ Own E e n W v (f s)) := by
  rintro s X Y row ⟨v, hv, ho⟩ hg hr
  refine ⟨v, blk_ownF (β := Unit) B' g t (fun _ => #[v]) () X Y row hv hg hr, ho.keep hg.size fun b hb => hg.block b (ho.lt b hb).2 fun e' => ?_⟩
  obtain ⟨_, o, ho', hc⟩ := hr b e'.symm
  obtain ⟨o2, h2, hc2⟩ := ho.cellsAt hb
  rw [ho'] at h2; cases h2; rw [hc] at hc2; cases hc2
theorem keepsFrom_app {W W' : World} (B : Nat) {α : Type} {E : Enc α} {e : TypeId} {n : Nat} {v : Value} {xs : List α} (h : Own E e n W v xs) (hs : W.heap.size ≤ W'.heap.size) (hk : ∀ b, b < W.heap.size → v.ownBlock ≠ some b → W'.heap[b]? = W.heap[b]?) : KeepsFrom B W W' :=
  ⟨hs, fun k o _ hk' ho => (hk k (Array.getElem?_eq_some_iff.1 hk').1 fun e' => by
    obtain ⟨o2, h2, hc2⟩ := h.cellsAt e'
    rw [hk'] at h2; cases h2; rw [ho] at hc2; cases hc2).trans hk'⟩

def Price.erringOf (l : List Rule) (err : Int) : List Piece × Int := if Price.check l = 0 then (Price.allPieces.filter (fun p => (Price.priced l p).2 == err), 0) else ([], Price.check l)
set_option maxHeartbeats 2000000 in
theorem erring_spec (A : Option Addr) (l : List Rule) (c : Nat) (err : Int) (w : World) (hm : l.length ≤ big) (hc : l.length ≤ c) (hs : Sl ruleE w A l) :
    Calls Try.prog 92 #[.slice A l.length c, iv err] w fun e w' => ∃ v, e = .returned (.tuple #[v, iv (Price.erringOf l err).2]) ∧ Own pieceE 42 w.heap.size w' v (Price.erringOf l err).1 ∧ Below w.heap.size w w' := by
  have hk2 := (Blk.new w 28 #[.slice A l.length c]).alloc (.cells #[iv err] 35)
  have hk3 : Blk ((w.alloc (.cells #[.slice A l.length c] 28)).alloc (.cells #[iv err] 35)) (w.heap.size + 1) 35 #[iv err] := Blk.new_ _ _ _ (by simp)
  have hB1 : Below w.heap.size w ((w.alloc (.cells #[.slice A l.length c] 28)).alloc (.cells #[iv err] 35)) := ((Below.refl _ w).alloc (Nat.le_refl _) _).alloc (by simp) _
  have hz1 : ((w.alloc (.cells #[.slice A l.length c] 28)).alloc (.cells #[iv err] 35)).heap.size = w.heap.size + 2 := by simp
  have c2 := hk2.cell
  refine (callsIn_wide (n := 20)).1 ?_
  refine callsIn_of_wp_marks Try.func92 rfl trivial ?_ rfl
  simp only [Try.ntmps92, List.size_toArray, List.length_cons, List.length_nil, Nat.reduceAdd, Nat.reduceSub, Array.replicate_succ, Array.replicate_zero, List.push_toArray, List.append_toArray, List.nil_append, List.cons_append]
  by_cases h0 : Price.check l = 0
  · have hp := Price.check_prices h0
    have he : Price.erringOf l err = (Price.allPieces.filter (fun p => (Price.priced l p).2 == err), 0) := by simp [Price.erringOf, h0]
    rw [he]
    clear he
    gi_wp2_with fail
    generalize (w.alloc (.cells #[.slice A l.length c] 28)).alloc (.cells #[iv err] 35) = w1 at *
    refine ⟨trivial, ?_⟩
    refine (callsIn_wide.2 (check_spec A l c w1 hm hc (hs.below hB1))).mono ?_
    rintro e w2 ⟨rfl, hb2⟩
    rw [h0]
    gi_wp2_with fail
    refine ⟨trivial, ?_⟩
    refine (pieces_in Fence.wide _ trivial rfl _).mono ?_
    rintro e w' ⟨rfl, rfl⟩
    gi_wp2_with fail
    have k2 := (hk2.under hb2).alloc (.cells #[.slice none 0 0] 32)
    have k3 := (hk3.under hb2).alloc (.cells #[.slice none 0 0] 32)
    have k7 : Blk (w2.alloc (.cells #[.slice none 0 0] 32)) w2.heap.size 32 #[.slice none 0 0] := Blk.new _ _ _
    have hz2 := hb2.size
    have hB0 := (hB1.next hb2 (by omega)).alloc (by omega) (.cells #[.slice none 0 0] 32)
    have hsz : (w2.alloc (.cells #[.slice none 0 0] 32)).heap.size = w2.heap.size + 1 := by simp
    have HPS := Lib.hid hp
    clear hk2 hk3 c2 hp hb2 hB1
    generalize hgg : w2.heap.size = g7 at *
    generalize w2.alloc (.cells #[.slice none 0 0] 32) = W0 at *
    clear hgg
    have hg7 : w.heap.size + 2 ≤ g7 := by omega
    refine wpIn_rangeFunc_ownH (F := Fence.wide) rfl (by omega) (gf := 139) (lb := #[]) rfl trivial (enters_of Try.func139 (by kernel_rfl) rfl)
      (pieces_stops Fence.wide (20 - 1) trivial rfl (by omega) (Below w.heap.size) W0) belowK_t (belowK_b (by omega)) (Below.refl _ _) (fun _ => rfl)
      (fun pre W => (((∃ v, Blk W g7 32 #[v] ∧ Own pieceE 42 (g7 + 1) W v (pre.filter (fun p => (Price.priced l p).2 == err))) ∧ Blk W w.heap.size 28 #[.slice A l.length c]) ∧ Blk W (w.heap.size + 1) 35 #[iv err]) ∧ Below w.heap.size w W)
      (fun _ _ _ => False)
      (OwnFrom.and (OwnFrom.and (OwnFrom.and (boxOwn_ownF _ _ _ _ _ _ _) (blk_ownF _ _ _ _)) (blk_ownF _ _ _ _)) (ownFrom_below (Nat.le_refl _) (by omega)))
      (fun _ _ _ _ _ hs _ _ => hs)
      ⟨⟨⟨⟨_, k7, ⟨rfl, .inl ⟨rfl, rfl⟩⟩⟩, k2⟩, k3⟩, hB0⟩
      (fun x a' W => ∃ Bx, g7 + 1 ≤ Bx ∧ Blk W Bx 42 #[iv x.b, iv x.s, iv x.e] ∧ a' = { tmps := #[.slice A l.length c, iv err, .pointer (some ⟨w.heap.size, 0, none⟩), .pointer (some ⟨w.heap.size + 1, 0, none⟩), .slice none 0 0, .int .i64 0, iv 0, .pointer (some ⟨g7, 0, none⟩), .pointer (some ⟨Bx, 0, none⟩), undef, undef, .slice A l.length c, iv 0, iv 0, .bool false, undef, .func (.func 139) #[] #[], x.v, undef, undef, undef, undef, undef, undef, undef, undef, undef, undef, undef, undef, undef, undef], defers := [] })
      (fun x a' _ X Y row hs hg hr => by obtain ⟨Bx, e1, e2, e3⟩ := hs; exact ⟨Bx, e1, blk_ownF (β := Unit) _ Bx _ (fun _ => #[iv x.b, iv x.s, iv x.e]) () X Y row e2 hg hr, e3⟩)
      ?assign ?body ?done ?stop
    case assign =>
      rintro l' pre ⟨x1, x2, x3⟩ W K ⟨⟨⟨⟨v, b7, ho⟩, b2⟩, b3⟩, hB⟩ hK
      gi_wp2
      exact hK _ _ ((KeepsOthers.alloc _ _).from _) ((Below.refl _ W).alloc hB.size _) ⟨⟨⟨⟨v, b7.alloc _, ho.alloc _⟩, b2.alloc _⟩, b3.alloc _⟩, hB.alloc hB.size _⟩ ⟨W.heap.size, b7.lt, Blk.new _ _ _, rfl⟩
    case body =>
      rintro l' pre x a' W hl ⟨r, hr⟩ ⟨⟨⟨⟨v, b7, ho⟩, b2⟩, b3⟩, hB⟩ ⟨Bx, hBx, bX, rfl⟩ hlt
      have c2 := b2.cell
      have cX := bX.cell
      have hsa := hs.below hB
      gi_wp2_with fail
      refine ⟨trivial, ?_⟩
      refine (CallsIn.inRound l' (callsIn_wide.2 (priced_spec A l c x W hm hsa HPS.out))).mono ?_
      rintro e w3 ⟨rfl, hb3⟩
      have c3 := (b3.under hb3).cell
      have hfil : (pre ++ [x]).filter (fun p => (Price.priced l p).2 == err) = pre.filter (fun p => (Price.priced l p).2 == err) ++ (if (Price.priced l x).2 == err then [x] else []) := by
        rw [List.filter_append]; simp [List.filter_cons]
      have HFI := Lib.hid hfil
      clear hfil
      cases hd : ((Price.priced l x).2 == err)
      · gi_wp2_with fail
        have HFJ := HFI.out
        rw [hd] at HFJ
        simp only [Bool.false_eq_true, if_false, List.append_nil] at HFJ
        exact ⟨keepsFrom_below _ hb3, hb3.mono hB.size, ⟨⟨⟨v, b7.under hb3, by rw [HFJ]; exact ho.below hb3⟩, b2.under hb3⟩, b3.under hb3⟩, hB.trans (hb3.mono hB.size)⟩
      · have HFJ := HFI.out
        rw [hd] at HFJ
        simp only [if_true] at HFJ
        have HFK := Lib.hid HFJ
        clear HFJ HFI
        have b7a := b7.under hb3
        have c7 := b7a.cell
        have cX3 := (bX.under hb3).cell
        have ho3 := ho.below hb3
        have hlen : (pre.filter (fun p => (Price.priced l p).2 == err)).length ≤ 60 := Nat.le_trans (List.length_filter_le _ _) (by omega)
        have hz3 := hb3.size
        have hl7 := b7.lt
        have hne7 : v.ownBlock ≠ some g7 := fun e => by have := (ho.lt g7 e).1; omega
        gi_wp2_with (gi_at_builtin; refine wpApp1In pieceE tyPieces rfl _ _ rfl ho3 x rfl rfl rfl (by omega) (by unfold big; omega) ?_; intro v' w4 ho4 hb4 hk4; obtain ⟨A4, c4, rfl, _, _⟩ := ho4.form; have b7b : Blk w4 g7 32 #[v] := (hk4 g7 (by omega) hne7).trans b7a; have c7b := b7b.cell; have f7b := b7b.frozen)
        have hz4 := hb4.size
        have ho4' : Own pieceE 42 (g7 + 1) w4 (.slice A4 ((pre.filter (fun p => (Price.priced l p).2 == err)).length + 1) c4) ((pre ++ [x]).filter (fun p => (Price.priced l p).2 == err)) := by
          rw [HFK.out]
          rw [List.length_append] at ho4
          exact ho4
        have ho5 := ho4'.keep (w' := w4.setCell ⟨g7, 0, none⟩ (.slice A4 ((pre.filter (fun p => (Price.priced l p).2 == err)).length + 1) c4)) (by simp [World.setCell]) fun b hb => Below.heap_setCell w4 ⟨g7, 0, none⟩ _ b (by have := (ho4'.lt b hb).1; show b ≠ g7; omega)
        have hb4' := hb4.mono (show w.heap.size ≤ g7 + 1 by omega)
        refine ⟨((keepsFrom_below _ hb3).trans (keepsFrom_app _ ho3 hz4 hk4)).trans ((KeepsOthers.setCell _ _ _).from _), ((hb3.mono hB.size).trans hb4').setCell (p := ⟨g7, 0, none⟩) (show w.heap.size ≤ g7 by omega) _,
          ⟨⟨⟨_, b7b.set_ 0 (.slice A4 ((pre.filter (fun p => (Price.priced l p).2 == err)).length + 1) c4), ho5⟩, ((b2.under hb3).below hb4 (by omega)).far (p := ⟨g7, 0, none⟩) (show w.heap.size ≠ g7 by omega) _⟩, ((b3.under hb3).below hb4 (by omega)).far (p := ⟨g7, 0, none⟩) (show w.heap.size + 1 ≠ g7 by omega) _⟩, ?_⟩
        exact ((hB.trans (hb3.mono hB.size)).trans hb4').setCell (p := ⟨g7, 0, none⟩) (show w.heap.size ≤ g7 by omega) _
    case done =>
      rintro D ys W hD rfl ⟨⟨⟨⟨v, b7, ho⟩, b2⟩, b3⟩, hB⟩ hK
      have c7 := b7.cell
      gi_wp2
      refine ⟨by simp, .inl ⟨_, _, rfl, run_takeDeferred hK, ?_⟩⟩
      refine ⟨_, results_tmp2 rfl _ _ _, v, rfl, ?_, below_putObj hB (by omega) (Nat.le_refl _) _⟩
      refine (ho.base (by omega)).keep (grownBy_putObj' W D _).size fun b hb => (grownBy_putObj' W D _).block b (ho.lt b hb).2 fun e' => ?_
      cases e'
      obtain ⟨o2, h2, hc2⟩ := ho.cellsAt hb
      rw [hK] at h2; cases h2; cases hc2
    case stop =>
      rintro D co pre W hD hpr h hK
      exact h.elim
  · have he : Price.erringOf l err = ([], Price.check l) := by simp [Price.erringOf, h0]
    rw [he]
    clear he
    have h0' : (Price.check l != 0) = true := by simpa using h0
    gi_wp2_with fail
    refine ⟨trivial, ?_⟩
    refine (callsIn_wide.2 (check_spec A l c _ hm hc (hs.below hB1))).mono ?_
    rintro e w2 ⟨rfl, hb2⟩
    gi_wp2_with fail
    refine ⟨_, results_tmp2 rfl _ _ _, ?_⟩
    exact ⟨_, rfl, ⟨rfl, .inl ⟨rfl, rfl⟩⟩, hB1.next hb2 (Nat.le_refl _)⟩
theorem Open_spec (A : Option Addr) (l : List Rule) (c : Nat) (w : World) (hm : l.length ≤ big) (hc : l.length ≤ c) (hs : Sl ruleE w A l) :
    Calls Try.prog 29 #[.slice A l.length c] w fun e w' => ∃ v, e = .returned (.tuple #[v, iv (Price.erringOf l 6).2]) ∧ Own pieceE 42 w.heap.size w' v (Price.erringOf l 6).1 ∧ Below w.heap.size w w' := by
  go_enter Try.func29, Try.ntmps29
  go_wp2_with (go_at_call 92; refine (erring_spec A l c 6 w hm hc hs).mono ?_; rintro e w1 ⟨v, rfl, hown, hb1⟩)
  go_ret2
  exact ⟨v, rfl, hown, hb1⟩
theorem Torn_spec (A : Option Addr) (l : List Rule) (c : Nat) (w : World) (hm : l.length ≤ big) (hc : l.length ≤ c) (hs : Sl ruleE w A l) :
    Calls Try.prog 30 #[.slice A l.length c] w fun e w' => ∃ v, e = .returned (.tuple #[v, iv (Price.erringOf l 7).2]) ∧ Own pieceE 42 w.heap.size w' v (Price.erringOf l 7).1 ∧ Below w.heap.size w w' := by
  go_enter Try.func30, Try.ntmps30
  go_wp2_with (go_at_call 92; refine (erring_spec A l c 7 w hm hc hs).mono ?_; rintro e w1 ⟨v, rfl, hown, hb1⟩)
  go_ret2
  exact ⟨v, rfl, hown, hb1⟩
end Go.Proofs.Ytblmlpkjocbhpaa
