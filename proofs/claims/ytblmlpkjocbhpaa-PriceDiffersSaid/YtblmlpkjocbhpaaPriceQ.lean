/- differ, Differ of package price. Conditions: lengths are below a great bound. -/
import Derived.Test.YtblmlpkjocbhpaaPriceP
set_option linter.unusedVariables false
set_option linter.unusedSimpArgs false
namespace Go.Proofs.Ytblmlpkjocbhpaa
open Go.RowKit Go.Shelf
set_option maxRecDepth 100000
attribute [local go_sem] Oper.semAt_some

theorem pieces_in (F : Fence) (n : Nat) (h : F.fn 111) (hro : F.round = none) (w : World) : CallsIn F n Try.prog 111 #[] w fun e w' => e = .returned (.func (.func 139) #[] #[]) ∧ w' = w := by
  have hmk : ∀ (fn : Fn) (first cap : Array Value) (w : World), (Instr.makeFunc fn first cap).run Try.prog w = .ok (.func fn first cap) w := fun _ _ _ _ => rfl
  refine callsIn_of_wp Try.func111 rfl h ?_ hro
  simp only [Try.ntmps111, List.size_toArray, List.length_cons, List.length_nil, Nat.reduceAdd, Nat.reduceSub, Array.replicate_succ, Array.replicate_zero, List.push_toArray, List.append_toArray, List.nil_append, List.cons_append]
  gi_wp2
  go_ret
  exact ⟨rfl, rfl⟩
theorem pieces_stops (F : Fence) (n : Nat) (h : F.fn 139) (hro : F.round = none) (hn : 1 ≤ n) (Kp : World → World → Prop) (w : World) :
    SeqStopsK F n Try.prog 139 #[] (fun x : Piece => #[x.v]) Kp (fun ys => ys = Price.allPieces) (fun pre => pre <+: Price.allPieces) 60 w := fun l J Jx W _ _ _ hY h0 =>
  pieces1_in F n h hro hn l Kp J Jx hY W h0
theorem blk_ownF {β : Type} (B' g : Nat) (t : TypeId) (f : β → Array Value) : OwnFrom B' (fun s W => Blk W g t (f s)) := fun s X Y row hs hg hrow => by
  have hs' : X.heap[g]? = some (.cells (f s) t (0, 0)) := hs
  exact (hg.block g hs.lt (fun e' => by obtain ⟨_, o, ho, hc⟩ := hrow g e'.symm; rw [hs'] at ho; cases ho; cases hc)).trans hs'

theorem keepsFrom_below {W W' : World} (B : Nat) (h : Below W.heap.size W W') : KeepsFrom B W W' := ⟨h.size, fun k o _ hk _ => (h.block k (Array.getElem?_eq_some_iff.1 hk).1).trans hk⟩
theorem Blk.putObj {W : World} {g D : Nat} {t : TypeId} {cs : Array Value} (h : Blk W g t cs) (hne : g ≠ D) (o : Obj) : Blk (W.putObj D o) g t cs := ((grownBy_putObj' W D o).block g h.lt (fun e => hne (by cases e; rfl))).trans h
theorem below_putObj {n₀ : Nat} {w W : World} {D : Nat} (h : Below n₀ w W) (hD : n₀ ≤ D) (hn : n₀ ≤ w.heap.size) (o : Obj) : Below n₀ w (W.putObj D o) := h.grown (grownBy_putObj' W D o) (Nat.le_trans hn h.size) (fun k e => by cases e; exact hD)
def Price.differs (a b : List Rule) (p : Piece) : Bool := (Price.priced a p).1 != (Price.priced b p).1 || (Price.priced a p).2 != (Price.priced b p).2
def Price.differ (a b : List Rule) : Piece × Int := match Price.allPieces.find? (Price.differs a b) with
  | some p => (p, 0)
  | none => (⟨0, 0, 0⟩, 6)
set_option maxHeartbeats 2000000 in
theorem differ_spec (A : Option Addr) (a : List Rule) (c : Nat) (A' : Option Addr) (b : List Rule) (c' : Nat) (w : World) (hm : a.length ≤ big) (hs : Sl ruleE w A a) (hp : ∀ r ∈ a, 0 ≤ r.p ∧ r.p ≤ 500) (hm' : b.length ≤ big) (hs' : Sl ruleE w A' b) (hp' : ∀ r ∈ b, 0 ≤ r.p ∧ r.p ≤ 500) :
    Calls Try.prog 110 #[.slice A a.length c, .slice A' b.length c'] w fun e w' => e = .returned (.tuple #[(Price.differ a b).1.v, iv (Price.differ a b).2]) ∧ Below w.heap.size w w' := by
  refine (callsIn_wide (n := 20)).1 ?_
  refine callsIn_of_wp_marks Try.func110 rfl trivial ?_ rfl
  simp only [Try.ntmps110, List.size_toArray, List.length_cons, List.length_nil, Nat.reduceAdd, Nat.reduceSub, Array.replicate_succ, Array.replicate_zero, List.push_toArray, List.append_toArray, List.nil_append, List.cons_append]
  gi_wp2_with (refine ⟨trivial, ?_⟩; gi_at_call 111; refine (pieces_in Fence.wide _ trivial rfl _).mono ?_; rintro e w' ⟨rfl, rfl⟩)
  have k2 : Blk (((w.alloc (.cells #[.slice A a.length c] 28)).alloc (.cells #[.slice A' b.length c'] 28)).alloc (.cells #[.int .i64 0, .int .i64 0, .int .i64 0] 42) |>.alloc (.cells #[.int .i64 0] 35)) w.heap.size 28 #[.slice A a.length c] := (((Blk.new w _ _).alloc _).alloc _).alloc _
  have k3 : Blk (((w.alloc (.cells #[.slice A a.length c] 28)).alloc (.cells #[.slice A' b.length c'] 28)).alloc (.cells #[.int .i64 0, .int .i64 0, .int .i64 0] 42) |>.alloc (.cells #[.int .i64 0] 35)) (w.heap.size + 1) 28 #[.slice A' b.length c'] := ((Blk.new_ _ _ _ (by simp)).alloc _).alloc _
  have k4 : Blk (((w.alloc (.cells #[.slice A a.length c] 28)).alloc (.cells #[.slice A' b.length c'] 28)).alloc (.cells #[.int .i64 0, .int .i64 0, .int .i64 0] 42) |>.alloc (.cells #[.int .i64 0] 35)) (w.heap.size + 1 + 1) 42 #[.int .i64 0, .int .i64 0, .int .i64 0] := (Blk.new_ _ _ _ (by simp)).alloc _
  have k5 : Blk (((w.alloc (.cells #[.slice A a.length c] 28)).alloc (.cells #[.slice A' b.length c'] 28)).alloc (.cells #[.int .i64 0, .int .i64 0, .int .i64 0] 42) |>.alloc (.cells #[.int .i64 0] 35)) (w.heap.size + 1 + 1 + 1) 35 #[.int .i64 0] := Blk.new_ _ _ _ (by simp)
  have hB0 : Below w.heap.size w (((w.alloc (.cells #[.slice A a.length c] 28)).alloc (.cells #[.slice A' b.length c'] 28)).alloc (.cells #[.int .i64 0, .int .i64 0, .int .i64 0] 42) |>.alloc (.cells #[.int .i64 0] 35)) := ((((Below.refl _ w).alloc (Nat.le_refl _) _).alloc (by simp) _).alloc (by simp; omega) _).alloc (by simp; omega) _
  have hsz : (((w.alloc (.cells #[.slice A a.length c] 28)).alloc (.cells #[.slice A' b.length c'] 28)).alloc (.cells #[.int .i64 0, .int .i64 0, .int .i64 0] 42) |>.alloc (.cells #[.int .i64 0] 35)).heap.size = w.heap.size + 4 := by simp
  generalize (((w.alloc (.cells #[.slice A a.length c] 28)).alloc (.cells #[.slice A' b.length c'] 28)).alloc (.cells #[.int .i64 0, .int .i64 0, .int .i64 0] 42) |>.alloc (.cells #[.int .i64 0] 35)) = W0 at *
  refine wpIn_rangeFunc_ownH (F := Fence.wide) rfl (by omega) (gf := 139) (lb := #[]) rfl trivial (enters_of Try.func139 (by kernel_rfl) rfl)
    (pieces_stops Fence.wide (20 - 1) trivial rfl (by omega) (Below w.heap.size) W0) belowK_t (belowK_b (by omega)) (Below.refl _ _) (fun _ => rfl)
    (fun pre W => (((((∀ p ∈ pre, Price.differs a b p = false) ∧ Blk W w.heap.size 28 #[.slice A a.length c]) ∧ Blk W (w.heap.size + 1) 28 #[.slice A' b.length c']) ∧ Blk W (w.heap.size + 1 + 1) 42 #[.int .i64 0, .int .i64 0, .int .i64 0]) ∧ Blk W (w.heap.size + 1 + 1 + 1) 35 #[.int .i64 0]) ∧ Below w.heap.size w W)
    (fun co pre W => (((co = .ret ∧ ∃ q p, pre = q ++ [p] ∧ (∀ x ∈ q, Price.differs a b x = false) ∧ Price.differs a b p = true) ∧ Blk W (w.heap.size + 1 + 1) 42 #[iv (pre.getLastD ⟨0, 0, 0⟩).b, iv (pre.getLastD ⟨0, 0, 0⟩).s, iv (pre.getLastD ⟨0, 0, 0⟩).e]) ∧ Blk W (w.heap.size + 1 + 1 + 1) 35 #[.int .i64 0]) ∧ Below w.heap.size w W)
    (OwnFrom.and (OwnFrom.and (OwnFrom.and (OwnFrom.and (OwnFrom.and (ownFrom_pure _ _) (blk_ownF _ _ _ _)) (blk_ownF _ _ _ _)) (blk_ownF _ _ _ _)) (blk_ownF _ _ _ _)) (ownFrom_below (Nat.le_refl _) (by omega)))
    (fun co => OwnFrom.and (OwnFrom.and (OwnFrom.and (ownFrom_pure _ _) (blk_ownF _ _ _ (fun pre : List Piece => #[iv (pre.getLastD ⟨0, 0, 0⟩).b, iv (pre.getLastD ⟨0, 0, 0⟩).s, iv (pre.getLastD ⟨0, 0, 0⟩).e]))) (blk_ownF _ _ _ _)) (ownFrom_below (Nat.le_refl _) (by omega)))
    ⟨⟨⟨⟨⟨by simp, k2⟩, k3⟩, k4⟩, k5⟩, hB0⟩
    (fun x a' W => ∃ Bx, w.heap.size + 4 ≤ Bx ∧ Blk W Bx 42 #[iv x.b, iv x.s, iv x.e] ∧ a' = { tmps := #[.slice A a.length c, .slice A' b.length c', .pointer (some ⟨w.heap.size, 0, none⟩), .pointer (some ⟨w.heap.size + 1, 0, none⟩), .pointer (some ⟨w.heap.size + 1 + 1, 0, none⟩), .pointer (some ⟨w.heap.size + 1 + 1 + 1, 0, none⟩), .pointer (some ⟨Bx, 0, none⟩), undef, undef, undef, undef, .func (.func 139) #[] #[], x.v, undef, undef, undef, undef, undef, undef, undef, undef, undef, undef, undef, undef, undef, undef, undef, undef, undef, undef, undef, undef, undef, undef], defers := [] })
    (fun x a' _ X Y row hs hg hr => by obtain ⟨Bx, e1, e2, e3⟩ := hs; exact ⟨Bx, e1, blk_ownF (β := Unit) _ Bx _ (fun _ => #[iv x.b, iv x.s, iv x.e]) () X Y row e2 hg hr, e3⟩)
    ?assign ?body ?done ?stop
  case assign =>
    rintro l pre ⟨x1, x2, x3⟩ W K ⟨⟨⟨⟨⟨hpre, b2⟩, b3⟩, b4⟩, b5⟩, hB⟩ hK
    gi_wp2
    exact hK _ _ ((KeepsOthers.alloc _ _).from _) ((Below.refl _ W).alloc hB.size _) ⟨⟨⟨⟨⟨hpre, b2.alloc _⟩, b3.alloc _⟩, b4.alloc _⟩, b5.alloc _⟩, hB.alloc hB.size _⟩ ⟨W.heap.size, by have := b5.lt; omega, Blk.new _ _ _, rfl⟩
  case body =>
    rintro l pre x a' W hl ⟨r, hr⟩ ⟨⟨⟨⟨⟨hpre, b2⟩, b3⟩, b4⟩, b5⟩, hB⟩ ⟨Bx, hBx, bX, rfl⟩ hlt
    have h1' : 1 ≤ 20 - 1 - 1 := by omega
    have c2 := b2.cell
    have cX := bX.cell
    have hsa := hs.below hB
    have hsb := hs'.below hB
    have hd : Price.differs a b x = ((Price.priced a x).1 != (Price.priced b x).1 || (Price.priced a x).2 != (Price.priced b x).2) := rfl
    cases hd1 : ((Price.priced a x).1 != (Price.priced b x).1)
    · cases hd2 : ((Price.priced a x).2 != (Price.priced b x).2)
      · rw [hd1, hd2] at hd
        have HD := Lib.hid hd
        clear hd
        gi_wp2_with fail
        refine ⟨trivial, ?_⟩
        refine (CallsIn.inRound l (callsIn_wide.2 (priced_spec A a c x W hm hsa hp))).mono ?_
        rintro e w1 ⟨rfl, hb1⟩
        have b3a := b3.under hb1
        have bXa := bX.under hb1
        have c3 := b3a.cell
        have cX1 := bXa.cell
        gi_wp2_with fail
        refine ⟨trivial, ?_⟩
        refine (CallsIn.inRound l (callsIn_wide.2 (priced_spec A' b c' x w1 hm' (hsb.below hb1) hp'))).mono ?_
        rintro e w2 ⟨rfl, hb2⟩
        have hbb : Below W.heap.size W w2 := hb1.next hb2 (Nat.le_refl _)
        have bX2 := (bX.under hbb)
        have cX2 := bX2.cell
        have c4 := (b4.under hbb).cell
        have f4 := (b4.under hbb).frozen
        have c5 := (b5.under hbb).cell
        have f5 := (b5.under hbb).frozen
        gi_wp2_with fail
        refine ⟨keepsFrom_below _ hbb, hbb.mono hB.size, ⟨⟨⟨⟨⟨fun p hp => ?_, b2.under hbb⟩, b3.under hbb⟩, b4.under hbb⟩, b5.under hbb⟩, hB.trans (hbb.mono hB.size)⟩⟩
        rcases List.mem_append.1 hp with hp | hp
        · exact hpre p hp
        · rw [List.mem_singleton.1 hp]; exact HD.out
      · rw [hd1, hd2] at hd
        have HD := Lib.hid hd
        clear hd
        gi_wp2_with fail
        refine ⟨trivial, ?_⟩
        refine (CallsIn.inRound l (callsIn_wide.2 (priced_spec A a c x W hm hsa hp))).mono ?_
        rintro e w1 ⟨rfl, hb1⟩
        have b3a := b3.under hb1
        have bXa := bX.under hb1
        have c3 := b3a.cell
        have cX1 := bXa.cell
        gi_wp2_with fail
        refine ⟨trivial, ?_⟩
        refine (CallsIn.inRound l (callsIn_wide.2 (priced_spec A' b c' x w1 hm' (hsb.below hb1) hp'))).mono ?_
        rintro e w2 ⟨rfl, hb2⟩
        have hbb : Below W.heap.size W w2 := hb1.next hb2 (Nat.le_refl _)
        have bX2 := (bX.under hbb)
        have cX2 := bX2.cell
        have c4 := (b4.under hbb).cell
        have f4 := (b4.under hbb).frozen
        have c5 := (b5.under hbb).cell
        have f5 := (b5.under hbb).frozen
        gi_wp2_with fail
        have k4' := ((((b4.under hbb).set_ 0 (.int .i64 x.b)).set_ 1 (.int .i64 x.s)).set_ 2 (.int .i64 x.e)).far (p := ⟨w.heap.size + 1 + 1 + 1, 0, none⟩) (show w.heap.size + 1 + 1 ≠ w.heap.size + 1 + 1 + 1 by omega) (.int .i64 0)
        have k5' := ((((b5.under hbb).far (p := ⟨w.heap.size + 1 + 1, 0, none⟩) (show w.heap.size + 1 + 1 + 1 ≠ w.heap.size + 1 + 1 by omega) (.int .i64 x.b)).far (p := ⟨w.heap.size + 1 + 1, 1, none⟩) (show w.heap.size + 1 + 1 + 1 ≠ w.heap.size + 1 + 1 by omega) (.int .i64 x.s)).far (p := ⟨w.heap.size + 1 + 1, 2, none⟩) (show w.heap.size + 1 + 1 + 1 ≠ w.heap.size + 1 + 1 by omega) (.int .i64 x.e)).set_ 0 (.int .i64 0)
        have hlast : (pre ++ [x]).getLastD ⟨0, 0, 0⟩ = x := by simp
        refine ⟨((((keepsFrom_below _ hbb).trans ((KeepsOthers.setCell _ _ _).from _)).trans ((KeepsOthers.setCell _ _ _).from _)).trans ((KeepsOthers.setCell _ _ _).from _)).trans ((KeepsOthers.setCell _ _ _).from _), ⟨⟨⟨rfl, pre, x, rfl, hpre, HD.out⟩, by rw [hlast]; exact k4'⟩, k5'⟩, ?_⟩
        exact ((((hB.trans (hbb.mono hB.size)).setCell (p := ⟨w.heap.size + 1 + 1, 0, none⟩) (show w.heap.size ≤ w.heap.size + 1 + 1 by omega) _).setCell (p := ⟨w.heap.size + 1 + 1, 1, none⟩) (show w.heap.size ≤ w.heap.size + 1 + 1 by omega) _).setCell (p := ⟨w.heap.size + 1 + 1, 2, none⟩) (show w.heap.size ≤ w.heap.size + 1 + 1 by omega) _).setCell (p := ⟨w.heap.size + 1 + 1 + 1, 0, none⟩) (show w.heap.size ≤ w.heap.size + 1 + 1 + 1 by omega) _
    · rw [hd1] at hd
      have HD := Lib.hid hd
      clear hd
      gi_wp2_with fail
      refine ⟨trivial, ?_⟩
      refine (CallsIn.inRound l (callsIn_wide.2 (priced_spec A a c x W hm hsa hp))).mono ?_
      rintro e w1 ⟨rfl, hb1⟩
      have b3a := b3.under hb1
      have bXa := bX.under hb1
      have c3 := b3a.cell
      have cX1 := bXa.cell
      gi_wp2_with fail
      refine ⟨trivial, ?_⟩
      refine (CallsIn.inRound l (callsIn_wide.2 (priced_spec A' b c' x w1 hm' (hsb.below hb1) hp'))).mono ?_
      rintro e w2 ⟨rfl, hb2⟩
      have hbb : Below W.heap.size W w2 := hb1.next hb2 (Nat.le_refl _)
      have bX2 := (bX.under hbb)
      have cX2 := bX2.cell
      have c4 := (b4.under hbb).cell
      have f4 := (b4.under hbb).frozen
      have c5 := (b5.under hbb).cell
      have f5 := (b5.under hbb).frozen
      gi_wp2_with fail
      have k4' := ((((b4.under hbb).set_ 0 (.int .i64 x.b)).set_ 1 (.int .i64 x.s)).set_ 2 (.int .i64 x.e)).far (p := ⟨w.heap.size + 1 + 1 + 1, 0, none⟩) (show w.heap.size + 1 + 1 ≠ w.heap.size + 1 + 1 + 1 by omega) (.int .i64 0)
      have k5' := ((((b5.under hbb).far (p := ⟨w.heap.size + 1 + 1, 0, none⟩) (show w.heap.size + 1 + 1 + 1 ≠ w.heap.size + 1 + 1 by omega) (.int .i64 x.b)).far (p := ⟨w.heap.size + 1 + 1, 1, none⟩) (show w.heap.size + 1 + 1 + 1 ≠ w.heap.size + 1 + 1 by omega) (.int .i64 x.s)).far (p := ⟨w.heap.size + 1 + 1, 2, none⟩) (show w.heap.size + 1 + 1 + 1 ≠ w.heap.size + 1 + 1 by omega) (.int .i64 x.e)).set_ 0 (.int .i64 0)
      have hlast : (pre ++ [x]).getLastD ⟨0, 0, 0⟩ = x := by simp
      refine ⟨((((keepsFrom_below _ hbb).trans ((KeepsOthers.setCell _ _ _).from _)).trans ((KeepsOthers.setCell _ _ _).from _)).trans ((KeepsOthers.setCell _ _ _).from _)).trans ((KeepsOthers.setCell _ _ _).from _), ⟨⟨⟨rfl, pre, x, rfl, hpre, HD.out⟩, by rw [hlast]; exact k4'⟩, k5'⟩, ?_⟩
      exact ((((hB.trans (hbb.mono hB.size)).setCell (p := ⟨w.heap.size + 1 + 1, 0, none⟩) (show w.heap.size ≤ w.heap.size + 1 + 1 by omega) _).setCell (p := ⟨w.heap.size + 1 + 1, 1, none⟩) (show w.heap.size ≤ w.heap.size + 1 + 1 by omega) _).setCell (p := ⟨w.heap.size + 1 + 1, 2, none⟩) (show w.heap.size ≤ w.heap.size + 1 + 1 by omega) _).setCell (p := ⟨w.heap.size + 1 + 1 + 1, 0, none⟩) (show w.heap.size ≤ w.heap.size + 1 + 1 + 1 by omega) _
  case done =>
    rintro D ys W hD rfl ⟨⟨⟨⟨⟨hpre, b2⟩, b3⟩, b4⟩, b5⟩, hB⟩ hK
    have c4 := b4.cell
    have f4 := b4.frozen
    have c5 := b5.cell
    have f5 := b5.frozen
    have k4' := (((b4.set_ 0 (.int .i64 0)).set_ 1 (.int .i64 0)).set_ 2 (.int .i64 0)).far (p := ⟨w.heap.size + 1 + 1 + 1, 0, none⟩) (show w.heap.size + 1 + 1 ≠ w.heap.size + 1 + 1 + 1 by omega) (.int .i64 6)
    have k5' := (((b5.far (p := ⟨w.heap.size + 1 + 1, 0, none⟩) (show w.heap.size + 1 + 1 + 1 ≠ w.heap.size + 1 + 1 by omega) (.int .i64 0)).far (p := ⟨w.heap.size + 1 + 1, 1, none⟩) (show w.heap.size + 1 + 1 + 1 ≠ w.heap.size + 1 + 1 by omega) (.int .i64 0)).far (p := ⟨w.heap.size + 1 + 1, 2, none⟩) (show w.heap.size + 1 + 1 + 1 ≠ w.heap.size + 1 + 1 by omega) (.int .i64 0)).set_ 0 (.int .i64 6)
    have hK' := ((((KeepsOthers.setCell W ⟨w.heap.size + 1 + 1, 0, none⟩ (.int .i64 0)).trans (KeepsOthers.setCell _ ⟨w.heap.size + 1 + 1, 1, none⟩ (.int .i64 0))).trans (KeepsOthers.setCell _ ⟨w.heap.size + 1 + 1, 2, none⟩ (.int .i64 0))).trans (KeepsOthers.setCell _ ⟨w.heap.size + 1 + 1 + 1, 0, none⟩ (.int .i64 6))).same D _ hK rfl
    have hB' := (((hB.setCell (p := ⟨w.heap.size + 1 + 1, 0, none⟩) (show w.heap.size ≤ w.heap.size + 1 + 1 by omega) (.int .i64 0)).setCell (p := ⟨w.heap.size + 1 + 1, 1, none⟩) (show w.heap.size ≤ w.heap.size + 1 + 1 by omega) (.int .i64 0)).setCell (p := ⟨w.heap.size + 1 + 1, 2, none⟩) (show w.heap.size ≤ w.heap.size + 1 + 1 by omega) (.int .i64 0)).setCell (p := ⟨w.heap.size + 1 + 1 + 1, 0, none⟩) (show w.heap.size ≤ w.heap.size + 1 + 1 + 1 by omega) (.int .i64 6)
    have hfind : Price.differ a b = (⟨0, 0, 0⟩, 6) := by
      unfold Price.differ
      rw [List.find?_eq_none.2 (fun x hx => by simp [hpre x hx])]
    gi_wp2
    rw [hfind]
    generalize (((W.setCell ⟨w.heap.size + 1 + 1, 0, none⟩ (.int .i64 0)).setCell ⟨w.heap.size + 1 + 1, 1, none⟩ (.int .i64 0)).setCell ⟨w.heap.size + 1 + 1, 2, none⟩ (.int .i64 0)).setCell ⟨w.heap.size + 1 + 1 + 1, 0, none⟩ (.int .i64 6) = X at *
    refine ⟨by simp, .inl ⟨_, _, rfl, run_takeDeferred hK', ?_⟩⟩
    have d4 := (k4'.putObj (show w.heap.size + 1 + 1 ≠ D by omega) (.deferred none)).cell
    have d5 := (k5'.putObj (show w.heap.size + 1 + 1 + 1 ≠ D by omega) (.deferred none)).cell
    refine ⟨.tuple #[.agg #[iv 0, iv 0, iv 0], iv 6], ?_, rfl, below_putObj hB' (by omega) (Nat.le_refl _) _⟩
    simp [results, Try.f110, go_sem, d4, d5]
  case stop =>
    rintro D co pre W hD hpr ⟨⟨⟨⟨rfl, q, p, rfl, hq, hdp⟩, b4⟩, b5⟩, hB⟩ hK
    have hfind : Price.differ a b = (p, 0) := by
      unfold Price.differ
      obtain ⟨t, ht⟩ := hpr
      rw [← ht, List.append_assoc, List.find?_append, List.find?_eq_none.2 (fun x hx => by simp [hq x hx])]
      simp [hdp]
    have hlast : (q ++ [p]).getLastD ⟨0, 0, 0⟩ = p := by simp
    rw [hlast] at b4
    gi_wp2
    rw [hfind]
    refine ⟨by simp, .inl ⟨_, _, rfl, run_takeDeferred hK, ?_⟩⟩
    have d4 := (b4.putObj (show w.heap.size + 1 + 1 ≠ D by omega) (.deferred none)).cell
    have d5 := (b5.putObj (show w.heap.size + 1 + 1 + 1 ≠ D by omega) (.deferred none)).cell
    refine ⟨.tuple #[.agg #[iv p.b, iv p.s, iv p.e], iv 0], ?_, rfl, below_putObj hB (by omega) (Nat.le_refl _) _⟩
    simp [results, Try.f110, go_sem, d4, d5]
def Price.differOf (a b : List Rule) : Piece × Int := if Price.check a = 0 then (if Price.check b = 0 then Price.differ a b else (⟨0, 0, 0⟩, Price.check b)) else (⟨0, 0, 0⟩, Price.check a)
theorem Differ_spec (A : Option Addr) (a : List Rule) (c : Nat) (A' : Option Addr) (b : List Rule) (c' : Nat) (w : World) (hm : a.length ≤ big) (hc : a.length ≤ c) (hs : Sl ruleE w A a) (hm' : b.length ≤ big) (hc' : b.length ≤ c') (hs' : Sl ruleE w A' b) :
    Calls Try.prog 58 #[.slice A a.length c, .slice A' b.length c'] w fun e w' => e = .returned (.tuple #[(Price.differOf a b).1.v, iv (Price.differOf a b).2]) ∧ Below w.heap.size w w' := by
  by_cases h0 : Price.check a = 0
  · have hp := Price.check_prices h0
    by_cases h1 : Price.check b = 0
    · have hp' := Price.check_prices h1
      have he : Price.differOf a b = Price.differ a b := by simp [Price.differOf, h0, h1]
      rw [he]
      clear he
      go_enter Try.func58, Try.ntmps58
      go_wp2_with fail
      refine (check_spec A a c _ hm hc (hs.alloc _)).mono ?_
      rintro e w1 ⟨rfl, hb1⟩
      rw [h0]
      go_wp2_with fail
      refine (check_spec A' b c' _ hm' hc' ((hs'.alloc _).below hb1)).mono ?_
      rintro e w2 ⟨rfl, hb2⟩
      rw [h1]
      go_wp2_with fail
      refine (differ_spec A a c A' b c' _ hm (((hs.alloc _).below hb1).below hb2) hp hm' (((hs'.alloc _).below hb1).below hb2) hp').mono ?_
      rintro e w3 ⟨rfl, hb3⟩
      have hb12 := hb1.next hb2 (Nat.le_refl _)
      have hb13 := hb12.next hb3 (Nat.le_refl _)
      have k4 := (Blk.new w 42 #[iv 0, iv 0, iv 0]).under hb13
      have k4c := k4.cell
      have k4f := k4.frozen
      go_wp2_with fail
      have k5 := ((k4.set_ 0 (iv ((Price.differ a b).1.b))).set_ 1 (iv ((Price.differ a b).1.s))).set_ 2 (iv ((Price.differ a b).1.e)); have d5 := k5.cell; refine bodyPost_ret (v := .tuple #[.agg #[iv ((Price.differ a b).1.b), iv ((Price.differ a b).1.s), iv ((Price.differ a b).1.e)], iv ((Price.differ a b).2)]) (by simp [results, Try.f58, go_sem, d5]) rfl ⟨rfl, ((hb13.of_alloc.setCell (p := ⟨w.heap.size, 0, none⟩) (Nat.le_refl _) _).setCell (p := ⟨w.heap.size, 1, none⟩) (Nat.le_refl _) _).setCell (p := ⟨w.heap.size, 2, none⟩) (Nat.le_refl _) _⟩
    · have he : Price.differOf a b = (⟨0, 0, 0⟩, Price.check b) := by simp [Price.differOf, h0, h1]
      rw [he]
      clear he
      have h1' : (Price.check b != 0) = true := by simpa using h1
      go_enter Try.func58, Try.ntmps58
      go_wp2_with fail
      refine (check_spec A a c _ hm hc (hs.alloc _)).mono ?_
      rintro e w1 ⟨rfl, hb1⟩
      rw [h0]
      go_wp2_with fail
      refine (check_spec A' b c' _ hm' hc' ((hs'.alloc _).below hb1)).mono ?_
      rintro e w2 ⟨rfl, hb2⟩
      have hb12 := hb1.next hb2 (Nat.le_refl _)
      have k4 := (Blk.new w 42 #[iv 0, iv 0, iv 0]).under hb12
      have k4c := k4.cell
      have k4f := k4.frozen
      go_wp2_with fail
      have k5 := ((k4.set_ 0 (iv (0))).set_ 1 (iv (0))).set_ 2 (iv (0)); have d5 := k5.cell; refine bodyPost_ret (v := .tuple #[.agg #[iv (0), iv (0), iv (0)], iv (Price.check b)]) (by simp [results, Try.f58, go_sem, d5]) rfl ⟨rfl, ((hb12.of_alloc.setCell (p := ⟨w.heap.size, 0, none⟩) (Nat.le_refl _) _).setCell (p := ⟨w.heap.size, 1, none⟩) (Nat.le_refl _) _).setCell (p := ⟨w.heap.size, 2, none⟩) (Nat.le_refl _) _⟩
  · have he : Price.differOf a b = (⟨0, 0, 0⟩, Price.check a) := by simp [Price.differOf, h0]
    rw [he]
    clear he
    have h0' : (Price.check a != 0) = true := by simpa using h0
    go_enter Try.func58, Try.ntmps58
    go_wp2_with fail
    refine (check_spec A a c _ hm hc (hs.alloc _)).mono ?_
    rintro e w1 ⟨rfl, hb1⟩
    have k4 := (Blk.new w 42 #[iv 0, iv 0, iv 0]).under hb1
    have k4c := k4.cell
    have k4f := k4.frozen
    go_wp2_with fail
    have k5 := ((k4.set_ 0 (iv (0))).set_ 1 (iv (0))).set_ 2 (iv (0)); have d5 := k5.cell; refine bodyPost_ret (v := .tuple #[.agg #[iv (0), iv (0), iv (0)], iv (Price.check a)]) (by simp [results, Try.f58, go_sem, d5]) rfl ⟨rfl, ((hb1.of_alloc.setCell (p := ⟨w.heap.size, 0, none⟩) (Nat.le_refl _) _).setCell (p := ⟨w.heap.size, 1, none⟩) (Nat.le_refl _) _).setCell (p := ⟨w.heap.size, 2, none⟩) (Nat.le_refl _) _⟩
end Go.Proofs.Ytblmlpkjocbhpaa
