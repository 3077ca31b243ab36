/- The iterator over all pieces. No condition. -/
import Derived.Test.YtkailkfiakagfaaGreatPriceM
import Derived.RangeFuncNested
import Derived.RangeFuncBound
import Derived.RangeFuncCalls
import Derived.RangeFuncLeaves
import Derived.Shelf.Abstract
import Derived.Shelf.RegionOpen
import Derived.WalkKit
import Derived.OwnWalkIn
import Derived.TacticsInMore
import Derived.LoopNIn
import Derived.LoopIn
set_option linter.unusedVariables false
set_option linter.unusedSimpArgs false
namespace Go.Proofs.YtkailkfiakagfaaGreat
open Go.RowKit Go.Shelf
set_option maxRecDepth 100000
attribute [local go_sem] Oper.semAt_some

def Price.pieceAt (n : Nat) : Piece := ⟨(n / 15 : Nat), (n / 3 % 5 : Nat), (n % 3 : Nat)⟩
def Price.allPieces : List Piece := (List.range 60).map Price.pieceAt
theorem Price.allPieces_take {m : Nat} (h : m < 60) : Price.allPieces.take (m + 1) = Price.allPieces.take m ++ [Price.pieceAt m] := by
  simp only [Price.allPieces, ← List.map_take, List.take_range]
  rw [Nat.min_eq_left (by omega), Nat.min_eq_left (by omega), List.range_succ]
  simp
theorem Price.allPieces_length : Price.allPieces.length = 60 := by simp [Price.allPieces]
theorem Price.pieceAt_eq {b s e : Nat} (hs : s < 5) (he : e < 3) : Price.pieceAt (15 * b + 3 * s + e) = ⟨b, s, e⟩ := by
  unfold Price.pieceAt
  have h1 : (15 * b + 3 * s + e) / 15 = b := by omega
  have h2 : (15 * b + 3 * s + e) / 3 % 5 = s := by omega
  have h3 : (15 * b + 3 * s + e) % 3 = e := by omega
  rw [h1, h2, h3]
set_option maxHeartbeats 2000000 in
theorem pieces1_in (F : Fence) (n : Nat) (h7 : F.fn 93) (hro : F.round = none) (hn : 1 ≤ n) (l : Nat) (Kp : World → World → Prop) (J Jx : List Piece → World → Prop)
    (hY : ∀ pre x W, J pre W → pre.length < 60 → YieldAt F (n - 1) Tryz.prog l #[Piece.v x] W fun e W' =>
      (e = .returned (.bool true) ∧ J (pre ++ [x]) W' ∧ Kp W W') ∨ (e = .returned (.bool false) ∧ Jx (pre ++ [x]) W'))
    (W : World) (h0 : J [] W) :
    CallsIn F n Tryz.prog 93 #[.func (.yield l) #[] #[]] W fun e W' => (∃ v, e = .returned v) ∧
      ((∃ ys, ys = Price.allPieces ∧ J ys W') ∨ (∃ pre, pre <+: Price.allPieces ∧ Jx pre W')) := by
  refine callsIn_of_wp Tryz.func93 rfl h7 ?_ hro
  simp only [Tryz.ntmps93, List.size_toArray, List.length_cons, List.length_nil, Nat.reduceAdd, Nat.reduceSub, Array.replicate_succ, Array.replicate_zero, List.push_toArray, List.append_toArray, List.nil_append, List.cons_append]
  gi_wp2
  gi_loopw [5] (fun i wr => ∃ k : Nat, k ≤ 4 ∧ i = .int .i64 k ∧ J (Price.allPieces.take (15 * k)) wr) (fun i _ => 4 - (intOf i).toNat)
  case atStart => exact ⟨0, by omega, rfl, h0⟩
  case round =>
    obtain ⟨b, hb, rfl, hJ1⟩ := hrel
    by_cases hlt : b < 4
    · have hb1 : (b : Int) < 4 := by omega
      gi_wp2
      gi_loopw [8] (fun i wr => ∃ k : Nat, k ≤ 5 ∧ i = .int .i64 k ∧ J (Price.allPieces.take (15 * b + 3 * k)) wr) (fun i _ => 5 - (intOf i).toNat)
      case atStart => exact ⟨0, by omega, rfl, hJ1⟩
      case round =>
        obtain ⟨s, hs, rfl, hJ2⟩ := hrel
        by_cases hlt2 : s < 5
        · have hs1 : (s : Int) < 5 := by omega
          gi_wp2
          gi_loopw [11] (fun i wr => ∃ k : Nat, k ≤ 3 ∧ i = .int .i64 k ∧ J (Price.allPieces.take (15 * b + 3 * s + k)) wr) (fun i _ => 3 - (intOf i).toNat)
          case atStart => exact ⟨0, by omega, rfl, hJ2⟩
          case round =>
            obtain ⟨e, he, rfl, hJ3⟩ := hrel
            by_cases hlt3 : e < 3
            · have he1 : (e : Int) < 3 := by omega
              have hm : 15 * b + 3 * s + e < 60 := by omega
              obtain ⟨fn, tmps, assign, body, hy, hR⟩ := hY _ (Price.pieceAt (15 * b + 3 * s + e)) _ hJ3 (by rw [List.length_take, Price.allPieces_length]; omega)
              rw [← Price.allPieces_take hm] at hR
              rw [Price.pieceAt_eq hlt2 hlt3] at hy
              gi_wp2
              refine hR.mono ?_
              rintro x W3 (⟨rfl, hJ4, hk3⟩ | ⟨rfl, hJx3⟩)
              · gi_wp2
                go_roundw
                case rel => exact ⟨e + 1, by omega, by go_num, hJ4⟩
                case measure => simp [intOf]; omega
              · gi_wp2
                refine bodyPost_ret (results_none rfl _ _ _) rfl ?_
                exact ⟨⟨_, rfl⟩, .inr ⟨_, List.take_prefix _ _, hJx3⟩⟩
            · obtain rfl : e = 3 := by omega
              gi_wp2
              go_roundw
              case rel => exact ⟨s + 1, by omega, by go_num, by rw [show 15 * b + 3 * (s + 1) = 15 * b + 3 * s + 3 by omega]; exact hJ3⟩
              case measure => simp [intOf]; omega
        · obtain rfl : s = 5 := by omega
          gi_wp2
          go_roundw
          case rel => exact ⟨b + 1, by omega, by go_num, by rw [show 15 * (b + 1) = 15 * b + 3 * 5 by omega]; exact hJ2⟩
          case measure => simp [intOf]; omega
    · obtain rfl : b = 4 := by omega
      gi_wp2
      go_end0
      exact ⟨⟨_, rfl⟩, .inl ⟨_, List.take_of_length_le (by rw [Price.allPieces_length]; omega), hJ1⟩⟩
end Go.Proofs.YtkailkfiakagfaaGreat
-- differ, Differ of package price. Conditions: lengths are below a great bound.
namespace Go.Proofs.YtkailkfiakagfaaGreat
open Go.RowKit Go.Shelf
set_option maxRecDepth 100000
attribute [local go_sem] Oper.semAt_some

theorem pieces_in (F : Fence) (n : Nat) (h : F.fn 65) (hro : F.round = none) (w : World) : CallsIn F n Tryz.prog 65 #[] w fun e w' => e = .returned (.func (.func 93) #[] #[]) ∧ w' = w := by
  have hmk : ∀ (fn : Fn) (first cap : Array Value) (w : World), (Instr.makeFunc fn first cap).run Tryz.prog w = .ok (.func fn first cap) w := fun _ _ _ _ => rfl
  refine callsIn_of_wp Tryz.func65 rfl h ?_ hro
  simp only [Tryz.ntmps65, List.size_toArray, List.length_cons, List.length_nil, Nat.reduceAdd, Nat.reduceSub, Array.replicate_succ, Array.replicate_zero, List.push_toArray, List.append_toArray, List.nil_append, List.cons_append]
  gi_wp2
  go_ret
  exact ⟨rfl, rfl⟩
theorem pieces_stops (F : Fence) (n : Nat) (h : F.fn 93) (hro : F.round = none) (hn : 1 ≤ n) (Kp : World → World → Prop) (w : World) :
    SeqStopsK F n Tryz.prog 93 #[] (fun x : Piece => #[x.v]) Kp (fun ys => ys = Price.allPieces) (fun pre => pre <+: Price.allPieces) 60 w := fun l J Jx W _ _ _ hY h0 =>
  pieces1_in F n h hro hn l Kp J Jx hY W h0
theorem blk_ownF {β : Type} (B' g : Nat) (t : TypeId) (f : β → Array Value) : OwnFrom B' (fun s W => Blk W g t (f s)) := fun s X Y row hs hg hrow => by
  have hs' : X.heap[g]? = some (.cells (f s) t (0, 0)) := hs
  exact (hg.block g hs.lt (fun e' => by obtain ⟨_, o, ho, hc⟩ := hrow g e'.symm; rw [hs'] at ho; cases ho; cases hc)).trans hs'

theorem keepsFrom_below {W W' : World} (B : Nat) (h : Below W.heap.size W W') : KeepsFrom B W W' := ⟨h.size, fun k o _ hk _ => (h.block k (Array.getElem?_eq_some_iff.1 hk).1).trans hk⟩
theorem Blk.putObj {W : World} {g D : Nat} {t : TypeId} {cs : Array Value} (h : Blk W g t cs) (hne : g ≠ D) (o : Obj) : Blk (W.putObj D o) g t cs := ((grownBy_putObj' W D o).block g h.lt (fun e => hne (by cases e; rfl))).trans h
theorem below_putObj {n₀ : Nat} {w W : World} {D : Nat} (h : Below n₀ w W) (hD : n₀ ≤ D) (hn : n₀ ≤ w.heap.size) (o : Obj) : Below n₀ w (W.putObj D o) := h.grown (grownBy_putObj' W D o) (Nat.le_trans hn h.size) (fun k e => by cases e; exact hD)
def Price.differs (a b : List Rule) (p : Piece) : Bool := (Price.priced a p).1 != (Price.priced b p).1 || (Price.priced a p).2 != (Price.priced b p).2
def Price.differ (a b : List Rule) : Piece × Int := match Price.allPieces.find? (Price.differs a b) with
  | some p => (p, 0)
  | none => (⟨0, 0, 0⟩, 6)
set_option maxHeartbeats 2000000 in
theorem differ_spec (A : Option Addr) (a : List Rule) (c : Nat) (A' : Option Addr) (b : List Rule) (c' : Nat) (w : World) (hm : a.length ≤ big) (hs : Sl ruleE w A a) (hp : ∀ r ∈ a, 0 ≤ r.p ∧ r.p ≤ 500) (hm' : b.length ≤ big) (hs' : Sl ruleE w A' b) (hp' : ∀ r ∈ b, 0 ≤ r.p ∧ r.p ≤ 500) :
    Calls Tryz.prog 17 #[.slice A a.length c, .slice A' b.length c'] w fun e w' => e = .returned (.tuple #[(Price.differ a b).1.v, iv (Price.differ a b).2]) ∧ Below w.heap.size w w' := by
  refine (callsIn_wide (n := 20)).1 ?_
  refine callsIn_of_wp_marks Tryz.func17 rfl trivial ?_ rfl
  simp only [Tryz.ntmps17, List.size_toArray, List.length_cons, List.length_nil, Nat.reduceAdd, Nat.reduceSub, Array.replicate_succ, Array.replicate_zero, List.push_toArray, List.append_toArray, List.nil_append, List.cons_append]
  gi_wp2_with (refine ⟨trivial, ?_⟩; gi_at_call 65; refine (pieces_in Fence.wide _ trivial rfl _).mono ?_; rintro e w' ⟨rfl, rfl⟩)
  have k2 : Blk (((w.alloc (.cells #[.slice A a.length c] 23)).alloc (.cells #[.slice A' b.length c'] 23)).alloc (.cells #[.int .i64 0, .int .i64 0, .int .i64 0] 26) |>.alloc (.cells #[.int .i64 0] 37)) w.heap.size 23 #[.slice A a.length c] := (((Blk.new w _ _).alloc _).alloc _).alloc _
  have k3 : Blk (((w.alloc (.cells #[.slice A a.length c] 23)).alloc (.cells #[.slice A' b.length c'] 23)).alloc (.cells #[.int .i64 0, .int .i64 0, .int .i64 0] 26) |>.alloc (.cells #[.int .i64 0] 37)) (w.heap.size + 1) 23 #[.slice A' b.length c'] := ((Blk.new_ _ _ _ (by simp)).alloc _).alloc _
  have k4 : Blk (((w.alloc (.cells #[.slice A a.length c] 23)).alloc (.cells #[.slice A' b.length c'] 23)).alloc (.cells #[.int .i64 0, .int .i64 0, .int .i64 0] 26) |>.alloc (.cells #[.int .i64 0] 37)) (w.heap.size + 1 + 1) 26 #[.int .i64 0, .int .i64 0, .int .i64 0] := (Blk.new_ _ _ _ (by simp)).alloc _
  have k5 : Blk (((w.alloc (.cells #[.slice A a.length c] 23)).alloc (.cells #[.slice A' b.length c'] 23)).alloc (.cells #[.int .i64 0, .int .i64 0, .int .i64 0] 26) |>.alloc (.cells #[.int .i64 0] 37)) (w.heap.size + 1 + 1 + 1) 37 #[.int .i64 0] := Blk.new_ _ _ _ (by simp)
  have hB0 : Below w.heap.size w (((w.alloc (.cells #[.slice A a.length c] 23)).alloc (.cells #[.slice A' b.length c'] 23)).alloc (.cells #[.int .i64 0, .int .i64 0, .int .i64 0] 26) |>.alloc (.cells #[.int .i64 0] 37)) := ((((Below.refl _ w).alloc (Nat.le_refl _) _).alloc (by simp) _).alloc (by simp; omega) _).alloc (by simp; omega) _
  have hsz : (((w.alloc (.cells #[.slice A a.length c] 23)).alloc (.cells #[.slice A' b.length c'] 23)).alloc (.cells #[.int .i64 0, .int .i64 0, .int .i64 0] 26) |>.alloc (.cells #[.int .i64 0] 37)).heap.size = w.heap.size + 4 := by simp
  generalize (((w.alloc (.cells #[.slice A a.length c] 23)).alloc (.cells #[.slice A' b.length c'] 23)).alloc (.cells #[.int .i64 0, .int .i64 0, .int .i64 0] 26) |>.alloc (.cells #[.int .i64 0] 37)) = W0 at *
  refine wpIn_rangeFunc_ownH (F := Fence.wide) rfl (by omega) (gf := 93) (lb := #[]) rfl trivial (enters_of Tryz.func93 (by kernel_rfl) rfl)
    (pieces_stops Fence.wide (20 - 1) trivial rfl (by omega) (Below w.heap.size) W0) belowK_t (belowK_b (by omega)) (Below.refl _ _) (fun _ => rfl)
    (fun pre W => (((((∀ p ∈ pre, Price.differs a b p = false) ∧ Blk W w.heap.size 23 #[.slice A a.length c]) ∧ Blk W (w.heap.size + 1) 23 #[.slice A' b.length c']) ∧ Blk W (w.heap.size + 1 + 1) 26 #[.int .i64 0, .int .i64 0, .int .i64 0]) ∧ Blk W (w.heap.size + 1 + 1 + 1) 37 #[.int .i64 0]) ∧ Below w.heap.size w W)
    (fun co pre W => (((co = .ret ∧ ∃ q p, pre = q ++ [p] ∧ (∀ x ∈ q, Price.differs a b x = false) ∧ Price.differs a b p = true) ∧ Blk W (w.heap.size + 1 + 1) 26 #[iv (pre.getLastD ⟨0, 0, 0⟩).b, iv (pre.getLastD ⟨0, 0, 0⟩).s, iv (pre.getLastD ⟨0, 0, 0⟩).e]) ∧ Blk W (w.heap.size + 1 + 1 + 1) 37 #[.int .i64 0]) ∧ Below w.heap.size w W)
    (OwnFrom.and (OwnFrom.and (OwnFrom.and (OwnFrom.and (OwnFrom.and (ownFrom_pure _ _) (blk_ownF _ _ _ _)) (blk_ownF _ _ _ _)) (blk_ownF _ _ _ _)) (blk_ownF _ _ _ _)) (ownFrom_below (Nat.le_refl _) (by omega)))
    (fun co => OwnFrom.and (OwnFrom.and (OwnFrom.and (ownFrom_pure _ _) (blk_ownF _ _ _ (fun pre : List Piece => #[iv (pre.getLastD ⟨0, 0, 0⟩).b, iv (pre.getLastD ⟨0, 0, 0⟩).s, iv (pre.getLastD ⟨0, 0, 0⟩).e]))) (blk_ownF _ _ _ _)) (ownFrom_below (Nat.le_refl _) (by omega)))
    ⟨⟨⟨⟨⟨by simp, k2⟩, k3⟩, k4⟩, k5⟩, hB0⟩
    (fun x a' W => ∃ Bx, w.heap.size + 4 ≤ Bx ∧ Blk W Bx 26 #[iv x.b, iv x.s, iv x.e] ∧ a' = { tmps := #[.slice A a.length c, .slice A' b.length c', .pointer (some ⟨w.heap.size, 0, none⟩), .pointer (some ⟨w.heap.size + 1, 0, none⟩), .pointer (some ⟨w.heap.size + 1 + 1, 0, none⟩), .pointer (some ⟨w.heap.size + 1 + 1 + 1, 0, none⟩), .pointer (some ⟨Bx, 0, none⟩), undef, undef, undef, undef, .func (.func 93) #[] #[], x.v, undef, undef, undef, undef, undef, undef, undef, undef, undef, undef, undef, undef, undef, undef, undef, undef, undef, undef, undef, undef, undef, undef], defers := [] })
    (fun x a' _ X Y row hs hg hr => by obtain ⟨Bx, e1, e2, e3⟩ := hs; exact ⟨Bx, e1, blk_ownF (β := Unit) _ Bx _ (fun _ => #[iv x.b, iv x.s, iv x.e]) () X Y row e2 hg hr, e3⟩)
    ?assign ?body ?done ?stop
  case assign =>
    rintro l pre ⟨x1, x2, x3⟩ W K ⟨⟨⟨⟨⟨hpre, b2⟩, b3⟩, b4⟩, b5⟩, hB⟩ hK
    gi_wp2
    exact hK _ _ ((KeepsOthers.alloc _ _).from _) ((Below.refl _ W).alloc hB.size _) ⟨⟨⟨⟨⟨hpre, b2.alloc _⟩, b3.alloc _⟩, b4.alloc _⟩, b5.alloc _⟩, hB.alloc hB.size _⟩ ⟨W.heap.size, by have := b5.lt; omega, Blk.new _ _ _, rfl⟩
  case body =>
    rintro l pre x a' W hl ⟨r, hr⟩ ⟨⟨⟨⟨⟨hpre, b2⟩, b3⟩, b4⟩, b5⟩, hB⟩ ⟨Bx, hBx, bX, rfl⟩ hlt
    have h1' : 1 ≤ 20 - 1 - 1 := by omega
    have c2 := b2.cell
    have cX := bX.cell
    have hsa := hs.below hB
    have hsb := hs'.below hB
    have hd : Price.differs a b x = ((Price.priced a x).1 != (Price.priced b x).1 || (Price.priced a x).2 != (Price.priced b x).2) := rfl
    cases hd1 : ((Price.priced a x).1 != (Price.priced b x).1)
    · cases hd2 : ((Price.priced a x).2 != (Price.priced b x).2)
      · rw [hd1, hd2] at hd
        have HD := Lib.hid hd
        clear hd
        gi_wp2_with fail
        refine ⟨trivial, ?_⟩
        refine (CallsIn.inRound l (callsIn_wide.2 (priced_spec A a c x W hm hsa hp))).mono ?_
        rintro e w1 ⟨rfl, hb1⟩
        have b3a := b3.under hb1
        have bXa := bX.under hb1
        have c3 := b3a.cell
        have cX1 := bXa.cell
        gi_wp2_with fail
        refine ⟨trivial, ?_⟩
        refine (CallsIn.inRound l (callsIn_wide.2 (priced_spec A' b c' x w1 hm' (hsb.below hb1) hp'))).mono ?_
        rintro e w2 ⟨rfl, hb2⟩
        have hbb : Below W.heap.size W w2 := hb1.next hb2 (Nat.le_refl _)
        have bX2 := (bX.under hbb)
        have cX2 := bX2.cell
        have c4 := (b4.under hbb).cell
        have f4 := (b4.under hbb).frozen
        have c5 := (b5.under hbb).cell
        have f5 := (b5.under hbb).frozen
        gi_wp2_with fail
        refine ⟨keepsFrom_below _ hbb, hbb.mono hB.size, ⟨⟨⟨⟨⟨fun p hp => ?_, b2.under hbb⟩, b3.under hbb⟩, b4.under hbb⟩, b5.under hbb⟩, hB.trans (hbb.mono hB.size)⟩⟩
        rcases List.mem_append.1 hp with hp | hp
        · exact hpre p hp
        · rw [List.mem_singleton.1 hp]; exact HD.out
      · rw [hd1, hd2] at hd
        have HD := Lib.hid hd
        clear hd
        gi_wp2_with fail
        refine ⟨trivial, ?_⟩
        refine (CallsIn.inRound l (callsIn_wide.2 (priced_spec A a c x W hm hsa hp))).mono ?_
        rintro e w1 ⟨rfl, hb1⟩
        have b3a := b3.under hb1
        have bXa := bX.under hb1
        have c3 := b3a.cell
        have cX1 := bXa.cell
        gi_wp2_with fail
        refine ⟨trivial, ?_⟩
        refine (CallsIn.inRound l (callsIn_wide.2 (priced_spec A' b c' x w1 hm' (hsb.below hb1) hp'))).mono ?_
        rintro e w2 ⟨rfl, hb2⟩
        have hbb : Below W.heap.size W w2 := hb1.next hb2 (Nat.le_refl _)
        have bX2 := (bX.under hbb)
        have cX2 := bX2.cell
        have c4 := (b4.under hbb).cell
        have f4 := (b4.under hbb).frozen
        have c5 := (b5.under hbb).cell
        have f5 := (b5.under hbb).frozen
        gi_wp2_with fail
        have k4' := ((((b4.under hbb).set_ 0 (.int .i64 x.b)).set_ 1 (.int .i64 x.s)).set_ 2 (.int .i64 x.e)).far (p := ⟨w.heap.size + 1 + 1 + 1, 0, none⟩) (show w.heap.size + 1 + 1 ≠ w.heap.size + 1 + 1 + 1 by omega) (.int .i64 0)
        have k5' := ((((b5.under hbb).far (p := ⟨w.heap.size + 1 + 1, 0, none⟩) (show w.heap.size + 1 + 1 + 1 ≠ w.heap.size + 1 + 1 by omega) (.int .i64 x.b)).far (p := ⟨w.heap.size + 1 + 1, 1, none⟩) (show w.heap.size + 1 + 1 + 1 ≠ w.heap.size + 1 + 1 by omega) (.int .i64 x.s)).far (p := ⟨w.heap.size + 1 + 1, 2, none⟩) (show w.heap.size + 1 + 1 + 1 ≠ w.heap.size + 1 + 1 by omega) (.int .i64 x.e)).set_ 0 (.int .i64 0)
        have hlast : (pre ++ [x]).getLastD ⟨0, 0, 0⟩ = x := by simp
        refine ⟨((((keepsFrom_below _ hbb).trans ((KeepsOthers.setCell _ _ _).from _)).trans ((KeepsOthers.setCell _ _ _).from _)).trans ((KeepsOthers.setCell _ _ _).from _)).trans ((KeepsOthers.setCell _ _ _).from _), ⟨⟨⟨rfl, pre, x, rfl, hpre, HD.out⟩, by rw [hlast]; exact k4'⟩, k5'⟩, ?_⟩
        exact ((((hB.trans (hbb.mono hB.size)).setCell (p := ⟨w.heap.size + 1 + 1, 0, none⟩) (show w.heap.size ≤ w.heap.size + 1 + 1 by omega) _).setCell (p := ⟨w.heap.size + 1 + 1, 1, none⟩) (show w.heap.size ≤ w.heap.size + 1 + 1 by omega) _).setCell (p := ⟨w.heap.size + 1 + 1, 2, none⟩) (show w.heap.size ≤ w.heap.size + 1 + 1 by omega) _).setCell (p := ⟨w.heap.size + 1 + 1 + 1, 0, none⟩) (show w.heap.size ≤ w.heap.size + 1 + 1 + 1 by omega) _
    · rw [hd1] at hd
      have HD := Lib.hid hd
      clear hd
      gi_wp2_with fail
      refine ⟨trivial, ?_⟩
      refine (CallsIn.inRound l (callsIn_wide.2 (priced_spec A a c x W hm hsa hp))).mono ?_
      rintro e w1 ⟨rfl, hb1⟩
      have b3a := b3.under hb1
      have bXa := bX.under hb1
      have c3 := b3a.cell
      have cX1 := bXa.cell
      gi_wp2_with fail
      refine ⟨trivial, ?_⟩
      refine (CallsIn.inRound l (callsIn_wide.2 (priced_spec A' b c' x w1 hm' (hsb.below hb1) hp'))).mono ?_
      rintro e w2 ⟨rfl, hb2⟩
      have hbb : Below W.heap.size W w2 := hb1.next hb2 (Nat.le_refl _)
      have bX2 := (bX.under hbb)
      have cX2 := bX2.cell
      have c4 := (b4.under hbb).cell
      have f4 := (b4.under hbb).frozen
      have c5 := (b5.under hbb).cell
      have f5 := (b5.under hbb).frozen
      gi_wp2_with fail
      have k4' := ((((b4.under hbb).set_ 0 (.int .i64 x.b)).set_ 1 (.int .i64 x.s)).set_ 2 (.int .i64 x.e)).far (p := ⟨w.heap.size + 1 + 1 + 1, 0, none⟩) (show w.heap.size + 1 + 1 ≠ w.heap.size + 1 + 1 + 1 by omega) (.int .i64 0)
      have k5' := ((((b5.under hbb).far (p := ⟨w.heap.size + 1 + 1, 0, none⟩) (show w.heap.size + 1 + 1 + 1 ≠ w.heap.size + 1 + 1 by omega) (.int .i64 x.b)).far (p := ⟨w.heap.size + 1 + 1, 1, none⟩) (show w.heap.size + 1 + 1 + 1 ≠ w.heap.size + 1 + 1 by omega) (.int .i64 x.s)).far (p := ⟨w.heap.size + 1 + 1, 2, none⟩) (show w.heap.size + 1 + 1 + 1 ≠ w.heap.size + 1 + 1 by omega) (.int .i64 x.e)).set_ 0 (.int .i64 0)
      have hlast : (pre ++ [x]).getLastD ⟨0, 0, 0⟩ = x := by simp
      refine ⟨((((keepsFrom_below _ hbb).trans ((KeepsOthers.setCell _ _ _).from _)).trans ((KeepsOthers.setCell _ _ _).from _)).trans ((KeepsOthers.setCell _ _ _).from _)).trans ((KeepsOthers.setCell _ _ _).from _), ⟨⟨⟨rfl, pre, x, rfl, hpre, HD.out⟩, by rw [hlast]; exact k4'⟩, k5'⟩, ?_⟩
      exact ((((hB.trans (hbb.mono hB.size)).setCell (p := ⟨w.heap.size + 1 + 1, 0, none⟩) (show w.heap.size ≤ w.heap.size + 1 + 1 by omega) _).setCell (p := ⟨w.heap.size + 1 + 1, 1, none⟩) (show w.heap.size ≤ w.heap.size + 1 + 1 by omega) _).setCell (p := ⟨w.heap.size + 1 + 1, 2, none⟩) (show w.heap.size ≤ w.heap.size + 1 + 1 by omega) _).setCell (p := ⟨w.heap.size + 1 + 1 + 1, 0, none⟩) (show w.heap.size ≤ w.heap.size + 1 + 1 + 1 by omega) _
  case done =>
    rintro D ys W hD rfl ⟨⟨⟨⟨⟨hpre, b2⟩, b3⟩, b4⟩, b5⟩, hB⟩ hK
    have c4 := b4.cell
    have f4 := b4.frozen
    have c5 := b5.cell
    have f5 := b5.frozen
    have k4' := (((b4.set_ 0 (.int .i64 0)).set_ 1 (.int .i64 0)).set_ 2 (.int .i64 0)).far (p := ⟨w.heap.size + 1 + 1 + 1, 0, none⟩) (show w.heap.size + 1 + 1 ≠ w.heap.size + 1 + 1 + 1 by omega) (.int .i64 6)
    have k5' := (((b5.far (p := ⟨w.heap.size + 1 + 1, 0, none⟩) (show w.heap.size + 1 + 1 + 1 ≠ w.heap.size + 1 + 1 by omega) (.int .i64 0)).far (p := ⟨w.heap.size + 1 + 1, 1, none⟩) (show w.heap.size + 1 + 1 + 1 ≠ w.heap.size + 1 + 1 by omega) (.int .i64 0)).far (p := ⟨w.heap.size + 1 + 1, 2, none⟩) (show w.heap.size + 1 + 1 + 1 ≠ w.heap.size + 1 + 1 by omega) (.int .i64 0)).set_ 0 (.int .i64 6)
    have hK' := ((((KeepsOthers.setCell W ⟨w.heap.size + 1 + 1, 0, none⟩ (.int .i64 0)).trans (KeepsOthers.setCell _ ⟨w.heap.size + 1 + 1, 1, none⟩ (.int .i64 0))).trans (KeepsOthers.setCell _ ⟨w.heap.size + 1 + 1, 2, none⟩ (.int .i64 0))).trans (KeepsOthers.setCell _ ⟨w.heap.size + 1 + 1 + 1, 0, none⟩ (.int .i64 6))).same D _ hK rfl
    have hB' := (((hB.setCell (p := ⟨w.heap.size + 1 + 1, 0, none⟩) (show w.heap.size ≤ w.heap.size + 1 + 1 by omega) (.int .i64 0)).setCell (p := ⟨w.heap.size + 1 + 1, 1, none⟩) (show w.heap.size ≤ w.heap.size + 1 + 1 by omega) (.int .i64 0)).setCell (p := ⟨w.heap.size + 1 + 1, 2, none⟩) (show w.heap.size ≤ w.heap.size + 1 + 1 by omega) (.int .i64 0)).setCell (p := ⟨w.heap.size + 1 + 1 + 1, 0, none⟩) (show w.heap.size ≤ w.heap.size + 1 + 1 + 1 by omega) (.int .i64 6)
    have hfind : Price.differ a b = (⟨0, 0, 0⟩, 6) := by
      unfold Price.differ
      rw [List.find?_eq_none.2 (fun x hx => by simp [hpre x hx])]
    gi_wp2
    rw [hfind]
    generalize (((W.setCell ⟨w.heap.size + 1 + 1, 0, none⟩ (.int .i64 0)).setCell ⟨w.heap.size + 1 + 1, 1, none⟩ (.int .i64 0)).setCell ⟨w.heap.size + 1 + 1, 2, none⟩ (.int .i64 0)).setCell ⟨w.heap.size + 1 + 1 + 1, 0, none⟩ (.int .i64 6) = X at *
    refine ⟨by simp, .inl ⟨_, _, rfl, run_takeDeferred hK', ?_⟩⟩
    have d4 := (k4'.putObj (show w.heap.size + 1 + 1 ≠ D by omega) (.deferred none)).cell
    have d5 := (k5'.putObj (show w.heap.size + 1 + 1 + 1 ≠ D by omega) (.deferred none)).cell
    refine ⟨.tuple #[.agg #[iv 0, iv 0, iv 0], iv 6], ?_, rfl, below_putObj hB' (by omega) (Nat.le_refl _) _⟩
    simp [results, Tryz.f17, go_sem, d4, d5]
  case stop =>
    rintro D co pre W hD hpr ⟨⟨⟨⟨rfl, q, p, rfl, hq, hdp⟩, b4⟩, b5⟩, hB⟩ hK
    have hfind : Price.differ a b = (p, 0) := by
      unfold Price.differ
      obtain ⟨t, ht⟩ := hpr
      rw [← ht, List.append_assoc, List.find?_append, List.find?_eq_none.2 (fun x hx => by simp [hq x hx])]
      simp [hdp]
    have hlast : (q ++ [p]).getLastD ⟨0, 0, 0⟩ = p := by simp
    rw [hlast] at b4
    gi_wp2
    rw [hfind]
    refine ⟨by simp, .inl ⟨_, _, rfl, run_takeDeferred hK, ?_⟩⟩
    have d4 := (b4.putObj (show w.heap.size + 1 + 1 ≠ D by omega) (.deferred none)).cell
    have d5 := (b5.putObj (show w.heap.size + 1 + 1 + 1 ≠ D by omega) (.deferred none)).cell
    refine ⟨.tuple #[.agg #[iv p.b, iv p.s, iv p.e], iv 0], ?_, rfl, below_putObj hB (by omega) (Nat.le_refl _) _⟩
    simp [results, Tryz.f17, go_sem, d4, d5]
def Price.differOf (a b : List Rule) : Piece × Int := if Price.check a = 0 then (if Price.check b = 0 then Price.differ a b else (⟨0, 0, 0⟩, Price.check b)) else (⟨0, 0, 0⟩, Price.check a)
theorem Differ_spec (A : Option Addr) (a : List Rule) (c : Nat) (A' : Option Addr) (b : List Rule) (c' : Nat) (w : World) (hm : a.length ≤ big) (hc : a.length ≤ c) (hs : Sl ruleE w A a) (hm' : b.length ≤ big) (hc' : b.length ≤ c') (hs' : Sl ruleE w A' b) :
    Calls Tryz.prog 39 #[.slice A a.length c, .slice A' b.length c'] w fun e w' => e = .returned (.tuple #[(Price.differOf a b).1.v, iv (Price.differOf a b).2]) ∧ Below w.heap.size w w' := by
  by_cases h0 : Price.check a = 0
  · have hp := Price.check_prices h0
    by_cases h1 : Price.check b = 0
    · have hp' := Price.check_prices h1
      have he : Price.differOf a b = Price.differ a b := by simp [Price.differOf, h0, h1]
      rw [he]
      clear he
      go_enter Tryz.func39, Tryz.ntmps39
      go_wp2_with fail
      refine (check_spec A a c _ hm hc (hs.alloc _)).mono ?_
      rintro e w1 ⟨rfl, hb1⟩
      rw [h0]
      go_wp2_with fail
      refine (check_spec A' b c' _ hm' hc' ((hs'.alloc _).below hb1)).mono ?_
      rintro e w2 ⟨rfl, hb2⟩
      rw [h1]
      go_wp2_with fail
      refine (differ_spec A a c A' b c' _ hm (((hs.alloc _).below hb1).below hb2) hp hm' (((hs'.alloc _).below hb1).below hb2) hp').mono ?_
      rintro e w3 ⟨rfl, hb3⟩
      have hb12 := hb1.next hb2 (Nat.le_refl _)
      have hb13 := hb12.next hb3 (Nat.le_refl _)
      have k4 := (Blk.new w 26 #[iv 0, iv 0, iv 0]).under hb13
      have k4c := k4.cell
      have k4f := k4.frozen
      go_wp2_with fail
      have k5 := ((k4.set_ 0 (iv ((Price.differ a b).1.b))).set_ 1 (iv ((Price.differ a b).1.s))).set_ 2 (iv ((Price.differ a b).1.e)); have d5 := k5.cell; refine bodyPost_ret (v := .tuple #[.agg #[iv ((Price.differ a b).1.b), iv ((Price.differ a b).1.s), iv ((Price.differ a b).1.e)], iv ((Price.differ a b).2)]) (by simp [results, Tryz.f39, go_sem, d5]) rfl ⟨rfl, ((hb13.of_alloc.setCell (p := ⟨w.heap.size, 0, none⟩) (Nat.le_refl _) _).setCell (p := ⟨w.heap.size, 1, none⟩) (Nat.le_refl _) _).setCell (p := ⟨w.heap.size, 2, none⟩) (Nat.le_refl _) _⟩
    · have he : Price.differOf a b = (⟨0, 0, 0⟩, Price.check b) := by simp [Price.differOf, h0, h1]
      rw [he]
      clear he
      have h1' : (Price.check b != 0) = true := by simpa using h1
      go_enter Tryz.func39, Tryz.ntmps39
      go_wp2_with fail
      refine (check_spec A a c _ hm hc (hs.alloc _)).mono ?_
      rintro e w1 ⟨rfl, hb1⟩
      rw [h0]
      go_wp2_with fail
      refine (check_spec A' b c' _ hm' hc' ((hs'.alloc _).below hb1)).mono ?_
      rintro e w2 ⟨rfl, hb2⟩
      have hb12 := hb1.next hb2 (Nat.le_refl _)
      have k4 := (Blk.new w 26 #[iv 0, iv 0, iv 0]).under hb12
      have k4c := k4.cell
      have k4f := k4.frozen
      go_wp2_with fail
      have k5 := ((k4.set_ 0 (iv (0))).set_ 1 (iv (0))).set_ 2 (iv (0)); have d5 := k5.cell; refine bodyPost_ret (v := .tuple #[.agg #[iv (0), iv (0), iv (0)], iv (Price.check b)]) (by simp [results, Tryz.f39, go_sem, d5]) rfl ⟨rfl, ((hb12.of_alloc.setCell (p := ⟨w.heap.size, 0, none⟩) (Nat.le_refl _) _).setCell (p := ⟨w.heap.size, 1, none⟩) (Nat.le_refl _) _).setCell (p := ⟨w.heap.size, 2, none⟩) (Nat.le_refl _) _⟩
  · have he : Price.differOf a b = (⟨0, 0, 0⟩, Price.check a) := by simp [Price.differOf, h0]
    rw [he]
    clear he
    have h0' : (Price.check a != 0) = true := by simpa using h0
    go_enter Tryz.func39, Tryz.ntmps39
    go_wp2_with fail
    refine (check_spec A a c _ hm hc (hs.alloc _)).mono ?_
    rintro e w1 ⟨rfl, hb1⟩
    have k4 := (Blk.new w 26 #[iv 0, iv 0, iv 0]).under hb1
    have k4c := k4.cell
    have k4f := k4.frozen
    go_wp2_with fail
    have k5 := ((k4.set_ 0 (iv (0))).set_ 1 (iv (0))).set_ 2 (iv (0)); have d5 := k5.cell; refine bodyPost_ret (v := .tuple #[.agg #[iv (0), iv (0), iv (0)], iv (Price.check a)]) (by simp [results, Tryz.f39, go_sem, d5]) rfl ⟨rfl, ((hb1.of_alloc.setCell (p := ⟨w.heap.size, 0, none⟩) (Nat.le_refl _) _).setCell (p := ⟨w.heap.size, 1, none⟩) (Nat.le_refl _) _).setCell (p := ⟨w.heap.size, 2, none⟩) (Nat.le_refl _) _⟩
end Go.Proofs.YtkailkfiakagfaaGreat
-- erring, Open, Torn of package price. Conditions: lengths are below a great bound.
namespace Go.Proofs.YtkailkfiakagfaaGreat
open Go.RowKit Go.Shelf
set_option maxRecDepth 100000
attribute [local go_sem] Oper.semAt_some

/-- wpApp1 within a fence. -/
theorem wpApp1InB {F : Fence} {m : Nat} {α : Type} (E : Enc α) {P : Program} {t e : TypeId} (hT : SlTy P t e E.sz) {ops : Array Oper} {rest : List Oper} {o : Oper} {a : Act} {Q : Exit → Act → World → Prop} {w : World} {arr : Array Value}
    (hgd : o.guard = none) (s x : Operand) (ho : o.op = .call { callee := .builtin .append, args := #[s, x], argTypes := #[t, t] })
    {B : Nat} {v : Value} {xs : List α} (hown : Own E e B w v xs) (y : α) (harr : arr.toList = E.cells y) (hs : a.eval s = v) (hx : a.eval x = .slice (some ⟨w.heap.size, 0, none⟩) 1 1)
    (hB : B ≤ w.heap.size) (hn : xs.length + 1 ≤ big)
    (h : ∀ v' w', Own E e B w' v' (xs ++ [y]) → Below B w w' → (∀ b, b < w.heap.size → v.ownBlock ≠ some b → w'.heap[b]? = w.heap[b]?) → wpListIn F m P ops Q rest (a.put o.dst v') w') :
    wpListIn F m P ops Q (o :: rest) a (w.alloc (.cells arr e)) := by
  obtain ⟨i, z, hi, hz, hsz, hby, hzc⟩ := hT.info
  unfold big at hn
  have hsize : arr.size = E.sz := by rw [← Array.length_toList, harr, E.len]
  refine wpListIn_append_own (w.alloc (.cells arr e)) hgd s x t ho B e i z E.sz i.bytes hT.ht hi hz hsz rfl hzc E.pos v xs.length (xs.flatMap E.cells) hs (World.ownsRow.alloc hown _)
    ⟨w.heap.size, 0, none⟩ 1 1 (E.cells y) hx (by rw [E.len]; omega) ?_ (E.one y) (by unfold maxLen; omega) (by have := Nat.mul_le_mul hn hby; omega) (by simp; omega) ?_
  · intro j u hu
    have hadd : (⟨w.heap.size, 0, none⟩ : Addr).add j = ⟨w.heap.size, j, none⟩ := by unfold Addr.add; split <;> simp_all
    rw [hadd, cell_of_row _ w.heap.size j arr e (0, 0) (heap_alloc_new w _), ← hu, ← harr, Array.getElem?_toList]
  · intro v' w' hown' hg _
    have hlt := Own.lt hown
    refine h v' w' (by unfold Own; simpa using hown') ?_ (fun b hb hv => ?_)
    · refine (((Below.refl B w).alloc hB _).grown hg (by simp; omega) fun k hk => ?_)
      exact (hlt k hk).1
    · rw [hg.block b (by simp; omega) (fun e => hv e.symm)]
      exact Below.heap_alloc w _ b hb
theorem Own.cellsAt {α : Type} {E : Enc α} {e : TypeId} {B : Nat} {w : World} {v : Value} {xs : List α} (h : Own E e B w v xs) {b : Nat} (hb : v.ownBlock = some b) : ∃ o : Obj, w.heap[b]? = some o ∧ o.isCells = true := by
  rcases h.2 with ⟨rfl, _⟩ | ⟨g, cap, cur, rfl, _, hg, _⟩
  · cases hb
  · obtain rfl : g = b := by simpa [Value.ownBlock] using hb
    exact ⟨_, hg, rfl⟩
/-- A box that holds a slice of the loop's own. -/
theorem boxOwn_ownF {β α : Type} (B' g : Nat) (t : TypeId) (E : Enc α) (e : TypeId) (n : Nat) (f : β → List α) : OwnFrom B' (fun s W => ∃ v, Blk W g t #[v] ∧ Own E e n W v (f s)) := by
  rintro s X Y row ⟨v, hv, ho⟩ hg hr
  refine ⟨v, blk_ownF (β := Unit) B' g t (fun _ => #[v]) () X Y row hv hg hr, ho.keep hg.size fun b hb => hg.block b (ho.lt b hb).2 fun e' => ?_⟩
  obtain ⟨_, o, ho', hc⟩ := hr b e'.symm
  obtain ⟨o2, h2, hc2⟩ := ho.cellsAt hb
  rw [ho'] at h2; cases h2; rw [hc] at hc2; cases hc2
theorem keepsFrom_app {W W' : World} (B : Nat) {α : Type} {E : Enc α} {e : TypeId} {n : Nat} {v : Value} {xs : List α} (h : Own E e n W v xs) (hs : W.heap.size ≤ W'.heap.size) (hk : ∀ b, b < W.heap.size → v.ownBlock ≠ some b → W'.heap[b]? = W.heap[b]?) : KeepsFrom B W W' :=
  ⟨hs, fun k o _ hk' ho => (hk k (Array.getElem?_eq_some_iff.1 hk').1 fun e' => by
    obtain ⟨o2, h2, hc2⟩ := h.cellsAt e'
    rw [hk'] at h2; cases h2; rw [ho] at hc2; cases hc2).trans hk'⟩

def Price.erringOf (l : List Rule) (err : Int) : List Piece × Int := if Price.check l = 0 then (Price.allPieces.filter (fun p => (Price.priced l p).2 == err), 0) else ([], Price.check l)
set_option maxHeartbeats 2000000 in
theorem erring_spec (A : Option Addr) (l : List Rule) (c : Nat) (err : Int) (w : World) (hm : l.length ≤ big) (hc : l.length ≤ c) (hs : Sl ruleE w A l) :
    Calls Tryz.prog 75 #[.slice A l.length c, iv err] w fun e w' => ∃ v, e = .returned (.tuple #[v, iv (Price.erringOf l err).2]) ∧ Own pieceE 26 w.heap.size w' v (Price.erringOf l err).1 ∧ Below w.heap.size w w' := by
  have hk2 := (Blk.new w 23 #[.slice A l.length c]).alloc (.cells #[iv err] 37)
  have hk3 : Blk ((w.alloc (.cells #[.slice A l.length c] 23)).alloc (.cells #[iv err] 37)) (w.heap.size + 1) 37 #[iv err] := Blk.new_ _ _ _ (by simp)
  have hB1 : Below w.heap.size w ((w.alloc (.cells #[.slice A l.length c] 23)).alloc (.cells #[iv err] 37)) := ((Below.refl _ w).alloc (Nat.le_refl _) _).alloc (by simp) _
  have hz1 : ((w.alloc (.cells #[.slice A l.length c] 23)).alloc (.cells #[iv err] 37)).heap.size = w.heap.size + 2 := by simp
  have c2 := hk2.cell
  refine (callsIn_wide (n := 20)).1 ?_
  refine callsIn_of_wp_marks Tryz.func75 rfl trivial ?_ rfl
  simp only [Tryz.ntmps75, List.size_toArray, List.length_cons, List.length_nil, Nat.reduceAdd, Nat.reduceSub, Array.replicate_succ, Array.replicate_zero, List.push_toArray, List.append_toArray, List.nil_append, List.cons_append]
  by_cases h0 : Price.check l = 0
  · have hp := Price.check_prices h0
    have he : Price.erringOf l err = (Price.allPieces.filter (fun p => (Price.priced l p).2 == err), 0) := by simp [Price.erringOf, h0]
    rw [he]
    clear he
    gi_wp2_with fail
    generalize (w.alloc (.cells #[.slice A l.length c] 23)).alloc (.cells #[iv err] 37) = w1 at *
    refine ⟨trivial, ?_⟩
    refine (callsIn_wide.2 (check_spec A l c w1 hm hc (hs.below hB1))).mono ?_
    rintro e w2 ⟨rfl, hb2⟩
    rw [h0]
    gi_wp2_with fail
    refine ⟨trivial, ?_⟩
    refine (pieces_in Fence.wide _ trivial rfl _).mono ?_
    rintro e w' ⟨rfl, rfl⟩
    gi_wp2_with fail
    have k2 := (hk2.under hb2).alloc (.cells #[.slice none 0 0] 31)
    have k3 := (hk3.under hb2).alloc (.cells #[.slice none 0 0] 31)
    have k7 : Blk (w2.alloc (.cells #[.slice none 0 0] 31)) w2.heap.size 31 #[.slice none 0 0] := Blk.new _ _ _
    have hz2 := hb2.size
    have hB0 := (hB1.next hb2 (by omega)).alloc (by omega) (.cells #[.slice none 0 0] 31)
    have hsz : (w2.alloc (.cells #[.slice none 0 0] 31)).heap.size = w2.heap.size + 1 := by simp
    have HPS := Lib.hid hp
    clear hk2 hk3 c2 hp hb2 hB1
    generalize hgg : w2.heap.size = g7 at *
    generalize w2.alloc (.cells #[.slice none 0 0] 31) = W0 at *
    clear hgg
    have hg7 : w.heap.size + 2 ≤ g7 := by omega
    refine wpIn_rangeFunc_ownH (F := Fence.wide) rfl (by omega) (gf := 93) (lb := #[]) rfl trivial (enters_of Tryz.func93 (by kernel_rfl) rfl)
      (pieces_stops Fence.wide (20 - 1) trivial rfl (by omega) (Below w.heap.size) W0) belowK_t (belowK_b (by omega)) (Below.refl _ _) (fun _ => rfl)
      (fun pre W => (((∃ v, Blk W g7 31 #[v] ∧ Own pieceE 26 (g7 + 1) W v (pre.filter (fun p => (Price.priced l p).2 == err))) ∧ Blk W w.heap.size 23 #[.slice A l.length c]) ∧ Blk W (w.heap.size + 1) 37 #[iv err]) ∧ Below w.heap.size w W)
      (fun _ _ _ => False)
      (OwnFrom.and (OwnFrom.and (OwnFrom.and (boxOwn_ownF _ _ _ _ _ _ _) (blk_ownF _ _ _ _)) (blk_ownF _ _ _ _)) (ownFrom_below (Nat.le_refl _) (by omega)))
      (fun _ _ _ _ _ hs _ _ => hs)
      ⟨⟨⟨⟨_, k7, ⟨rfl, .inl ⟨rfl, rfl⟩⟩⟩, k2⟩, k3⟩, hB0⟩
      (fun x a' W => ∃ Bx, g7 + 1 ≤ Bx ∧ Blk W Bx 26 #[iv x.b, iv x.s, iv x.e] ∧ a' = { tmps := #[.slice A l.length c, iv err, .pointer (some ⟨w.heap.size, 0, none⟩), .pointer (some ⟨w.heap.size + 1, 0, none⟩), .slice none 0 0, .int .i64 0, iv 0, .pointer (some ⟨g7, 0, none⟩), .pointer (some ⟨Bx, 0, none⟩), undef, undef, .slice A l.length c, iv 0, iv 0, .bool false, undef, .func (.func 93) #[] #[], x.v, undef, undef, undef, undef, undef, undef, undef, undef, undef, undef, undef, undef, undef, undef], defers := [] })
      (fun x a' _ X Y row hs hg hr => by obtain ⟨Bx, e1, e2, e3⟩ := hs; exact ⟨Bx, e1, blk_ownF (β := Unit) _ Bx _ (fun _ => #[iv x.b, iv x.s, iv x.e]) () X Y row e2 hg hr, e3⟩)
      ?assign ?body ?done ?stop
    case assign =>
      rintro l' pre ⟨x1, x2, x3⟩ W K ⟨⟨⟨⟨v, b7, ho⟩, b2⟩, b3⟩, hB⟩ hK
      gi_wp2
      exact hK _ _ ((KeepsOthers.alloc _ _).from _) ((Below.refl _ W).alloc hB.size _) ⟨⟨⟨⟨v, b7.alloc _, ho.alloc _⟩, b2.alloc _⟩, b3.alloc _⟩, hB.alloc hB.size _⟩ ⟨W.heap.size, b7.lt, Blk.new _ _ _, rfl⟩
    case body =>
      rintro l' pre x a' W hl ⟨r, hr⟩ ⟨⟨⟨⟨v, b7, ho⟩, b2⟩, b3⟩, hB⟩ ⟨Bx, hBx, bX, rfl⟩ hlt
      have c2 := b2.cell
      have cX := bX.cell
      have hsa := hs.below hB
      gi_wp2_with fail
      refine ⟨trivial, ?_⟩
      refine (CallsIn.inRound l' (callsIn_wide.2 (priced_spec A l c x W hm hsa HPS.out))).mono ?_
      rintro e w3 ⟨rfl, hb3⟩
      have c3 := (b3.under hb3).cell
      have hfil : (pre ++ [x]).filter (fun p => (Price.priced l p).2 == err) = pre.filter (fun p => (Price.priced l p).2 == err) ++ (if (Price.priced l x).2 == err then [x] else []) := by
        rw [List.filter_append]; simp [List.filter_cons]
      have HFI := Lib.hid hfil
      clear hfil
      cases hd : ((Price.priced l x).2 == err)
      · gi_wp2_with fail
        have HFJ := HFI.out
        rw [hd] at HFJ
        simp only [Bool.false_eq_true, if_false, List.append_nil] at HFJ
        exact ⟨keepsFrom_below _ hb3, hb3.mono hB.size, ⟨⟨⟨v, b7.under hb3, by rw [HFJ]; exact ho.below hb3⟩, b2.under hb3⟩, b3.under hb3⟩, hB.trans (hb3.mono hB.size)⟩
      · have HFJ := HFI.out
        rw [hd] at HFJ
        simp only [if_true] at HFJ
        have HFK := Lib.hid HFJ
        clear HFJ HFI
        have b7a := b7.under hb3
        have c7 := b7a.cell
        have cX3 := (bX.under hb3).cell
        have ho3 := ho.below hb3
        have hlen : (pre.filter (fun p => (Price.priced l p).2 == err)).length ≤ 60 := Nat.le_trans (List.length_filter_le _ _) (by omega)
        have hz3 := hb3.size
        have hl7 := b7.lt
        have hne7 : v.ownBlock ≠ some g7 := fun e => by have := (ho.lt g7 e).1; omega
        gi_wp2_with (gi_at_builtin; refine wpApp1InB pieceE tyPieces rfl _ _ rfl ho3 x rfl rfl rfl (by omega) (by unfold big; omega) ?_; intro v' w4 ho4 hb4 hk4; obtain ⟨A4, c4, rfl, _, _⟩ := ho4.form; have b7b : Blk w4 g7 31 #[v] := (hk4 g7 (by omega) hne7).trans b7a; have c7b := b7b.cell; have f7b := b7b.frozen)
        have hz4 := hb4.size
        have ho4' : Own pieceE 26 (g7 + 1) w4 (.slice A4 ((pre.filter (fun p => (Price.priced l p).2 == err)).length + 1) c4) ((pre ++ [x]).filter (fun p => (Price.priced l p).2 == err)) := by
          rw [HFK.out]
          rw [List.length_append] at ho4
          exact ho4
        have ho5 := ho4'.keep (w' := w4.setCell ⟨g7, 0, none⟩ (.slice A4 ((pre.filter (fun p => (Price.priced l p).2 == err)).length + 1) c4)) (by simp [World.setCell]) fun b hb => Below.heap_setCell w4 ⟨g7, 0, none⟩ _ b (by have := (ho4'.lt b hb).1; show b ≠ g7; omega)
        have hb4' := hb4.mono (show w.heap.size ≤ g7 + 1 by omega)
        refine ⟨((keepsFrom_below _ hb3).trans (keepsFrom_app _ ho3 hz4 hk4)).trans ((KeepsOthers.setCell _ _ _).from _), ((hb3.mono hB.size).trans hb4').setCell (p := ⟨g7, 0, none⟩) (show w.heap.size ≤ g7 by omega) _,
          ⟨⟨⟨_, b7b.set_ 0 (.slice A4 ((pre.filter (fun p => (Price.priced l p).2 == err)).length + 1) c4), ho5⟩, ((b2.under hb3).below hb4 (by omega)).far (p := ⟨g7, 0, none⟩) (show w.heap.size ≠ g7 by omega) _⟩, ((b3.under hb3).below hb4 (by omega)).far (p := ⟨g7, 0, none⟩) (show w.heap.size + 1 ≠ g7 by omega) _⟩, ?_⟩
        exact ((hB.trans (hb3.mono hB.size)).trans hb4').setCell (p := ⟨g7, 0, none⟩) (show w.heap.size ≤ g7 by omega) _
    case done =>
      rintro D ys W hD rfl ⟨⟨⟨⟨v, b7, ho⟩, b2⟩, b3⟩, hB⟩ hK
      have c7 := b7.cell
      gi_wp2
      refine ⟨by simp, .inl ⟨_, _, rfl, run_takeDeferred hK, ?_⟩⟩
      refine ⟨_, results_tmp2 rfl _ _ _, v, rfl, ?_, below_putObj hB (by omega) (Nat.le_refl _) _⟩
      refine (ho.base (by omega)).keep (grownBy_putObj' W D _).size fun b hb => (grownBy_putObj' W D _).block b (ho.lt b hb).2 fun e' => ?_
      cases e'
      obtain ⟨o2, h2, hc2⟩ := ho.cellsAt hb
      rw [hK] at h2; cases h2; cases hc2
    case stop =>
      rintro D co pre W hD hpr h hK
      exact h.elim
  · have he : Price.erringOf l err = ([], Price.check l) := by simp [Price.erringOf, h0]
    rw [he]
    clear he
    have h0' : (Price.check l != 0) = true := by simpa using h0
    gi_wp2_with fail
    refine ⟨trivial, ?_⟩
    refine (callsIn_wide.2 (check_spec A l c _ hm hc (hs.below hB1))).mono ?_
    rintro e w2 ⟨rfl, hb2⟩
    gi_wp2_with fail
    refine ⟨_, results_tmp2 rfl _ _ _, ?_⟩
    exact ⟨_, rfl, ⟨rfl, .inl ⟨rfl, rfl⟩⟩, hB1.next hb2 (Nat.le_refl _)⟩
theorem Open_spec (A : Option Addr) (l : List Rule) (c : Nat) (w : World) (hm : l.length ≤ big) (hc : l.length ≤ c) (hs : Sl ruleE w A l) :
    Calls Tryz.prog 33 #[.slice A l.length c] w fun e w' => ∃ v, e = .returned (.tuple #[v, iv (Price.erringOf l 6).2]) ∧ Own pieceE 26 w.heap.size w' v (Price.erringOf l 6).1 ∧ Below w.heap.size w w' := by
  go_enter Tryz.func33, Tryz.ntmps33
  go_wp2_with (go_at_call 75; refine (erring_spec A l c 6 w hm hc hs).mono ?_; rintro e w1 ⟨v, rfl, hown, hb1⟩)
  go_ret2
  exact ⟨v, rfl, hown, hb1⟩
theorem Torn_spec (A : Option Addr) (l : List Rule) (c : Nat) (w : World) (hm : l.length ≤ big) (hc : l.length ≤ c) (hs : Sl ruleE w A l) :
    Calls Tryz.prog 34 #[.slice A l.length c] w fun e w' => ∃ v, e = .returned (.tuple #[v, iv (Price.erringOf l 7).2]) ∧ Own pieceE 26 w.heap.size w' v (Price.erringOf l 7).1 ∧ Below w.heap.size w w' := by
  go_enter Tryz.func34, Tryz.ntmps34
  go_wp2_with (go_at_call 75; refine (erring_spec A l c 7 w hm hc hs).mono ?_; rintro e w1 ⟨v, rfl, hown, hb1⟩)
  go_ret2
  exact ⟨v, rfl, hown, hb1⟩
end Go.Proofs.YtkailkfiakagfaaGreat
