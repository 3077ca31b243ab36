/- What the proof of the claim's theorem uses, part 9. The conditions stand in each statement. -/
import Derived.WalkKit
import Derived.WalkSpells
import Derived.WalkLawsBesides
import Derived.WalkSmall
import Derived.Lib.Hide
import Derived.Laws.OwnMore
import Derived.Laws.CopyOwn
import Derived.Deep.Draws
import Derived.Laws.AppendOwnNone
import Derived.Test.YtkmcacgeecfjgaaGreatDoorProg
import Derived.Outline
import Derived.BigQuiet
import Derived.Deep.QuietTactic
import Derived.Lib.OthersKept
import Derived.Laws.EntriesVeiled
import Derived.Shelf.Strings.Builder1
import Derived.Shelf.LaysM
import Derived.Shelf.Strconv.Itoa3
import Derived.Orders
import Derived.RegionTactic
import Derived.BigRegion
import Derived.Deep.DeepCutAuto
import Derived.Maps.OwnRows
import Derived.Maps.GroupsBeside
import Derived.Deep.RegionHeld3
import Derived.Lib.SliceRun
import Derived.RangeFuncNested
import Derived.RangeFuncBound
import Derived.RangeFuncCalls
import Derived.RangeFuncLeaves
import Derived.Shelf.Abstract
import Derived.Shelf.RegionOpen
import Derived.OwnWalkIn
import Derived.TacticsInMore
import Derived.LoopNIn
import Derived.LoopIn
import Derived.Sort.QuietIn
import Derived.Deep.Quiet
import Derived.Maps.AppendAt
import Derived.Test.YtkmcacgeecfjgaaGreatDoorCards
import Derived.Test.YtkmcacgeecfjgaaGreatDoorTie
import Derived.ProofKit
import Derived.Deep.DeepHandedRow
import Derived.Lib.LaidTab
import Derived.Stop.LaidErr
import Derived.ChangeSame
import Derived.RowKit3
import Derived.ReadAgain
import Derived.OpenShut
import Derived.ChangeSlices
import Derived.Shelf.Bits.Mul64
import Derived.ArgAppend
import Derived.WalkMore
import Derived.Laws.BytesArg
import Derived.Laws.IdiomStrings
import Derived.Shelf.Spec.SlicesInsert
import Derived.Shelf.Spec.SlicesInsertGrow
import Derived.Deep.RegionLaw
import Derived.Maps.Own
import Derived.Maps.OwnOps
import Derived.Maps.OwnSet
import Derived.ChangeKeysEq
import Derived.Test.YtkmcacgeecfjgaaGreatDoorPr8
set_option linter.unusedVariables false
set_option linter.unusedSimpArgs false
section
namespace Go.Proofs.YtkmcacgeecfjgaaGreatDoor
open Go.RowKit
theorem eqNames (a b c d e f : Int) (w : World) : (Op.equalIn 10000 157 (.agg #[iv a, iv b, iv c]) (.agg #[iv d, iv e, iv f])).run Tryz.prog w = .ok (a == d && (b == e && c == f)) w := by
  have h3 : ∀ (x y : Int) (d : Nat), (Op.equalIn (d + 1) 3 (iv x) (iv y)).run Tryz.prog w = .ok (x == y) w := fun x y d => run_equalIn_int w d _ _ _ _ _ Tryz.underlying3
  have hs : (sizeOf 3).run Tryz.prog w = .ok 1 w := by kernel_rfl
  have hp0 : ∀ a b c : Int, (part 3 #[iv a, iv b, iv c] 0).run Tryz.prog w = .ok (iv a) w := fun _ _ _ => by kernel_rfl
  have hp1 : ∀ a b c : Int, (part 3 #[iv a, iv b, iv c] 1).run Tryz.prog w = .ok (iv b) w := fun _ _ _ => by kernel_rfl
  have hp2 : ∀ a b c : Int, (part 3 #[iv a, iv b, iv c] 2).run Tryz.prog w = .ok (iv c) w := fun _ _ _ => by kernel_rfl
  show (Op.equalIn (9998 + 1 + 1) _ _ _).run Tryz.prog w = _
  unfold Op.equalIn
  simp only [Sem.run_bind, run_underlying Tryz.underlying157, Result.andThen_ok, hs]
  simp only [Std.Legacy.Range.forIn_eq_forIn_range', Std.Legacy.Range.size]
  have hp : ∀ b : Bool, (pure b : Sem Bool).run Tryz.prog w = .ok b w := fun _ => rfl
  by_cases h1 : a = d <;> by_cases h2 : b = e <;> by_cases h3' : c = f <;>
    simp [List.range', hp0, hp1, hp2, h3, Result.andThen, h1, h2, h3', Sem.run_bind, hp]
theorem allowedPred (w : World) (l : List Rule) : IsPred Tryz.prog w 99 #[] Rule.v l Price.allowed :=
  ⟨callFunc_run (by kernel_rfl), fun x _ w' _ => allowed_spec x w'⟩
set_option maxRecDepth 100000 in
set_option maxHeartbeats 4000000 in
theorem check_spec (A : Option Addr) (l : List Rule) (c : Nat) (w : World) (hm : l.length ≤ big) (hc : l.length ≤ c) (hs : Sl ruleE w A l) :
    Calls Tryz.prog 35 #[.slice A l.length c] w fun e w' => e = .returned (iv (Price.check l)) ∧ Below w.heap.size w w' := by
  have hm' := hm
  unfold big at hm'
  by_cases h8 : 8 < l.length
  · go_enter Tryz.func35, Tryz.ntmps35
    go_wp2
    go_ret
    exact ⟨ret_eq (by simp [Price.check, h8]), Below.refl _ _⟩
  · cases ha : l.all Price.allowed
    · go_enter Tryz.func35, Tryz.ntmps35
      go_wp2_with (go_at_call 98; refine (everyR A l c _ #[] _ _ hm hs (allowedPred w l)).mono ?_; rintro e w1 ⟨rfl, hb1⟩; rw [ha])
      go_ret
      exact ⟨ret_eq (by simp [Price.check, h8, ha]), hb1⟩
    · go_enter Tryz.func35, Tryz.ntmps35
      go_wp2_with (go_at_call 98; refine (everyR A l c _ #[] _ _ hm hs (allowedPred w l)).mono ?_; rintro e w1 ⟨rfl, hb1⟩; rw [ha])
      have hval : Price.check l = if Price.dupIn [] l then 5 else 0 := by simp [Price.check, h8, ha]
      have HV0 := Lib.hid hval
      clear hval ha
      go_loopw [17] (fun i wr => ∃ (k : Nat), k ≤ l.length ∧ i = iv k ∧ Hid (Price.dupIn (l.take k) (l.drop k) = Price.dupIn [] l) ∧ Below w.heap.size w wr) (fun i _ => l.length - (intOf i).toNat)
      case atStart => exact ⟨0, by omega, rfl, rfl, hb1⟩
      case round =>
        obtain ⟨k, hk, rfl, hf, hbw⟩ := hrel
        have hs1 := hs.below hbw
        by_cases hlt : k < l.length
        · obtain ⟨b, off, x, rfl, hb, hx, hc0, hc1, hc2, hc3⟩ := hs1.atR hlt
          go_wp2
          obtain ⟨W2, hW2⟩ : ∃ W2, W2 = wr.alloc (.cells #[.int .i64 x.b, .int .i64 x.s, .int .i64 x.e, .int .i64 x.p] 29) := ⟨_, rfl⟩
          have hb2 : Below wr.heap.size wr W2 := by rw [hW2]; exact (Below.refl _ _).alloc (Nat.le_refl _) _
          have hr1 : W2.cell? ⟨wr.heap.size, 0, none⟩ = some (iv x.b) ∧ W2.cell? ⟨wr.heap.size, 1, none⟩ = some (iv x.s) ∧ W2.cell? ⟨wr.heap.size, 2, none⟩ = some (iv x.e) ∧ W2.cell? ⟨wr.heap.size, 3, none⟩ = some (iv x.p) := by rw [hW2]; simp [go_sem]
          have hz2 : wr.heap.size < W2.heap.size := by rw [hW2]; simp
          rw [← hW2]
          clear hW2
          obtain ⟨wo, rfl⟩ : ∃ wo : World, wo = wr := ⟨_, rfl⟩
          go_loopw [26] (fun i wr => ∃ (j : Nat), j ≤ k ∧ i = iv j ∧ Hid ((((l.take k).drop j).contains x || Price.dupIn (l.take k ++ [x]) (l.drop (k + 1))) = Price.dupIn [] l) ∧ Below W2.heap.size W2 wr) (fun i _ => k - (intOf i).toNat)
          case atStart => exact ⟨0, by omega, rfl, by rw [← hf.out, drop_at hx]; simp [Price.dupIn, Hid], Below.refl _ _⟩
          case round =>
            obtain ⟨j, hj, rfl, hg, hbi⟩ := hrel
            have hs2 := (hs1.below hb2).below hbi
            by_cases hjt : j < k
            · obtain ⟨b, off, y, hA, hb', hy, hd0, hd1, hd2, hd3⟩ := hs2.atR (k := j) (by omega)
              injection hA with hA
              injection hA with e1 e2
              subst e1 e2
              obtain ⟨hq0, hq1, hq2, hq3⟩ := hr1
              go_wp2
              obtain ⟨m, mf, ml, me, mn, mx⟩ := aft hbi (wo.heap.size) (by (try simp [go_sem]); (try omega)); (try simp [go_sem] at m mf)
              obtain ⟨W3, hW3⟩ : ∃ W3, W3 = wr.alloc (.cells #[.int .i64 y.b, .int .i64 y.s, .int .i64 y.e, .int .i64 y.p] 29) := ⟨_, rfl⟩
              have hb3 : Below wr.heap.size wr W3 := by rw [hW3]; exact (Below.refl _ _).alloc (Nat.le_refl _) _
              have hr3 : (W3.cell? ⟨wr.heap.size, 0, none⟩ = some (iv y.b) ∧ W3.cell? ⟨wr.heap.size, 1, none⟩ = some (iv y.s) ∧ W3.cell? ⟨wr.heap.size, 2, none⟩ = some (iv y.e) ∧ W3.cell? ⟨wr.heap.size, 3, none⟩ = some (iv y.p)) ∧
                (W3.cell? ⟨wo.heap.size, 0, none⟩ = some (iv x.b) ∧ W3.cell? ⟨wo.heap.size, 1, none⟩ = some (iv x.s) ∧ W3.cell? ⟨wo.heap.size, 2, none⟩ = some (iv x.e) ∧ W3.cell? ⟨wo.heap.size, 3, none⟩ = some (iv x.p)) := by rw [hW3]; simp [go_sem, m, ml, hq0, hq1, hq2, hq3]
              have hz3 : wr.heap.size < W3.heap.size := by rw [hW3]; simp
              rw [← hW3]
              clear hW3
              have hF : ∀ a : World, Below W3.heap.size W3 a → ((a.cell? ⟨wr.heap.size, 0, none⟩ = some (iv y.b) ∧ a.cell? ⟨wr.heap.size, 1, none⟩ = some (iv y.s) ∧ a.cell? ⟨wr.heap.size, 2, none⟩ = some (iv y.e) ∧ a.cell? ⟨wr.heap.size, 3, none⟩ = some (iv y.p)) ∧
                (a.cell? ⟨wo.heap.size, 0, none⟩ = some (iv x.b) ∧ a.cell? ⟨wo.heap.size, 1, none⟩ = some (iv x.s) ∧ a.cell? ⟨wo.heap.size, 2, none⟩ = some (iv x.e) ∧ a.cell? ⟨wo.heap.size, 3, none⟩ = some (iv x.p))) := fun a h => by
                have := hb3.size
                have := hbi.size
                obtain ⟨k1, _⟩ := aft h wr.heap.size ⟨hz3, hz3⟩
                obtain ⟨k2, _⟩ := aft h wo.heap.size ⟨by omega, by omega⟩
                simp only [k1, k2]
                exact hr3
              have HF := Lib.hid hF
              clear hF
              have hcd : ((l.take k).drop j).contains x = (x == y || ((l.take k).drop (j + 1)).contains x) := by
                rw [drop_at (x := y) (by rw [List.getElem?_take, if_pos hjt]; exact hy), List.contains_cons]
              have hg' := hg.out
              rw [hcd] at hg'
              have HG := Lib.hid hg'
              clear hcd hg' hg hf
              obtain ⟨ya, yb, yc, yd⟩ := y
              obtain ⟨xa, xb, xc, xd⟩ := x
              dsimp only at *
              have heq : ∀ w, (Op.equalIn 10000 157 (.agg #[iv xa, iv xb, iv xc]) (.agg #[iv ya, iv yb, iv yc])).run Tryz.prog w = .ok (xa == ya && (xb == yb && xc == yc)) w := eqNames xa xb xc ya yb yc
              cases hn : (xa == ya && (xb == yb && xc == yc))
              · rw [hn] at heq
                refine wp_havoc_lit (by kernel_rfl) (by kernel_rfl) ?_
                repeat (first
                  | (refine hv_skip (by rfl) ?_; simp only [Act.put, List.setIfInBounds_toArray, List.set_cons_zero, List.set_cons_succ])
                  | (apply hv_val (by rfl); (intro w hw; have F := HF.out w hw; go_simp; exact rfl); simp only [Act.put, List.setIfInBounds_toArray, List.set_cons_zero, List.set_cons_succ])
                  | (apply hv_call (by rfl); (intro w hw; have F := HF.out w hw; go_simp; exact ⟨rfl, rfl⟩); (intro w hw; have F := HF.out w hw; with_reducible exact names_spec ⟨_, _, _, _⟩ w); simp only [Act.put, List.setIfInBounds_toArray, List.set_cons_zero, List.set_cons_succ]))
                refine hv_nil ?_
                rintro w4 hb4
                go_wp2
                go_roundw
                case rel => exact ⟨j + 1, by omega, by go_num, by
                  have := HG.out
                  rw [show ((⟨xa, xb, xc, xd⟩ : Rule) == ⟨ya, yb, yc, yd⟩) = false from by rw [← Bool.not_eq_true, beq_iff_eq]; intro e; injection e with e1 e2 e3; subst e1 e2 e3; simp at hn, Bool.false_or] at this
                  exact this, (hbi.next hb3 (Nat.le_refl _)).next hb4 (Nat.le_refl _)⟩
                case measure => simp [intOf]; omega
              · rw [hn] at heq
                simp only [Bool.and_eq_true, beq_iff_eq] at hn
                obtain ⟨rfl, rfl, rfl⟩ := hn
                by_cases hp : xd = yd
                · subst hp
                  refine wp_havoc_lit (by kernel_rfl) (by kernel_rfl) ?_
                  repeat (first
                    | (refine hv_skip (by rfl) ?_; simp only [Act.put, List.setIfInBounds_toArray, List.set_cons_zero, List.set_cons_succ])
                    | (apply hv_val (by rfl); (intro w hw; have F := HF.out w hw; go_simp; exact rfl); simp only [Act.put, List.setIfInBounds_toArray, List.set_cons_zero, List.set_cons_succ])
                    | (apply hv_call (by rfl); (intro w hw; have F := HF.out w hw; go_simp; exact ⟨rfl, rfl⟩); (intro w hw; have F := HF.out w hw; with_reducible exact names_spec ⟨_, _, _, _⟩ w); simp only [Act.put, List.setIfInBounds_toArray, List.set_cons_zero, List.set_cons_succ]))
                  refine hv_nil ?_
                  rintro w4 hb4
                  go_wp2
                  go_ret
                  exact ⟨ret_eq (by rw [HV0.out, ← HG.out]; simp), hbw.next ((hb2.next (hbi.next hb3 (Nat.le_refl _)) (Nat.le_refl _)).next hb4 (Nat.le_refl _)) (Nat.le_refl _)⟩
                · have hp' : (xd == yd) = false := by simpa using hp
                  refine wp_havoc_lit (by kernel_rfl) (by kernel_rfl) ?_
                  repeat (first
                    | (refine hv_skip (by rfl) ?_; simp only [Act.put, List.setIfInBounds_toArray, List.set_cons_zero, List.set_cons_succ])
                    | (apply hv_val (by rfl); (intro w hw; have F := HF.out w hw; go_simp; exact rfl); simp only [Act.put, List.setIfInBounds_toArray, List.set_cons_zero, List.set_cons_succ])
                    | (apply hv_call (by rfl); (intro w hw; have F := HF.out w hw; go_simp; exact ⟨rfl, rfl⟩); (intro w hw; have F := HF.out w hw; with_reducible exact names_spec ⟨_, _, _, _⟩ w); simp only [Act.put, List.setIfInBounds_toArray, List.set_cons_zero, List.set_cons_succ]))
                  refine hv_nil ?_
                  rintro w4 hb4
                  go_wp2
                  go_roundw
                  case rel => exact ⟨j + 1, by omega, by go_num, by
                    have := HG.out
                    rw [show ((⟨xa, xb, xc, xd⟩ : Rule) == ⟨xa, xb, xc, yd⟩) = false from by rw [← Bool.not_eq_true, beq_iff_eq]; intro e; injection e with e1 e2 e3 e4; exact hp e4, Bool.false_or] at this
                    exact this, (hbi.next hb3 (Nat.le_refl _)).next hb4 (Nat.le_refl _)⟩
                  case measure => simp [intOf]; omega
            · have hz := hg.out
              rw [List.drop_eq_nil_of_le (by simp; omega), List.contains_nil, Bool.false_or] at hz
              have HZ := Lib.hid hz
              clear hz hg hf
              go_wp2
              go_roundw
              case rel => exact ⟨k + 1, by omega, by go_num, by rw [take_at hx]; exact HZ.out, (hbw.next hb2 (Nat.le_refl _)).next (hbi.mono (by have := hb2.size; omega)) (Nat.le_refl _)⟩
              case measure => simp [intOf]; omega
        · have hz := hf.out
          rw [drop_end hlt] at hz
          have HZ := Lib.hid hz
          clear hz hf
          go_wp2
          go_ret
          exact ⟨ret_eq (by rw [HV0.out, ← HZ.out]; rfl), hbw⟩
end Go.Proofs.YtkmcacgeecfjgaaGreatDoor
end
section
namespace Go.Proofs.YtkmcacgeecfjgaaGreatDoor
namespace Fl
open Go.RowKit
set_option maxRecDepth 100000
set_option maxHeartbeats 2000000 in
theorem mod26 (v : Int) (w : World) (h0 : 0 ≤ v) (h9 : v ≤ 1000) : Calls Tryz.prog 11 #[iv v, iv 26] w fun e w' => e = .returned (iv (v % 26)) ∧ w = w' := by
  have h1 : Int.tmod v 26 = v % 26 := Int.tmod_eq_emod_of_nonneg h0
  have h2 : IntKind.i64.wrap (v % 26) = v % 26 := IntWalk.i64_in _ (by omega)
  have h3 : IntKind.i64.wrap (v % 26 + 26) = v % 26 + 26 := IntWalk.i64_in _ (by omega)
  have h4 : Int.tmod (v % 26 + 26) 26 = v % 26 := by rw [Int.tmod_eq_emod_of_nonneg (by omega)]; omega
  go_enter Tryz.func11, Tryz.ntmps11
  go_wp2_with fail
  go_ret
  exact ⟨by simp [h1, h2, h3, h4], rfl⟩
/-- What is written of a rule after some of its numbers. -/
def nums (r : Rule) : List Int := [r.b, r.s, r.e, r.p]
def upTo (r : Rule) (t : Nat) : ByteArray := ((nums r).take t).foldl (fun s n => s ++ File.two n) ⟨#[]⟩
theorem upTo_all (r : Rule) : upTo r 4 = File.rline r := rfl
theorem upTo_next {r : Rule} {t : Nat} {n : Int} (h : (nums r)[t]? = some n) : upTo r (t + 1) = upTo r t ++ File.two n := by
  unfold upTo
  rw [take_at h, List.foldl_append]
  rfl
theorem upTo_size (r : Rule) : ∀ t, t ≤ 4 → (upTo r t).size ≤ 2 * t := by
  intro t
  induction t with
  | zero => intro _; exact Nat.le_refl 0
  | succ t ih =>
    intro ht
    obtain ⟨n, hn⟩ : ∃ n, (nums r)[t]? = some n := ⟨_, List.getElem?_eq_getElem (show t < (nums r).length by show t < 4; omega)⟩
    rw [upTo_next hn, ByteArray.size_append, File.two_size]
    have := ih (by omega)
    omega
set_option maxHeartbeats 4000000 in
theorem text_spec (A : Option Addr) (l : List Rule) (c : Nat) (w : World) (hm : l.length ≤ 100) (hs : Sl ruleE w A l) (hr : ∀ r ∈ l, ∀ n ∈ nums r, -1 ≤ n ∧ n ≤ 600) :
    Calls Tryz.prog 10 #[.slice A l.length c] w fun e w' => ∃ v, e = .returned v ∧ Own strE 9 w.heap.size w' v (l.map File.rline) ∧ Below w.heap.size w w' := by
  have HR := Lib.hid hr
  clear hr
  go_enter Tryz.func10, Tryz.ntmps10
  go_wp2_with fail
  go_loopw [3, 5, 6, 8, 11] (fun u _ _ _ i wr => ∃ k : Nat, k ≤ l.length ∧ i = iv (k : Int) ∧ Hid (Own strE 9 w.heap.size wr u ((l.take k).map File.rline)) ∧ Below w.heap.size w wr) (fun _ _ _ _ i _ => l.length - (intOf i).toNat)
  case atStart => exact ⟨0, Nat.zero_le _, rfl, Own.nil, Below.refl _ _⟩
  case round =>
    obtain ⟨k, hk, rfl, HO, hbr⟩ := hrel
    by_cases hlt : k < l.length
    · have hki : (k : Int) < (l.length : Int) := by omega
      obtain ⟨b, off, x, rfl, hb, hx, hc0, hc1, hc2, hc3⟩ := (hs.below hbr).atR hlt
      have HNX := Lib.hid (HR.out x (mem_at hx))
      have HTK := Lib.hid (take_at hx)
      clear hx
      have hb1 : Below wr.heap.size wr ((wr.alloc (.cells #[iv x.b, iv x.s, iv x.e, iv x.p] 29)).alloc (.cells #[iv x.b, iv x.s, iv x.e, iv x.p] 3)) := ((Below.refl _ _).alloc (Nat.le_refl _) _).alloc (by simp) _
      have hN : Blk ((wr.alloc (.cells #[iv x.b, iv x.s, iv x.e, iv x.p] 29)).alloc (.cells #[iv x.b, iv x.s, iv x.e, iv x.p] 3)) (wr.heap.size + 1) 3 #[iv x.b, iv x.s, iv x.e, iv x.p] := Blk.new_ _ _ _ (by simp)
      have HO1 := Lib.hid (HO.out.below hb1)
      have hb01 := hbr.next hb1 (Nat.le_refl _)
      go_wp2_with fail
      generalize (wr.alloc (.cells #[iv x.b, iv x.s, iv x.e, iv x.p] 29)).alloc (.cells #[iv x.b, iv x.s, iv x.e, iv x.p] 3) = w4 at *
      generalize wr.heap.size + 1 = gN at *
      clear hc0 hc1 hc2 hc3 HO hb1
      go_loopw [6, 8, 25] (fun s _ j wx => ∃ t : Nat, t ≤ 4 ∧ j = iv (t : Int) ∧ s = .string (upTo x t) ∧ Below w4.heap.size w4 wx) (fun _ _ j _ => 4 - (intOf j).toNat)
      case atStart => exact ⟨0, by omega, rfl, rfl, Below.refl _ _⟩
      case round =>
        obtain ⟨t, ht, rfl, rfl, hbx⟩ := hrel
        by_cases ht4 : t < 4
        · have hti : (t : Int) < 4 := by omega
          obtain ⟨n, hn⟩ : ∃ n, (nums x)[t]? = some n := ⟨_, List.getElem?_eq_getElem (show t < (nums x).length by show t < 4; omega)⟩
          have hcn := (hN.under hbx).cell t
          have hce : (#[iv x.b, iv x.s, iv x.e, iv x.p] : Array Value)[t]? = some (iv n) := by
            have : (#[iv x.b, iv x.s, iv x.e, iv x.p] : Array Value) = ((nums x).map iv).toArray := rfl
            rw [this, List.getElem?_toArray, List.getElem?_map, hn]; rfl
          rw [hce] at hcn
          have hnl := (hN.under hbx).lt
          obtain ⟨n1, n2⟩ := HNX.out n (mem_at hn)
          have HNEXT := Lib.hid (upTo_next hn)
          have hsz := upTo_size x t (by omega)
          obtain ⟨S, hS⟩ : ∃ S, S = upTo x t := ⟨_, rfl⟩
          rw [← hS] at HNEXT hsz
          rw [← hS]
          have e1 : IntKind.i64.wrap (n + 1) = n + 1 := IntWalk.i64_in _ (by omega)
          have e2 : Int.tdiv (n + 1) 26 = (n + 1) / 26 := Int.tdiv_eq_ediv_of_nonneg (by omega)
          have e3 : IntKind.i64.wrap ((n + 1) / 26) = (n + 1) / 26 := IntWalk.i64_in _ (by omega)
          have e4 : IntKind.i64.wrap (97 + (n + 1) % 26) = 97 + (n + 1) % 26 := IntWalk.i64_in _ (by omega)
          have e5 : IntKind.i64.wrap (97 + (n + 1) / 26 % 26) = 97 + (n + 1) / 26 % 26 := IntWalk.i64_in _ (by omega)
          have e6 : IntKind.u8.wrap (97 + (n + 1) % 26) = 97 + (n + 1) % 26 := IntWalk.u8_in _ (by omega)
          have e7 : IntKind.u8.wrap (97 + (n + 1) / 26 % 26) = 97 + (n + 1) / 26 % 26 := IntWalk.u8_in _ (by omega)
          have HM1 := Lib.hid fun W => mod26 (n + 1) W (by omega) (by omega)
          have HM2 := Lib.hid fun W => mod26 ((n + 1) / 26) W (by omega) (by omega)
          have hcv := conv_run (c := 2) (Sl.fresh byteE wr 5 #[.int .u8 (97 + (n + 1) % 26), .int .u8 (97 + (n + 1) / 26 % 26)] [97 + (n + 1) % 26, 97 + (n + 1) / 26 % 26] rfl (by simp [maxLen]))
          simp only [List.length_cons, List.length_nil, Nat.zero_add, Nat.reduceAdd] at hcv
          have hb5 : Below wr.heap.size wr (wr.alloc (.cells #[.int .u8 (97 + (n + 1) % 26), .int .u8 (97 + (n + 1) / 26 % 26)] 5)) := (Below.refl _ _).alloc (Nat.le_refl _) _
          have htw := File.two_size n
          obtain ⟨T2, hT2⟩ : ∃ T2, T2 = strOfNums [97 + (n + 1) % 26, 97 + (n + 1) / 26 % 26] := ⟨_, rfl⟩
          have HT2 : Hid (T2 = File.two n) := Lib.hid hT2
          have hT2s : T2.size = 2 := by rw [hT2, strOfNums_size]; rfl
          rw [← hT2] at hcv
          clear hn hce hS hT2 htw
          go_wp2_with fail
          refine (HM1.out wr).mono ?_
          rintro e w5 ⟨rfl, rfl⟩
          go_wp2_with fail
          refine (HM2.out _).mono ?_
          rintro e w6 ⟨rfl, rfl⟩
          go_wp2_with fail
          go_roundw
          case rel => exact ⟨t + 1, by omega, by go_num, by rw [HNEXT.out, ← HT2.out], hbx.next hb5 (Nat.le_refl _)⟩
          case measure => simp [intOf]; omega
        · have hti : ¬ (t : Int) < 4 := by omega
          have ht44 : t = 4 := by omega
          obtain ⟨S, hS⟩ : ∃ S, S = upTo x t := ⟨_, rfl⟩
          have HL : Hid ((l.take k).map File.rline ++ [S] = (l.take (k + 1)).map File.rline) := Lib.hid (by rw [hS, HTK.out, List.map_append, ht44, upTo_all]; rfl)
          rw [← hS]
          have hO := HO1.out.below hbx
          have hb0x := hb01.next hbx (Nat.le_refl _)
          have hsz := hb0x.size
          have hlen : ((l.take k).map File.rline).length + 1 ≤ big := by rw [List.length_map, List.length_take]; unfold big; omega
          clear hS ht44 HO1
          go_wp2_with (at_builtin; refine wpApp1 strE tyStrs rfl _ _ rfl hO S rfl rfl rfl hsz hlen ?_; intro v5 w5 hown5 hb5 hk5)
          go_roundw
          case rel => exact ⟨k + 1, by omega, by go_num, by rw [← HL.out]; exact hown5, hb0x.trans hb5⟩
          case measure => simp [intOf]; omega
    · have hki : ¬ (k : Int) < (l.length : Int) := by omega
      have HO2 : Hid (Own strE 9 w.heap.size wr u3 (l.map File.rline)) := Lib.hid (by have := HO.out; rwa [List.take_of_length_le (by omega)] at this)
      clear HO
      go_wp2_with fail
      go_ret
      exact ⟨_, rfl, HO2.out, hbr⟩
end Fl
end Go.Proofs.YtkmcacgeecfjgaaGreatDoor
end
section
namespace Go.Proofs.YtkmcacgeecfjgaaGreatDoor
open Go.RowKit
set_option maxRecDepth 100000
theorem tyRules : SlTy Tryz.prog 23 29 4 := slTy_of (z := .agg #[iv 0, iv 0, iv 0, iv 0]) (bytes := 32) Tryz.underlying23 (by kernel_rfl) rfl (by decide)
theorem cloneI (A : Option Addr) (l : List Int) (c : Nat) (w : World) (hm : l.length ≤ big) (hs : Sl intE w A l) :
    Calls Tryz.prog 102 #[.slice A l.length c] w fun e w' => ∃ v, e = .returned v ∧ Own intE 3 w.heap.size w' v l ∧ Below w.heap.size w w' := by
  cases A with
  | none =>
    have hl : l = [] := by
      by_cases h : l = []
      · exact h
      · obtain ⟨_, _, h, _⟩ := hs h; cases h
    subst hl
    have hnil := fun w => Lib.run_eql_slice_nil (P := Tryz.prog) w 33 3 none 0 c 0 0 Tryz.underlying33
    go_enter Tryz.func102, Tryz.ntmps102
    go_wp2
    go_ret
    exact ⟨_, rfl, Own.nil, Below.refl _ _⟩
  | some ad =>
    have hnil := fun w => Lib.run_eql_slice_nil (P := Tryz.prog) w 33 3 (some ad) l.length c 0 0 Tryz.underlying33
    go_enter Tryz.func102, Tryz.ntmps102
    go_wp2_with (at_builtin; refine wpAppS intE tyInts rfl _ _ rfl (Own.empty (Nat.le_refl _)) (hs.alloc _) rfl rfl (by simp) (by simpa using hm) ?_; intro v1 w1 hown1 hb1 _)
    go_ret
    exact ⟨_, rfl, by simpa using hown1, ((Below.refl _ _).alloc (Nat.le_refl _) _).trans hb1⟩
theorem cloneR (A : Option Addr) (l : List Rule) (c : Nat) (w : World) (hm : l.length ≤ big) (hs : Sl ruleE w A l) :
    Calls Tryz.prog 36 #[.slice A l.length c] w fun e w' => ∃ v, e = .returned v ∧ Own ruleE 29 w.heap.size w' v l ∧ Below w.heap.size w w' := by
  cases A with
  | none =>
    have hl : l = [] := by
      by_cases h : l = []
      · exact h
      · obtain ⟨_, _, h, _⟩ := hs h; cases h
    subst hl
    have hnil := fun w => Lib.run_eql_slice_nil (P := Tryz.prog) w 23 29 none 0 c 0 0 Tryz.underlying23
    go_enter Tryz.func36, Tryz.ntmps36
    go_wp2
    go_ret
    exact ⟨_, rfl, Own.nil, Below.refl _ _⟩
  | some ad =>
    have hnil := fun w => Lib.run_eql_slice_nil (P := Tryz.prog) w 23 29 (some ad) l.length c 0 0 Tryz.underlying23
    go_enter Tryz.func36, Tryz.ntmps36
    go_wp2_with (at_builtin; refine wpAppS ruleE tyRules rfl _ _ rfl (Own.empty (Nat.le_refl _)) (hs.alloc _) rfl rfl (by simp) (by simpa using hm) ?_; intro v1 w1 hown1 hb1 _)
    go_ret
    exact ⟨_, rfl, by simpa using hown1, ((Below.refl _ _).alloc (Nat.le_refl _) _).trans hb1⟩
end Go.Proofs.YtkmcacgeecfjgaaGreatDoor
namespace Go.Proofs.YtkmcacgeecfjgaaGreatDoor
open Go.RowKit
set_option maxRecDepth 100000
/-- What price.Price answers. -/
def Price.price (l : List Rule) (q : Piece) : Int × Int := if Price.check l = 0 then (if Price.isP q then Price.priced l q else (0, 3)) else (0, Price.check l)
end Go.Proofs.YtkmcacgeecfjgaaGreatDoor
end
section
namespace Go.Proofs.YtkmcacgeecfjgaaGreatDoor
open Go.RowKit
set_option maxRecDepth 100000
theorem Own.some_ {α : Type} {E : Enc α} {e : TypeId} {B : Nat} {w : World} {v : Value} {xs : List α} (h : Own E e B w v xs) (hx : xs ≠ []) : ∃ g c, v = .slice (some ⟨g, 0, none⟩) xs.length c := by
  rcases h.2 with ⟨_, hn⟩ | ⟨g, cap, cur, hv, _⟩
  · exact absurd (List.eq_nil_of_length_eq_zero hn) hx
  · exact ⟨g, cap, hv⟩
end Go.Proofs.YtkmcacgeecfjgaaGreatDoor
end
section
namespace Go.Proofs.YtkmcacgeecfjgaaGreatDoor
open Go.RowKit Go.Shelf
set_option maxRecDepth 100000
attribute [local go_sem] Oper.semAt_some
def Price.pieceAt (n : Nat) : Piece := ⟨(n / 15 : Nat), (n / 3 % 5 : Nat), (n % 3 : Nat)⟩
def Price.allPieces : List Piece := (List.range 60).map Price.pieceAt
theorem Price.allPieces_take {m : Nat} (h : m < 60) : Price.allPieces.take (m + 1) = Price.allPieces.take m ++ [Price.pieceAt m] := by
  simp only [Price.allPieces, ← List.map_take, List.take_range]
  rw [Nat.min_eq_left (by omega), Nat.min_eq_left (by omega), List.range_succ]
  simp
theorem Price.allPieces_length : Price.allPieces.length = 60 := by simp [Price.allPieces]
theorem Price.pieceAt_eq {b s e : Nat} (hs : s < 5) (he : e < 3) : Price.pieceAt (15 * b + 3 * s + e) = ⟨b, s, e⟩ := by
  unfold Price.pieceAt
  have h1 : (15 * b + 3 * s + e) / 15 = b := by omega
  have h2 : (15 * b + 3 * s + e) / 3 % 5 = s := by omega
  have h3 : (15 * b + 3 * s + e) % 3 = e := by omega
  rw [h1, h2, h3]
set_option maxHeartbeats 2000000 in
theorem pieces1_in (F : Fence) (n : Nat) (h7 : F.fn 157) (hro : F.round = none) (hn : 1 ≤ n) (l : Nat) (Kp : World → World → Prop) (J Jx : List Piece → World → Prop)
    (hY : ∀ pre x W, J pre W → pre.length < 60 → YieldAt F (n - 1) Tryz.prog l #[Piece.v x] W fun e W' =>
      (e = .returned (.bool true) ∧ J (pre ++ [x]) W' ∧ Kp W W') ∨ (e = .returned (.bool false) ∧ Jx (pre ++ [x]) W'))
    (W : World) (h0 : J [] W) :
    CallsIn F n Tryz.prog 157 #[.func (.yield l) #[] #[]] W fun e W' => (∃ v, e = .returned v) ∧
      ((∃ ys, ys = Price.allPieces ∧ J ys W') ∨ (∃ pre, pre <+: Price.allPieces ∧ Jx pre W')) := by
  refine callsIn_of_wp Tryz.func157 rfl h7 ?_ hro
  simp only [Tryz.ntmps157, List.size_toArray, List.length_cons, List.length_nil, Nat.reduceAdd, Nat.reduceSub, Array.replicate_succ, Array.replicate_zero, List.push_toArray, List.append_toArray, List.nil_append, List.cons_append]
  gi_wp2
  gi_loopw [5] (fun i wr => ∃ k : Nat, k ≤ 4 ∧ i = .int .i64 k ∧ J (Price.allPieces.take (15 * k)) wr) (fun i _ => 4 - (intOf i).toNat)
  case atStart => exact ⟨0, by omega, rfl, h0⟩
  case round =>
    obtain ⟨b, hb, rfl, hJ1⟩ := hrel
    by_cases hlt : b < 4
    · have hb1 : (b : Int) < 4 := by omega
      gi_wp2
      gi_loopw [8] (fun i wr => ∃ k : Nat, k ≤ 5 ∧ i = .int .i64 k ∧ J (Price.allPieces.take (15 * b + 3 * k)) wr) (fun i _ => 5 - (intOf i).toNat)
      case atStart => exact ⟨0, by omega, rfl, hJ1⟩
      case round =>
        obtain ⟨s, hs, rfl, hJ2⟩ := hrel
        by_cases hlt2 : s < 5
        · have hs1 : (s : Int) < 5 := by omega
          gi_wp2
          gi_loopw [11] (fun i wr => ∃ k : Nat, k ≤ 3 ∧ i = .int .i64 k ∧ J (Price.allPieces.take (15 * b + 3 * s + k)) wr) (fun i _ => 3 - (intOf i).toNat)
          case atStart => exact ⟨0, by omega, rfl, hJ2⟩
          case round =>
            obtain ⟨e, he, rfl, hJ3⟩ := hrel
            by_cases hlt3 : e < 3
            · have he1 : (e : Int) < 3 := by omega
              have hm : 15 * b + 3 * s + e < 60 := by omega
              obtain ⟨fn, tmps, assign, body, hy, hR⟩ := hY _ (Price.pieceAt (15 * b + 3 * s + e)) _ hJ3 (by rw [List.length_take, Price.allPieces_length]; omega)
              rw [← Price.allPieces_take hm] at hR
              rw [Price.pieceAt_eq hlt2 hlt3] at hy
              gi_wp2
              refine hR.mono ?_
              rintro x W3 (⟨rfl, hJ4, hk3⟩ | ⟨rfl, hJx3⟩)
              · gi_wp2
                go_roundw
                case rel => exact ⟨e + 1, by omega, by go_num, hJ4⟩
                case measure => simp [intOf]; omega
              · gi_wp2
                refine bodyPost_ret (results_none rfl _ _ _) rfl ?_
                exact ⟨⟨_, rfl⟩, .inr ⟨_, List.take_prefix _ _, hJx3⟩⟩
            · obtain rfl : e = 3 := by omega
              gi_wp2
              go_roundw
              case rel => exact ⟨s + 1, by omega, by go_num, by rw [show 15 * b + 3 * (s + 1) = 15 * b + 3 * s + 3 by omega]; exact hJ3⟩
              case measure => simp [intOf]; omega
        · obtain rfl : s = 5 := by omega
          gi_wp2
          go_roundw
          case rel => exact ⟨b + 1, by omega, by go_num, by rw [show 15 * (b + 1) = 15 * b + 3 * 5 by omega]; exact hJ2⟩
          case measure => simp [intOf]; omega
    · obtain rfl : b = 4 := by omega
      gi_wp2
      go_end0
      exact ⟨⟨_, rfl⟩, .inl ⟨_, List.take_of_length_le (by rw [Price.allPieces_length]; omega), hJ1⟩⟩
end Go.Proofs.YtkmcacgeecfjgaaGreatDoor
namespace Go.Proofs.YtkmcacgeecfjgaaGreatDoor
open Go.RowKit Go.Shelf
set_option maxRecDepth 100000
attribute [local go_sem] Oper.semAt_some
theorem pieces_in (F : Fence) (n : Nat) (h : F.fn 103) (hro : F.round = none) (w : World) : CallsIn F n Tryz.prog 103 #[] w fun e w' => e = .returned (.func (.func 157) #[] #[]) ∧ w' = w := by
  have hmk : ∀ (fn : Fn) (first cap : Array Value) (w : World), (Instr.makeFunc fn first cap).run Tryz.prog w = .ok (.func fn first cap) w := fun _ _ _ _ => rfl
  refine callsIn_of_wp Tryz.func103 rfl h ?_ hro
  simp only [Tryz.ntmps103, List.size_toArray, List.length_cons, List.length_nil, Nat.reduceAdd, Nat.reduceSub, Array.replicate_succ, Array.replicate_zero, List.push_toArray, List.append_toArray, List.nil_append, List.cons_append]
  gi_wp2
  go_ret
  exact ⟨rfl, rfl⟩
theorem pieces_stops (F : Fence) (n : Nat) (h : F.fn 157) (hro : F.round = none) (hn : 1 ≤ n) (Kp : World → World → Prop) (w : World) :
    SeqStopsK F n Tryz.prog 157 #[] (fun x : Piece => #[x.v]) Kp (fun ys => ys = Price.allPieces) (fun pre => pre <+: Price.allPieces) 60 w := fun l J Jx W _ _ _ hY h0 =>
  pieces1_in F n h hro hn l Kp J Jx hY W h0
theorem blk_ownF {β : Type} (B' g : Nat) (t : TypeId) (f : β → Array Value) : OwnFrom B' (fun s W => Blk W g t (f s)) := fun s X Y row hs hg hrow => by
  have hs' : X.heap[g]? = some (.cells (f s) t (0, 0)) := hs
  exact (hg.block g hs.lt (fun e' => by obtain ⟨_, o, ho, hc⟩ := hrow g e'.symm; rw [hs'] at ho; cases ho; cases hc)).trans hs'
theorem keepsFrom_below {W W' : World} (B : Nat) (h : Below W.heap.size W W') : KeepsFrom B W W' := ⟨h.size, fun k o _ hk _ => (h.block k (Array.getElem?_eq_some_iff.1 hk).1).trans hk⟩
theorem Blk.putObj {W : World} {g D : Nat} {t : TypeId} {cs : Array Value} (h : Blk W g t cs) (hne : g ≠ D) (o : Obj) : Blk (W.putObj D o) g t cs := ((grownBy_putObj' W D o).block g h.lt (fun e => hne (by cases e; rfl))).trans h
theorem below_putObj {n₀ : Nat} {w W : World} {D : Nat} (h : Below n₀ w W) (hD : n₀ ≤ D) (hn : n₀ ≤ w.heap.size) (o : Obj) : Below n₀ w (W.putObj D o) := h.grown (grownBy_putObj' W D o) (Nat.le_trans hn h.size) (fun k e => by cases e; exact hD)
def Price.differs (a b : List Rule) (p : Piece) : Bool := (Price.priced a p).1 != (Price.priced b p).1 || (Price.priced a p).2 != (Price.priced b p).2
def Price.differ (a b : List Rule) : Piece × Int := match Price.allPieces.find? (Price.differs a b) with
  | some p => (p, 0)
  | none => (⟨0, 0, 0⟩, 6)
set_option maxHeartbeats 2000000 in
theorem differ_spec (A : Option Addr) (a : List Rule) (c : Nat) (A' : Option Addr) (b : List Rule) (c' : Nat) (w : World) (hm : a.length ≤ big) (hs : Sl ruleE w A a) (hp : ∀ r ∈ a, 0 ≤ r.p ∧ r.p ≤ 500) (hm' : b.length ≤ big) (hs' : Sl ruleE w A' b) (hp' : ∀ r ∈ b, 0 ≤ r.p ∧ r.p ≤ 500) :
    Calls Tryz.prog 39 #[.slice A a.length c, .slice A' b.length c'] w fun e w' => e = .returned (.tuple #[(Price.differ a b).1.v, iv (Price.differ a b).2]) ∧ Below w.heap.size w w' := by
  refine (callsIn_wide (n := 20)).1 ?_
  refine callsIn_of_wp_marks Tryz.func39 rfl trivial ?_ rfl
  simp only [Tryz.ntmps39, List.size_toArray, List.length_cons, List.length_nil, Nat.reduceAdd, Nat.reduceSub, Array.replicate_succ, Array.replicate_zero, List.push_toArray, List.append_toArray, List.nil_append, List.cons_append]
  gi_wp2_with (refine ⟨trivial, ?_⟩; gi_at_call 103; refine (pieces_in Fence.wide _ trivial rfl _).mono ?_; rintro e w' ⟨rfl, rfl⟩)
  have k2 : Blk (((w.alloc (.cells #[.slice A a.length c] 23)).alloc (.cells #[.slice A' b.length c'] 23)).alloc (.cells #[.int .i64 0, .int .i64 0, .int .i64 0] 78) |>.alloc (.cells #[.int .i64 0] 30)) w.heap.size 23 #[.slice A a.length c] := (((Blk.new w _ _).alloc _).alloc _).alloc _
  have k3 : Blk (((w.alloc (.cells #[.slice A a.length c] 23)).alloc (.cells #[.slice A' b.length c'] 23)).alloc (.cells #[.int .i64 0, .int .i64 0, .int .i64 0] 78) |>.alloc (.cells #[.int .i64 0] 30)) (w.heap.size + 1) 23 #[.slice A' b.length c'] := ((Blk.new_ _ _ _ (by simp)).alloc _).alloc _
  have k4 : Blk (((w.alloc (.cells #[.slice A a.length c] 23)).alloc (.cells #[.slice A' b.length c'] 23)).alloc (.cells #[.int .i64 0, .int .i64 0, .int .i64 0] 78) |>.alloc (.cells #[.int .i64 0] 30)) (w.heap.size + 1 + 1) 78 #[.int .i64 0, .int .i64 0, .int .i64 0] := (Blk.new_ _ _ _ (by simp)).alloc _
  have k5 : Blk (((w.alloc (.cells #[.slice A a.length c] 23)).alloc (.cells #[.slice A' b.length c'] 23)).alloc (.cells #[.int .i64 0, .int .i64 0, .int .i64 0] 78) |>.alloc (.cells #[.int .i64 0] 30)) (w.heap.size + 1 + 1 + 1) 30 #[.int .i64 0] := Blk.new_ _ _ _ (by simp)
  have hB0 : Below w.heap.size w (((w.alloc (.cells #[.slice A a.length c] 23)).alloc (.cells #[.slice A' b.length c'] 23)).alloc (.cells #[.int .i64 0, .int .i64 0, .int .i64 0] 78) |>.alloc (.cells #[.int .i64 0] 30)) := ((((Below.refl _ w).alloc (Nat.le_refl _) _).alloc (by simp) _).alloc (by simp; omega) _).alloc (by simp; omega) _
  have hsz : (((w.alloc (.cells #[.slice A a.length c] 23)).alloc (.cells #[.slice A' b.length c'] 23)).alloc (.cells #[.int .i64 0, .int .i64 0, .int .i64 0] 78) |>.alloc (.cells #[.int .i64 0] 30)).heap.size = w.heap.size + 4 := by simp
  generalize (((w.alloc (.cells #[.slice A a.length c] 23)).alloc (.cells #[.slice A' b.length c'] 23)).alloc (.cells #[.int .i64 0, .int .i64 0, .int .i64 0] 78) |>.alloc (.cells #[.int .i64 0] 30)) = W0 at *
  refine wpIn_rangeFunc_ownH (F := Fence.wide) rfl (by omega) (gf := 157) (lb := #[]) rfl trivial (enters_of Tryz.func157 (by kernel_rfl) rfl)
    (pieces_stops Fence.wide (20 - 1) trivial rfl (by omega) (Below w.heap.size) W0) belowK_t (belowK_b (by omega)) (Below.refl _ _) (fun _ => rfl)
    (fun pre W => (((((∀ p ∈ pre, Price.differs a b p = false) ∧ Blk W w.heap.size 23 #[.slice A a.length c]) ∧ Blk W (w.heap.size + 1) 23 #[.slice A' b.length c']) ∧ Blk W (w.heap.size + 1 + 1) 78 #[.int .i64 0, .int .i64 0, .int .i64 0]) ∧ Blk W (w.heap.size + 1 + 1 + 1) 30 #[.int .i64 0]) ∧ Below w.heap.size w W)
    (fun co pre W => (((co = .ret ∧ ∃ q p, pre = q ++ [p] ∧ (∀ x ∈ q, Price.differs a b x = false) ∧ Price.differs a b p = true) ∧ Blk W (w.heap.size + 1 + 1) 78 #[iv (pre.getLastD ⟨0, 0, 0⟩).b, iv (pre.getLastD ⟨0, 0, 0⟩).s, iv (pre.getLastD ⟨0, 0, 0⟩).e]) ∧ Blk W (w.heap.size + 1 + 1 + 1) 30 #[.int .i64 0]) ∧ Below w.heap.size w W)
    (OwnFrom.and (OwnFrom.and (OwnFrom.and (OwnFrom.and (OwnFrom.and (ownFrom_pure _ _) (blk_ownF _ _ _ _)) (blk_ownF _ _ _ _)) (blk_ownF _ _ _ _)) (blk_ownF _ _ _ _)) (ownFrom_below (Nat.le_refl _) (by omega)))
    (fun co => OwnFrom.and (OwnFrom.and (OwnFrom.and (ownFrom_pure _ _) (blk_ownF _ _ _ (fun pre : List Piece => #[iv (pre.getLastD ⟨0, 0, 0⟩).b, iv (pre.getLastD ⟨0, 0, 0⟩).s, iv (pre.getLastD ⟨0, 0, 0⟩).e]))) (blk_ownF _ _ _ _)) (ownFrom_below (Nat.le_refl _) (by omega)))
    ⟨⟨⟨⟨⟨by simp, k2⟩, k3⟩, k4⟩, k5⟩, hB0⟩
    (fun x a' W => ∃ Bx, w.heap.size + 4 ≤ Bx ∧ Blk W Bx 78 #[iv x.b, iv x.s, iv x.e] ∧ a' = { tmps := #[.slice A a.length c, .slice A' b.length c', .pointer (some ⟨w.heap.size, 0, none⟩), .pointer (some ⟨w.heap.size + 1, 0, none⟩), .pointer (some ⟨w.heap.size + 1 + 1, 0, none⟩), .pointer (some ⟨w.heap.size + 1 + 1 + 1, 0, none⟩), .pointer (some ⟨Bx, 0, none⟩), undef, undef, undef, undef, .func (.func 157) #[] #[], x.v, undef, undef, undef, undef, undef, undef, undef, undef, undef, undef, undef, undef, undef, undef, undef, undef, undef, undef, undef, undef, undef, undef], defers := [] })
    (fun x a' _ X Y row hs hg hr => by obtain ⟨Bx, e1, e2, e3⟩ := hs; exact ⟨Bx, e1, blk_ownF (β := Unit) _ Bx _ (fun _ => #[iv x.b, iv x.s, iv x.e]) () X Y row e2 hg hr, e3⟩)
    ?assign ?body ?done ?stop
  case assign =>
    rintro l pre ⟨x1, x2, x3⟩ W K ⟨⟨⟨⟨⟨hpre, b2⟩, b3⟩, b4⟩, b5⟩, hB⟩ hK
    gi_wp2
    exact hK _ _ ((KeepsOthers.alloc _ _).from _) ((Below.refl _ W).alloc hB.size _) ⟨⟨⟨⟨⟨hpre, b2.alloc _⟩, b3.alloc _⟩, b4.alloc _⟩, b5.alloc _⟩, hB.alloc hB.size _⟩ ⟨W.heap.size, by have := b5.lt; omega, Blk.new _ _ _, rfl⟩
  case body =>
    rintro l pre x a' W hl ⟨r, hr⟩ ⟨⟨⟨⟨⟨hpre, b2⟩, b3⟩, b4⟩, b5⟩, hB⟩ ⟨Bx, hBx, bX, rfl⟩ hlt
    have h1' : 1 ≤ 20 - 1 - 1 := by omega
    have c2 := b2.cell
    have cX := bX.cell
    have hsa := hs.below hB
    have hsb := hs'.below hB
    have hd : Price.differs a b x = ((Price.priced a x).1 != (Price.priced b x).1 || (Price.priced a x).2 != (Price.priced b x).2) := rfl
    cases hd1 : ((Price.priced a x).1 != (Price.priced b x).1)
    · cases hd2 : ((Price.priced a x).2 != (Price.priced b x).2)
      · rw [hd1, hd2] at hd
        have HD := Lib.hid hd
        clear hd
        gi_wp2_with fail
        refine ⟨trivial, ?_⟩
        refine (CallsIn.inRound l (callsIn_wide.2 (priced_spec A a c x W hm hsa hp))).mono ?_
        rintro e w1 ⟨rfl, hb1⟩
        have b3a := b3.under hb1
        have bXa := bX.under hb1
        have c3 := b3a.cell
        have cX1 := bXa.cell
        gi_wp2_with fail
        refine ⟨trivial, ?_⟩
        refine (CallsIn.inRound l (callsIn_wide.2 (priced_spec A' b c' x w1 hm' (hsb.below hb1) hp'))).mono ?_
        rintro e w2 ⟨rfl, hb2⟩
        have hbb : Below W.heap.size W w2 := hb1.next hb2 (Nat.le_refl _)
        have bX2 := (bX.under hbb)
        have cX2 := bX2.cell
        have c4 := (b4.under hbb).cell
        have f4 := (b4.under hbb).frozen
        have c5 := (b5.under hbb).cell
        have f5 := (b5.under hbb).frozen
        gi_wp2_with fail
        refine ⟨keepsFrom_below _ hbb, hbb.mono hB.size, ⟨⟨⟨⟨⟨fun p hp => ?_, b2.under hbb⟩, b3.under hbb⟩, b4.under hbb⟩, b5.under hbb⟩, hB.trans (hbb.mono hB.size)⟩⟩
        rcases List.mem_append.1 hp with hp | hp
        · exact hpre p hp
        · rw [List.mem_singleton.1 hp]; exact HD.out
      · rw [hd1, hd2] at hd
        have HD := Lib.hid hd
        clear hd
        gi_wp2_with fail
        refine ⟨trivial, ?_⟩
        refine (CallsIn.inRound l (callsIn_wide.2 (priced_spec A a c x W hm hsa hp))).mono ?_
        rintro e w1 ⟨rfl, hb1⟩
        have b3a := b3.under hb1
        have bXa := bX.under hb1
        have c3 := b3a.cell
        have cX1 := bXa.cell
        gi_wp2_with fail
        refine ⟨trivial, ?_⟩
        refine (CallsIn.inRound l (callsIn_wide.2 (priced_spec A' b c' x w1 hm' (hsb.below hb1) hp'))).mono ?_
        rintro e w2 ⟨rfl, hb2⟩
        have hbb : Below W.heap.size W w2 := hb1.next hb2 (Nat.le_refl _)
        have bX2 := (bX.under hbb)
        have cX2 := bX2.cell
        have c4 := (b4.under hbb).cell
        have f4 := (b4.under hbb).frozen
        have c5 := (b5.under hbb).cell
        have f5 := (b5.under hbb).frozen
        gi_wp2_with fail
        have k4' := ((((b4.under hbb).set_ 0 (.int .i64 x.b)).set_ 1 (.int .i64 x.s)).set_ 2 (.int .i64 x.e)).far (p := ⟨w.heap.size + 1 + 1 + 1, 0, none⟩) (show w.heap.size + 1 + 1 ≠ w.heap.size + 1 + 1 + 1 by omega) (.int .i64 0)
        have k5' := ((((b5.under hbb).far (p := ⟨w.heap.size + 1 + 1, 0, none⟩) (show w.heap.size + 1 + 1 + 1 ≠ w.heap.size + 1 + 1 by omega) (.int .i64 x.b)).far (p := ⟨w.heap.size + 1 + 1, 1, none⟩) (show w.heap.size + 1 + 1 + 1 ≠ w.heap.size + 1 + 1 by omega) (.int .i64 x.s)).far (p := ⟨w.heap.size + 1 + 1, 2, none⟩) (show w.heap.size + 1 + 1 + 1 ≠ w.heap.size + 1 + 1 by omega) (.int .i64 x.e)).set_ 0 (.int .i64 0)
        have hlast : (pre ++ [x]).getLastD ⟨0, 0, 0⟩ = x := by simp
        refine ⟨((((keepsFrom_below _ hbb).trans ((KeepsOthers.setCell _ _ _).from _)).trans ((KeepsOthers.setCell _ _ _).from _)).trans ((KeepsOthers.setCell _ _ _).from _)).trans ((KeepsOthers.setCell _ _ _).from _), ⟨⟨⟨rfl, pre, x, rfl, hpre, HD.out⟩, by rw [hlast]; exact k4'⟩, k5'⟩, ?_⟩
        exact ((((hB.trans (hbb.mono hB.size)).setCell (p := ⟨w.heap.size + 1 + 1, 0, none⟩) (show w.heap.size ≤ w.heap.size + 1 + 1 by omega) _).setCell (p := ⟨w.heap.size + 1 + 1, 1, none⟩) (show w.heap.size ≤ w.heap.size + 1 + 1 by omega) _).setCell (p := ⟨w.heap.size + 1 + 1, 2, none⟩) (show w.heap.size ≤ w.heap.size + 1 + 1 by omega) _).setCell (p := ⟨w.heap.size + 1 + 1 + 1, 0, none⟩) (show w.heap.size ≤ w.heap.size + 1 + 1 + 1 by omega) _
    · rw [hd1] at hd
      have HD := Lib.hid hd
      clear hd
      gi_wp2_with fail
      refine ⟨trivial, ?_⟩
      refine (CallsIn.inRound l (callsIn_wide.2 (priced_spec A a c x W hm hsa hp))).mono ?_
      rintro e w1 ⟨rfl, hb1⟩
      have b3a := b3.under hb1
      have bXa := bX.under hb1
      have c3 := b3a.cell
      have cX1 := bXa.cell
      gi_wp2_with fail
      refine ⟨trivial, ?_⟩
      refine (CallsIn.inRound l (callsIn_wide.2 (priced_spec A' b c' x w1 hm' (hsb.below hb1) hp'))).mono ?_
      rintro e w2 ⟨rfl, hb2⟩
      have hbb : Below W.heap.size W w2 := hb1.next hb2 (Nat.le_refl _)
      have bX2 := (bX.under hbb)
      have cX2 := bX2.cell
      have c4 := (b4.under hbb).cell
      have f4 := (b4.under hbb).frozen
      have c5 := (b5.under hbb).cell
      have f5 := (b5.under hbb).frozen
      gi_wp2_with fail
      have k4' := ((((b4.under hbb).set_ 0 (.int .i64 x.b)).set_ 1 (.int .i64 x.s)).set_ 2 (.int .i64 x.e)).far (p := ⟨w.heap.size + 1 + 1 + 1, 0, none⟩) (show w.heap.size + 1 + 1 ≠ w.heap.size + 1 + 1 + 1 by omega) (.int .i64 0)
      have k5' := ((((b5.under hbb).far (p := ⟨w.heap.size + 1 + 1, 0, none⟩) (show w.heap.size + 1 + 1 + 1 ≠ w.heap.size + 1 + 1 by omega) (.int .i64 x.b)).far (p := ⟨w.heap.size + 1 + 1, 1, none⟩) (show w.heap.size + 1 + 1 + 1 ≠ w.heap.size + 1 + 1 by omega) (.int .i64 x.s)).far (p := ⟨w.heap.size + 1 + 1, 2, none⟩) (show w.heap.size + 1 + 1 + 1 ≠ w.heap.size + 1 + 1 by omega) (.int .i64 x.e)).set_ 0 (.int .i64 0)
      have hlast : (pre ++ [x]).getLastD ⟨0, 0, 0⟩ = x := by simp
      refine ⟨((((keepsFrom_below _ hbb).trans ((KeepsOthers.setCell _ _ _).from _)).trans ((KeepsOthers.setCell _ _ _).from _)).trans ((KeepsOthers.setCell _ _ _).from _)).trans ((KeepsOthers.setCell _ _ _).from _), ⟨⟨⟨rfl, pre, x, rfl, hpre, HD.out⟩, by rw [hlast]; exact k4'⟩, k5'⟩, ?_⟩
      exact ((((hB.trans (hbb.mono hB.size)).setCell (p := ⟨w.heap.size + 1 + 1, 0, none⟩) (show w.heap.size ≤ w.heap.size + 1 + 1 by omega) _).setCell (p := ⟨w.heap.size + 1 + 1, 1, none⟩) (show w.heap.size ≤ w.heap.size + 1 + 1 by omega) _).setCell (p := ⟨w.heap.size + 1 + 1, 2, none⟩) (show w.heap.size ≤ w.heap.size + 1 + 1 by omega) _).setCell (p := ⟨w.heap.size + 1 + 1 + 1, 0, none⟩) (show w.heap.size ≤ w.heap.size + 1 + 1 + 1 by omega) _
  case done =>
    rintro D ys W hD rfl ⟨⟨⟨⟨⟨hpre, b2⟩, b3⟩, b4⟩, b5⟩, hB⟩ hK
    have c4 := b4.cell
    have f4 := b4.frozen
    have c5 := b5.cell
    have f5 := b5.frozen
    have k4' := (((b4.set_ 0 (.int .i64 0)).set_ 1 (.int .i64 0)).set_ 2 (.int .i64 0)).far (p := ⟨w.heap.size + 1 + 1 + 1, 0, none⟩) (show w.heap.size + 1 + 1 ≠ w.heap.size + 1 + 1 + 1 by omega) (.int .i64 6)
    have k5' := (((b5.far (p := ⟨w.heap.size + 1 + 1, 0, none⟩) (show w.heap.size + 1 + 1 + 1 ≠ w.heap.size + 1 + 1 by omega) (.int .i64 0)).far (p := ⟨w.heap.size + 1 + 1, 1, none⟩) (show w.heap.size + 1 + 1 + 1 ≠ w.heap.size + 1 + 1 by omega) (.int .i64 0)).far (p := ⟨w.heap.size + 1 + 1, 2, none⟩) (show w.heap.size + 1 + 1 + 1 ≠ w.heap.size + 1 + 1 by omega) (.int .i64 0)).set_ 0 (.int .i64 6)
    have hK' := ((((KeepsOthers.setCell W ⟨w.heap.size + 1 + 1, 0, none⟩ (.int .i64 0)).trans (KeepsOthers.setCell _ ⟨w.heap.size + 1 + 1, 1, none⟩ (.int .i64 0))).trans (KeepsOthers.setCell _ ⟨w.heap.size + 1 + 1, 2, none⟩ (.int .i64 0))).trans (KeepsOthers.setCell _ ⟨w.heap.size + 1 + 1 + 1, 0, none⟩ (.int .i64 6))).same D _ hK rfl
    have hB' := (((hB.setCell (p := ⟨w.heap.size + 1 + 1, 0, none⟩) (show w.heap.size ≤ w.heap.size + 1 + 1 by omega) (.int .i64 0)).setCell (p := ⟨w.heap.size + 1 + 1, 1, none⟩) (show w.heap.size ≤ w.heap.size + 1 + 1 by omega) (.int .i64 0)).setCell (p := ⟨w.heap.size + 1 + 1, 2, none⟩) (show w.heap.size ≤ w.heap.size + 1 + 1 by omega) (.int .i64 0)).setCell (p := ⟨w.heap.size + 1 + 1 + 1, 0, none⟩) (show w.heap.size ≤ w.heap.size + 1 + 1 + 1 by omega) (.int .i64 6)
    have hfind : Price.differ a b = (⟨0, 0, 0⟩, 6) := by
      unfold Price.differ
      rw [List.find?_eq_none.2 (fun x hx => by simp [hpre x hx])]
    gi_wp2
    rw [hfind]
    generalize (((W.setCell ⟨w.heap.size + 1 + 1, 0, none⟩ (.int .i64 0)).setCell ⟨w.heap.size + 1 + 1, 1, none⟩ (.int .i64 0)).setCell ⟨w.heap.size + 1 + 1, 2, none⟩ (.int .i64 0)).setCell ⟨w.heap.size + 1 + 1 + 1, 0, none⟩ (.int .i64 6) = X at *
    refine ⟨by simp, .inl ⟨_, _, rfl, run_takeDeferred hK', ?_⟩⟩
    have d4 := (k4'.putObj (show w.heap.size + 1 + 1 ≠ D by omega) (.deferred none)).cell
    have d5 := (k5'.putObj (show w.heap.size + 1 + 1 + 1 ≠ D by omega) (.deferred none)).cell
    refine ⟨.tuple #[.agg #[iv 0, iv 0, iv 0], iv 6], ?_, rfl, below_putObj hB' (by omega) (Nat.le_refl _) _⟩
    simp [results, Tryz.f39, go_sem, d4, d5]
  case stop =>
    rintro D co pre W hD hpr ⟨⟨⟨⟨rfl, q, p, rfl, hq, hdp⟩, b4⟩, b5⟩, hB⟩ hK
    have hfind : Price.differ a b = (p, 0) := by
      unfold Price.differ
      obtain ⟨t, ht⟩ := hpr
      rw [← ht, List.append_assoc, List.find?_append, List.find?_eq_none.2 (fun x hx => by simp [hq x hx])]
      simp [hdp]
    have hlast : (q ++ [p]).getLastD ⟨0, 0, 0⟩ = p := by simp
    rw [hlast] at b4
    gi_wp2
    rw [hfind]
    refine ⟨by simp, .inl ⟨_, _, rfl, run_takeDeferred hK, ?_⟩⟩
    have d4 := (b4.putObj (show w.heap.size + 1 + 1 ≠ D by omega) (.deferred none)).cell
    have d5 := (b5.putObj (show w.heap.size + 1 + 1 + 1 ≠ D by omega) (.deferred none)).cell
    refine ⟨.tuple #[.agg #[iv p.b, iv p.s, iv p.e], iv 0], ?_, rfl, below_putObj hB (by omega) (Nat.le_refl _) _⟩
    simp [results, Tryz.f39, go_sem, d4, d5]
end Go.Proofs.YtkmcacgeecfjgaaGreatDoor
namespace Go.Proofs.YtkmcacgeecfjgaaGreatDoor
open Go.RowKit Go.Shelf
set_option maxRecDepth 100000
attribute [local go_sem] Oper.semAt_some
end Go.Proofs.YtkmcacgeecfjgaaGreatDoor
end
section
namespace Go.Proofs.YtkmcacgeecfjgaaGreatDoor
open Go.RowKit Go.Shelf
set_option maxRecDepth 100000
theorem Sl.fresh {α : Type} (E : Enc α) (w : World) (t : TypeId) (arr : Array Value) (xs : List α) (h : arr.toList = xs.flatMap E.cells) (hm : xs.length ≤ maxLen) : Sl E (w.alloc (.cells arr t)) (some ⟨w.heap.size, 0, none⟩) xs := by
  have hb : Blk (w.alloc (.cells arr t)) w.heap.size t (xs.flatMap E.cells).toArray := by
    rw [← h]; exact Blk.new w t arr
  exact (Own.ofBlk (E := E) (B := 0) hb (Nat.zero_le _) hm).sl
end Go.Proofs.YtkmcacgeecfjgaaGreatDoor
end
section
namespace Go.Proofs.YtkmcacgeecfjgaaGreatDoor
open Go.RowKit Go.Shelf
set_option maxRecDepth 100000
namespace Price
def addOf (l : List Rule) (r : Rule) : List Rule × Int :=
  if check l = 0 then (if l.length = 8 then ([], 9) else (if check (l ++ [r]) = 0 then (l ++ [r], 0) else ([], check (l ++ [r])))) else ([], check l)
end Price
set_option maxHeartbeats 4000000 in
theorem Add_spec (A : Option Addr) (l : List Rule) (c : Nat) (r : Rule) (w : World) (hm : l.length ≤ 1000000) (hc : l.length ≤ c) (hs : Sl ruleE w A l) :
    Calls Tryz.prog 8 #[.slice A l.length c, r.v] w fun e w' => ∃ v, e = .returned (.tuple #[v, iv (Price.addOf l r).2]) ∧ Own ruleE 29 w.heap.size w' v (Price.addOf l r).1 ∧ Below w.heap.size w w' := by
  obtain ⟨ra, rb, rc, rd⟩ := r
  have hb0 : Below w.heap.size w (w.alloc (.cells #[iv ra, iv rb, iv rc, iv rd] 29)) := (Below.refl _ _).alloc (Nat.le_refl _) _
  have hB0 : Blk (w.alloc (.cells #[iv ra, iv rb, iv rc, iv rd] 29)) w.heap.size 29 #[iv ra, iv rb, iv rc, iv rd] := Blk.new _ _ _
  have HC := Lib.hid (check_spec A l c (w.alloc (.cells #[iv ra, iv rb, iv rc, iv rd] 29)) (by unfold big; omega) hc (hs.below hb0))
  by_cases h0 : Price.check l = 0
  · rw [h0] at HC
    by_cases h8 : l.length = 8
    · have HV : Hid (Price.addOf l ⟨ra, rb, rc, rd⟩ = ([], 9)) := by refine Lib.hid ?_; unfold Price.addOf; rw [if_pos h0, if_pos h8]
      have h8' : ((l.length : Int) == 8) = true := by rw [h8]; rfl
      have H8 := Lib.hid h8
      clear h0 h8
      go_enter Tryz.func8, Tryz.ntmps8
      go_wp2_with fail
      refine HC.out.mono ?_
      rintro e w1 ⟨rfl, hb1⟩
      go_wp2
      go_ret2
      exact ⟨_, by rw [HV.out]; rfl, by rw [HV.out]; exact Own.nil, hb1.of_alloc⟩
    · have h8' : ((l.length : Int) == 8) = false := beq_eq_false_iff_ne.2 (by omega)
      by_cases h3 : Price.check (l ++ [⟨ra, rb, rc, rd⟩]) = 0
      · have HV : Hid (Price.addOf l ⟨ra, rb, rc, rd⟩ = (l ++ [⟨ra, rb, rc, rd⟩], 0)) := by refine Lib.hid ?_; unfold Price.addOf; rw [if_pos h0, if_neg h8, if_pos h3]
        have H3 := Lib.hid h3
        clear h0 h8 h3
        go_enter Tryz.func8, Tryz.ntmps8
        go_wp2_with fail
        refine HC.out.mono ?_
        rintro e w1 ⟨rfl, hb1⟩
        have hB1 := hB0.under hb1
        have hb01 := hb1.of_alloc
        have hs1 := hs.below hb01
        have f0 := hB1.cell 0
        have f1 := hB1.cell 1
        have f2 := hB1.cell 2
        have f3 := hB1.cell 3
        have HCL : Hid (∀ W, Below w1.heap.size w1 W → Calls Tryz.prog 36 #[.slice A l.length c] W fun e w' => ∃ v, e = .returned v ∧ Own ruleE 29 W.heap.size w' v l ∧ Below W.heap.size W w') := fun W hW => cloneR A l c W (by unfold big; omega) (hs1.below hW)
        have HS : Hid (∀ a : World, Below w1.heap.size w1 a → Below w1.heap.size w1 a ∧ (a.cell? ⟨w.heap.size, 0, none⟩ = some (iv ra) ∧ a.cell? ⟨w.heap.size, 1, none⟩ = some (iv rb) ∧ a.cell? ⟨w.heap.size, 2, none⟩ = some (iv rc) ∧ a.cell? ⟨w.heap.size, 3, none⟩ = some (iv rd))) := fun a h => ⟨h, (hB1.under h).cell 0, (hB1.under h).cell 1, (hB1.under h).cell 2, (hB1.under h).cell 3⟩
        have HK0 := Lib.hid (HS.out w1.drew (Below.refl _ _).drew)
        clear hB0 hB1 HC hs hs1
        go_wp2_with fail
        go_region_held3 (fun a => Below w1.heap.size w1 a ∧ (a.cell? ⟨w.heap.size, 0, none⟩ = some (iv ra) ∧ a.cell? ⟨w.heap.size, 1, none⟩ = some (iv rb) ∧ a.cell? ⟨w.heap.size, 2, none⟩ = some (iv rc) ∧ a.cell? ⟨w.heap.size, 3, none⟩ = some (iv rd)))
          (first | with_reducible assumption | exact HK0.out | exact HS.out _ ((Below.refl _ w1).drew.alloc (Nat.le_refl _) _) | exact HS.out _ HX2.out | exact HS.out _ HX1.out | exact HS.out _ (HX1.out.alloc HX1.out.size _))
          (first
            | (go_at_call 36; refine (HCL.out _ (And.left ‹Below w1.heap.size w1 _ ∧ _›)).mono ?_; rintro e x1 ⟨v, rfl, hown, hbx⟩; have HX1 := Lib.hid ((And.left ‹Below w1.heap.size w1 _ ∧ _›).next hbx (Nat.le_refl _)); obtain ⟨A', c', rfl, _, _⟩ := hown.form)
            | (refine stepAppS ruleE tyRules (by rfl) _ _ (by rfl) hown ((Sl.fresh ruleE w1.drew 29 #[iv ra, iv rb, iv rc, iv rd] [⟨ra, rb, rc, rd⟩] rfl (by simp [maxLen])).below hbx) rfl (by rfl) (by rfl) (by rfl) hbx.size (by unfold big; simp; omega) ?_; intro v' x2 hown2 hbx2 _; have HX2 := Lib.hid (HX1.out.trans (hbx2.mono (by simp))); have hown3 := Lib.hid (hown2.base (B' := w1.heap.size) (by simp)); obtain ⟨A2, c2, rfl, hc2, hm2⟩ := hown2.form; have hsl2 := hown2.sl)
            | (refine stepAppS ruleE tyRules (by rfl) _ _ (by rfl) (hown.below ((Below.refl _ x1).alloc (Nat.le_refl _) _)) (Sl.fresh ruleE x1 29 #[iv ra, iv rb, iv rc, iv rd] [⟨ra, rb, rc, rd⟩] rfl (by simp [maxLen])) rfl (by rfl) (by rfl) (by rfl) (Nat.le_trans hbx.size (by simp)) (by unfold big; simp; omega) ?_; intro v' x2 hown2 hbx2 _; have HX2 := Lib.hid ((HX1.out.alloc HX1.out.size _).trans hbx2); have hown3 := Lib.hid (hown2.base (B' := w1.heap.size) (by simp)); obtain ⟨A2, c2, rfl, hc2, hm2⟩ := hown2.form; have hsl2 := hown2.sl))
        all_goals
          have HC2 := Lib.hid (check_spec A2 (l ++ [⟨ra, rb, rc, rd⟩]) c2 x2 (by simp; unfold big; omega) hc2 hsl2)
          have hb02 := hb01.trans (HX2.out.mono hb01.size)
          have hlen : (l ++ [(⟨ra, rb, rc, rd⟩ : Rule)]).length = l.length + 1 := by simp
          rw [hlen] at HC2 hown3
          clear hsl2 hown hown2 hc2 hm2
          rw [H3.out] at HC2
          go_wp2_with fail
          refine HC2.out.mono ?_
          rintro e x3 ⟨rfl, hb3⟩
          go_wp2
          go_ret2
          exact ⟨_, by rw [HV.out]; rfl, by rw [HV.out]; exact (hown3.out.below hb3).base hb01.size, hb02.next hb3 (Nat.le_refl _)⟩
      · have HV : Hid (Price.addOf l ⟨ra, rb, rc, rd⟩ = ([], Price.check (l ++ [⟨ra, rb, rc, rd⟩]))) := by refine Lib.hid ?_; unfold Price.addOf; rw [if_pos h0, if_neg h8, if_neg h3]
        have h3' : (Price.check (l ++ [⟨ra, rb, rc, rd⟩]) != 0) = true := bne_iff_ne.2 h3
        clear h0 h8 h3
        go_enter Tryz.func8, Tryz.ntmps8
        go_wp2_with fail
        refine HC.out.mono ?_
        rintro e w1 ⟨rfl, hb1⟩
        have hB1 := hB0.under hb1
        have hb01 := hb1.of_alloc
        have hs1 := hs.below hb01
        have f0 := hB1.cell 0
        have f1 := hB1.cell 1
        have f2 := hB1.cell 2
        have f3 := hB1.cell 3
        have HCL : Hid (∀ W, Below w1.heap.size w1 W → Calls Tryz.prog 36 #[.slice A l.length c] W fun e w' => ∃ v, e = .returned v ∧ Own ruleE 29 W.heap.size w' v l ∧ Below W.heap.size W w') := fun W hW => cloneR A l c W (by unfold big; omega) (hs1.below hW)
        have HS : Hid (∀ a : World, Below w1.heap.size w1 a → Below w1.heap.size w1 a ∧ (a.cell? ⟨w.heap.size, 0, none⟩ = some (iv ra) ∧ a.cell? ⟨w.heap.size, 1, none⟩ = some (iv rb) ∧ a.cell? ⟨w.heap.size, 2, none⟩ = some (iv rc) ∧ a.cell? ⟨w.heap.size, 3, none⟩ = some (iv rd))) := fun a h => ⟨h, (hB1.under h).cell 0, (hB1.under h).cell 1, (hB1.under h).cell 2, (hB1.under h).cell 3⟩
        have HK0 := Lib.hid (HS.out w1.drew (Below.refl _ _).drew)
        clear hB0 hB1 HC hs hs1
        go_wp2_with fail
        go_region_held3 (fun a => Below w1.heap.size w1 a ∧ (a.cell? ⟨w.heap.size, 0, none⟩ = some (iv ra) ∧ a.cell? ⟨w.heap.size, 1, none⟩ = some (iv rb) ∧ a.cell? ⟨w.heap.size, 2, none⟩ = some (iv rc) ∧ a.cell? ⟨w.heap.size, 3, none⟩ = some (iv rd)))
          (first | with_reducible assumption | exact HK0.out | exact HS.out _ ((Below.refl _ w1).drew.alloc (Nat.le_refl _) _) | exact HS.out _ HX2.out | exact HS.out _ HX1.out | exact HS.out _ (HX1.out.alloc HX1.out.size _))
          (first
            | (go_at_call 36; refine (HCL.out _ (And.left ‹Below w1.heap.size w1 _ ∧ _›)).mono ?_; rintro e x1 ⟨v, rfl, hown, hbx⟩; have HX1 := Lib.hid ((And.left ‹Below w1.heap.size w1 _ ∧ _›).next hbx (Nat.le_refl _)); obtain ⟨A', c', rfl, _, _⟩ := hown.form)
            | (refine stepAppS ruleE tyRules (by rfl) _ _ (by rfl) hown ((Sl.fresh ruleE w1.drew 29 #[iv ra, iv rb, iv rc, iv rd] [⟨ra, rb, rc, rd⟩] rfl (by simp [maxLen])).below hbx) rfl (by rfl) (by rfl) (by rfl) hbx.size (by unfold big; simp; omega) ?_; intro v' x2 hown2 hbx2 _; have HX2 := Lib.hid (HX1.out.trans (hbx2.mono (by simp))); have hown3 := Lib.hid (hown2.base (B' := w1.heap.size) (by simp)); obtain ⟨A2, c2, rfl, hc2, hm2⟩ := hown2.form; have hsl2 := hown2.sl)
            | (refine stepAppS ruleE tyRules (by rfl) _ _ (by rfl) (hown.below ((Below.refl _ x1).alloc (Nat.le_refl _) _)) (Sl.fresh ruleE x1 29 #[iv ra, iv rb, iv rc, iv rd] [⟨ra, rb, rc, rd⟩] rfl (by simp [maxLen])) rfl (by rfl) (by rfl) (by rfl) (Nat.le_trans hbx.size (by simp)) (by unfold big; simp; omega) ?_; intro v' x2 hown2 hbx2 _; have HX2 := Lib.hid ((HX1.out.alloc HX1.out.size _).trans hbx2); have hown3 := Lib.hid (hown2.base (B' := w1.heap.size) (by simp)); obtain ⟨A2, c2, rfl, hc2, hm2⟩ := hown2.form; have hsl2 := hown2.sl))
        all_goals
          have HC2 := Lib.hid (check_spec A2 (l ++ [⟨ra, rb, rc, rd⟩]) c2 x2 (by simp; unfold big; omega) hc2 hsl2)
          have hb02 := hb01.trans (HX2.out.mono hb01.size)
          have hlen : (l ++ [(⟨ra, rb, rc, rd⟩ : Rule)]).length = l.length + 1 := by simp
          rw [hlen] at HC2 hown3
          clear hsl2 hown hown2 hc2 hm2
          go_wp2_with fail
          refine HC2.out.mono ?_
          rintro e x3 ⟨rfl, hb3⟩
          go_wp2
          go_ret2
          exact ⟨_, by rw [HV.out]; rfl, by rw [HV.out]; exact Own.nil, hb02.next hb3 (Nat.le_refl _)⟩
  · have HV : Hid (Price.addOf l ⟨ra, rb, rc, rd⟩ = ([], Price.check l)) := by refine Lib.hid ?_; unfold Price.addOf; rw [if_neg h0]
    have h0' : (Price.check l != 0) = true := bne_iff_ne.2 h0
    go_enter Tryz.func8, Tryz.ntmps8
    go_wp2_with fail
    refine HC.out.mono ?_
    rintro e w1 ⟨rfl, hb1⟩
    go_wp2
    go_ret2
    exact ⟨_, by rw [HV.out]; rfl, by rw [HV.out]; exact Own.nil, hb1.of_alloc⟩
end Go.Proofs.YtkmcacgeecfjgaaGreatDoor
end
section
namespace Go.Proofs.YtkmcacgeecfjgaaGreatDoor
namespace Price
/-- How much a rule names of a piece, as the statements reckon it; -1 if it does not hold. -/
def lawNames (p : Piece) (r : Rule) : Int := if holds r p then many r else -1
def lawStep (p : Piece) (st : Int × Int × Int) (r : Rule) : Int × Int × Int :=
  if st.1 < lawNames p r then (lawNames p r, r.p, 0) else if 0 ≤ lawNames p r ∧ lawNames p r = st.1 ∧ r.p ≠ st.2.1 then (st.1, -1, 7) else st
def lawEnd (st : Int × Int × Int) : Int × Int := if st.2.2 = 0 then (st.2.1, 0) else (0, st.2.2)
def lawPriced (l : List Rule) (p : Piece) : Int × Int := lawEnd (l.foldl (lawStep p) (-1, 0, 6))
theorem countsFrom_prices (most : Int) (p : Piece) : ∀ (l pre : List Rule), (countsFrom most p l pre.length).map (fun i => ((pre ++ l).getD i.toNat default).p) = (l.filter fun r => holds r p && decide (many r = most)).map (·.p) := by
  intro l
  induction l with
  | nil => intro pre; simp [countsFrom]
  | cons r l ih =>
    intro pre
    have := ih (pre ++ [r])
    simp only [List.length_append, List.length_cons, List.length_nil, Nat.zero_add, List.append_assoc, List.cons_append, List.nil_append, Int.natCast_add, Int.natCast_one] at this
    simp only [countsFrom, List.filter_cons]
    by_cases h : (holds r p && decide (many r = most)) = true
    · rw [if_pos h, if_pos h, List.map_cons, List.map_cons]
      congr 1
      simp [List.getD_eq_getElem?_getD]
    · rw [if_neg h, if_neg h]; exact this
def top (l : List Rule) (p : Piece) : List Int := (l.filter fun r => holds r p && decide (many r = greatest (held l p))).map (·.p)
theorem prices_top (l : List Rule) (p : Piece) : prices l p = top l p := countsFrom_prices _ p l []
theorem many_bounds (r : Rule) : 0 ≤ many r := by
  have h : ∀ n, 0 ≤ one n := fun n => by unfold one; split <;> omega
  have := h r.b; have := h r.s; have := h r.e
  unfold many; omega
theorem greatest_snoc (l : List Int) (x : Int) : greatest (l ++ [x]) = max (greatest l) x := by simp [greatest, List.foldl_append]
theorem foldl_max_ge : ∀ (l : List Int) (a : Int), a ≤ l.foldl max a := by
  intro l
  induction l with
  | nil => intro a; exact Int.le_refl _
  | cons x l ih => intro a; have := ih (max a x); simp only [List.foldl_cons]; omega
theorem greatest_ge (l : List Int) : ∀ x ∈ l, x ≤ greatest l := by
  unfold greatest
  suffices h : ∀ (l : List Int) (a : Int), ∀ x ∈ l, x ≤ l.foldl max a from h l 0
  intro l
  induction l with
  | nil => intro a x h; simp at h
  | cons y l ih =>
    intro a x h
    rcases List.mem_cons.1 h with rfl | h
    · have := foldl_max_ge l (max a x); simp only [List.foldl_cons]; omega
    · exact ih _ x h
theorem held_snoc (l : List Rule) (r : Rule) (p : Piece) : held (l ++ [r]) p = if holds r p then held l p ++ [many r] else held l p := by
  unfold held
  rw [List.filter_append, List.filter_cons, List.filter_nil]
  split <;> simp
theorem top_snoc (l : List Rule) (r : Rule) (p : Piece) : top (l ++ [r]) p = if holds r p then (if greatest (held l p) < many r then [r.p] else if many r = greatest (held l p) then top l p ++ [r.p] else top l p) else top l p := by
  unfold top
  rw [held_snoc]
  by_cases h : holds r p = true
  · rw [if_pos h, if_pos h, greatest_snoc, List.filter_append, List.filter_cons, List.filter_nil]
    by_cases h1 : greatest (held l p) < many r
    · rw [if_pos h1, show max (greatest (held l p)) (many r) = many r by omega, h]
      have : (l.filter fun r' => holds r' p && decide (many r' = many r)) = [] := by
        rw [List.filter_eq_nil_iff]
        intro r' hr' hh
        simp only [Bool.and_eq_true, decide_eq_true_eq] at hh
        have := greatest_ge (held l p) (many r') (List.mem_map.2 ⟨r', List.mem_filter.2 ⟨hr', hh.1⟩, rfl⟩)
        omega
      rw [this]; simp
    · rw [if_neg h1, show max (greatest (held l p)) (many r) = greatest (held l p) by omega, h]
      by_cases h2 : many r = greatest (held l p)
      · rw [if_pos h2]; simp [h2]
      · rw [if_neg h2]; simp [h2]
  · rw [if_neg h, if_neg h, List.filter_append, List.filter_cons, List.filter_nil]
    simp [h]
/-- What the statements' reckoning has found so far. -/
structure LawSt (l : List Rule) (p : Piece) (st : Int × Int × Int) : Prop where
  none_ : held l p = [] → st.1 = -1
  some_ : held l p ≠ [] → st.1 = greatest (held l p)
  err : st.2.2 = (pricedOf (top l p)).2
  price : st.2.2 = 0 → ∃ ps, top l p = st.2.1 :: ps
  torn : st.2.2 = 7 → st.2.1 = -1
theorem top_none {l : List Rule} {p : Piece} (h : held l p = []) : top l p = [] := by
  unfold held at h
  rw [List.map_eq_nil_iff, List.filter_eq_nil_iff] at h
  unfold top
  rw [List.map_eq_nil_iff, List.filter_eq_nil_iff]
  intro r hr hh
  simp only [Bool.and_eq_true] at hh
  exact h r hr hh.1
theorem foldl_max_mem : ∀ (l : List Int) (a : Int), l.foldl max a = a ∨ l.foldl max a ∈ l := by
  intro l
  induction l with
  | nil => intro a; exact .inl rfl
  | cons x l ih =>
    intro a
    rcases ih (max a x) with h | h
    · simp only [List.foldl_cons, h]
      by_cases hx : x ≤ a
      · left; omega
      · right; rw [show max a x = x by omega]; exact List.mem_cons_self
    · exact .inr (List.mem_cons_of_mem _ h)
theorem top_some {l : List Rule} {p : Piece} (h : held l p ≠ []) : top l p ≠ [] := by
  have hm : greatest (held l p) ∈ held l p := by
    rcases foldl_max_mem (held l p) 0 with h1 | h1
    · obtain ⟨x, r, hx⟩ := List.exists_cons_of_ne_nil h
      have hmem : x ∈ held l p := by rw [hx]; exact List.mem_cons_self
      have h2 := greatest_ge _ _ hmem
      have h3 : 0 ≤ x := by
        obtain ⟨r, _, rfl⟩ := List.mem_map.1 hmem
        exact many_bounds r
      have : greatest (held l p) = x := by unfold greatest at h2 ⊢; omega
      rw [this]; exact hmem
    · exact h1
  obtain ⟨r, hr, hg⟩ := List.mem_map.1 hm
  have hr' := List.mem_filter.1 hr
  intro e
  unfold top at e
  rw [List.map_eq_nil_iff, List.filter_eq_nil_iff] at e
  exact e r hr'.1 (by simp only [Bool.and_eq_true, decide_eq_true_eq]; exact ⟨hr'.2, hg⟩)
theorem pricedOf_snoc_same {x : Int} {ps : List Int} (h : (pricedOf (x :: ps)).2 = 0) (y : Int) : (pricedOf (x :: ps ++ [y])).2 = if y = x then 0 else 7 := by
  simp only [pricedOf, List.cons_append] at h ⊢
  by_cases ha : (ps.all fun y => y == x) = true
  · rw [List.all_append, ha]
    by_cases hy : y = x <;> simp [hy]
  · rw [if_neg ha] at h; cases h
theorem pricedOf_snoc_torn {ps : List Int} (h : (pricedOf ps).2 = 7) (y : Int) : (pricedOf (ps ++ [y])).2 = 7 := by
  cases ps with
  | nil => simp [pricedOf] at h
  | cons x ps =>
    simp only [pricedOf, List.cons_append] at h ⊢
    by_cases ha : (ps.all fun y => y == x) = true
    · rw [if_pos ha] at h; cases h
    · rw [List.all_append, if_neg (by simp only [Bool.and_eq_true]; exact fun hh => ha hh.1)]
theorem pricedOf_err (ps : List Int) : (ps = [] ∧ (pricedOf ps).2 = 6) ∨ (∃ x r, ps = x :: r ∧ ((pricedOf ps).2 = 0 ∨ (pricedOf ps).2 = 7)) := by
  cases ps with
  | nil => exact .inl ⟨rfl, rfl⟩
  | cons x r =>
    refine .inr ⟨x, r, rfl, ?_⟩
    simp only [pricedOf]
    split
    · exact .inl rfl
    · exact .inr rfl
theorem law_step {l : List Rule} {p : Piece} {st : Int × Int × Int} {r : Rule} (h : LawSt l p st) (hp : 0 ≤ r.p) : LawSt (l ++ [r]) p (lawStep p st r) := by
  obtain ⟨M, n, e⟩ := st
  obtain ⟨h1, h2, h3, h4, h5⟩ := h
  dsimp only at h1 h2 h3 h4 h5
  unfold lawStep lawNames
  dsimp only
  by_cases hh : holds r p = true
  · have hk := many_bounds r
    rw [if_pos hh]
    have hheld : held (l ++ [r]) p = held l p ++ [many r] := by rw [held_snoc, if_pos hh]
    have hne : held (l ++ [r]) p ≠ [] := by rw [hheld]; simp
    have hg : greatest (held (l ++ [r]) p) = max (greatest (held l p)) (many r) := by rw [hheld, greatest_snoc]
    have ht := top_snoc l r p
    rw [if_pos hh] at ht
    by_cases h0 : held l p = []
    · have hM := h1 h0
      have hg0 : greatest (held l p) = 0 := by rw [h0]; rfl
      rw [if_pos (by omega)]
      have ht' : top (l ++ [r]) p = [r.p] := by
        rw [ht, hg0]
        split
        · rfl
        · rw [if_pos (by omega), top_none h0]; rfl
      refine ⟨fun e => absurd e hne, fun _ => by rw [hg, hg0]; omega, by rw [ht']; rfl, fun _ => ⟨[], ht'⟩, (fun e => by cases e)⟩
    · have hM := h2 h0
      by_cases hlt : M < many r
      · rw [if_pos hlt]
        rw [if_pos (by omega)] at ht
        exact ⟨fun e => absurd e hne, fun _ => by rw [hg]; omega, by rw [ht]; rfl, fun _ => ⟨[], ht⟩, (fun e => by cases e)⟩
      · rw [if_neg hlt]
        rw [if_neg (by omega)] at ht
        by_cases heq : many r = M
        · rw [if_pos (by omega)] at ht
          rcases pricedOf_err (top l p) with ⟨he, _⟩ | ⟨x, ps, hx, he⟩
          · exact absurd he (top_some h0)
          · rcases he with he | he
            · rw [he] at h3
              subst h3
              obtain ⟨qs, hq⟩ := h4 rfl
              have hs := pricedOf_snoc_same (x := n) (ps := qs) (by rw [← hq]; exact he) r.p
              by_cases hpn : r.p = n
              · rw [if_neg (by omega)]
                exact ⟨fun e => absurd e hne, fun _ => by rw [hg]; omega, by rw [ht, hq, hs, if_pos hpn], fun _ => ⟨qs ++ [r.p], by rw [ht, hq]; rfl⟩, (fun e => by cases e)⟩
              · rw [if_pos ⟨hk, heq, hpn⟩]
                exact ⟨fun e => absurd e hne, fun _ => by rw [hg]; omega, by rw [ht, hq, hs, if_neg hpn], (fun e => by cases e), fun _ => rfl⟩
            · rw [he] at h3
              subst h3
              have hn := h5 rfl
              rw [if_pos ⟨hk, heq, by omega⟩]
              exact ⟨fun e => absurd e hne, fun _ => by rw [hg]; omega, by rw [ht, pricedOf_snoc_torn he], (fun e => by cases e), fun _ => rfl⟩
        · rw [if_neg (by omega)] at ht
          rw [if_neg (by omega)]
          exact ⟨fun e => absurd e hne, fun _ => by rw [hg]; omega, by rw [ht]; exact h3, fun e => by rw [ht]; exact h4 e, h5⟩
  · rw [if_neg hh]
    have hheld : held (l ++ [r]) p = held l p := by rw [held_snoc, if_neg hh]
    have ht : top (l ++ [r]) p = top l p := by rw [top_snoc, if_neg hh]
    have hM : -1 ≤ M := by
      by_cases h0 : held l p = []
      · rw [h1 h0]; omega
      · rw [h2 h0]; have := foldl_max_ge (held l p) 0; unfold greatest; omega
    rw [if_neg (by omega), if_neg (by omega)]
    exact ⟨by rw [hheld]; exact h1, by rw [hheld]; exact h2, by rw [ht]; exact h3, by rw [ht]; exact h4, h5⟩
theorem law_fold (p : Piece) : ∀ (l pre : List Rule) (st : Int × Int × Int), LawSt pre p st → (∀ r ∈ l, 0 ≤ r.p) → LawSt (pre ++ l) p (l.foldl (lawStep p) st) := by
  intro l
  induction l with
  | nil => intro pre st h _; simpa using h
  | cons r l ih =>
    intro pre st h hp
    have := ih (pre ++ [r]) _ (law_step h (hp r List.mem_cons_self)) fun q hq => hp q (List.mem_cons_of_mem _ hq)
    simpa using this
theorem lawPriced_eq {l : List Rule} (hp : ∀ r ∈ l, 0 ≤ r.p) (p : Piece) : lawPriced l p = priced l p := by
  have h := law_fold p l [] (-1, 0, 6) ⟨fun _ => rfl, fun e => absurd rfl e, rfl, (fun e => by cases e), (fun e => by cases e)⟩ hp
  rw [List.nil_append] at h
  unfold lawPriced priced
  rw [prices_top]
  generalize l.foldl (lawStep p) (-1, 0, 6) = st at *
  obtain ⟨M, n, e⟩ := st
  obtain ⟨_, _, h3, h4, _⟩ := h
  dsimp only at h3 h4
  unfold lawEnd
  dsimp only
  rcases pricedOf_err (top l p) with ⟨he, h6⟩ | ⟨x, ps, hx, he⟩
  · rw [he] at h3 ⊢
    rw [h3]; rfl
  · by_cases h0 : e = 0
    · obtain ⟨qs, hq⟩ := h4 h0
      rw [if_pos h0]
      rw [h0] at h3
      rw [hq] at h3 ⊢
      simp only [pricedOf] at h3 ⊢
      split
      · rfl
      · rename_i hn; rw [if_neg hn] at h3; cases h3
    · rw [if_neg h0, h3]
      have h7 : (pricedOf (top l p)).2 = 7 := by omega
      rw [hx] at h7 ⊢
      simp only [pricedOf] at h7 ⊢
      split
      · rename_i hn; rw [if_pos hn] at h7; cases h7
      · rfl
end Price
end Go.Proofs.YtkmcacgeecfjgaaGreatDoor
end
section
namespace Go.Proofs.YtkmcacgeecfjgaaGreatDoor
namespace Price
def upTo (n : Nat) : List Int := (List.range n).map fun (k : Nat) => (k : Int)
/-- The weeks in the order in which pieces are sold. -/
def slots : List Int → Nat → List Int
  | [], _ => []
  | m :: bs, w => List.replicate m.toNat (w : Int) ++ slots bs (w + 1)
/-- The pairs of a price and a week, in the order in which pieces are sold. -/
def pairs (bought prices order : List Int) : List (Int × Int) := (List.range prices.length).map fun j => (prices.getD (order.getD j 0).toNat 0, (slots bought 0).getD j (-1))
end Price
end Go.Proofs.YtkmcacgeecfjgaaGreatDoor
namespace Go.Proofs.YtkmcacgeecfjgaaGreatDoor
namespace Price
theorem dupIn_nodup : ∀ (l pre : List Rule), l.Nodup → (∀ r ∈ l, r ∉ pre) → dupIn pre l = false := by
  intro l
  induction l with
  | nil => intro pre _ _; rfl
  | cons r l ih =>
    intro pre hn hp
    have hn' := List.nodup_cons.1 hn
    simp only [dupIn, Bool.or_eq_false_iff]
    refine ⟨by simpa using hp r List.mem_cons_self, ih _ hn'.2 fun q hq hm => ?_⟩
    rcases List.mem_append.1 hm with hm | hm
    · exact hp q (List.mem_cons_of_mem _ hq) hm
    · rw [List.mem_singleton] at hm
      subst hm
      exact hn'.1 hq
theorem check_nodup {l : List Rule} (hl : l.length ≤ 8) (hn : l.Nodup) (ha : ∀ r ∈ l, allowed r = true) : check l = 0 := by
  unfold check
  rw [if_neg (by omega), if_pos (List.all_eq_true.2 ha), dupIn_nodup l [] hn fun r _ h => (by cases h)]; rfl
/-- What the statements' Made makes. -/
structure MadeOk (n : Nat) (l : List Rule) : Prop where
  len : l.length ≤ n
  nodup : l.Nodup
  ok : ∀ r ∈ l, allowed r = true ∧ 10 ≤ r.p ∧ r.p ≤ 14
theorem MadeOk.last {n : Nat} {l : List Rule} (h : MadeOk n l) (hn : n ≤ 7) {p : Int} (hp : 15 ≤ p ∧ p ≤ 500) : check (l ++ [⟨-1, -1, -1, p⟩]) = 0 := by
  have h1 := h.len
  refine check_nodup (by simp; omega) (List.nodup_append.2 ⟨h.nodup, by simp, fun r hr q hq e => ?_⟩) fun r hr => ?_
  · rw [List.mem_singleton.1 hq] at e
    have := (h.ok r hr).2
    rw [e] at this
    dsimp only at this
    omega
  · rcases List.mem_append.1 hr with hr | hr
    · exact (h.ok r hr).1
    · rw [List.mem_singleton.1 hr]
      simp [allowed, inB]; omega
end Price
end Go.Proofs.YtkmcacgeecfjgaaGreatDoor
end
section
namespace Go.Proofs.YtkmcacgeecfjgaaGreatDoor
namespace Price
/-- Does rule number j count for the piece? -/
def hit (l : List Rule) (p : Piece) (r : Rule) : Bool := holds r p && decide (many r = greatest (held l p))
theorem MadeOk.check {n : Nat} {l : List Rule} (h : MadeOk n l) (hn : n ≤ 8) : check l = 0 := check_nodup (Nat.le_trans h.len hn) h.nodup fun r hr => (h.ok r hr).1
end Price
end Go.Proofs.YtkmcacgeecfjgaaGreatDoor
namespace Go.Proofs.YtkmcacgeecfjgaaGreatDoor
namespace Price
theorem pricedOf_same {x : Int} {ps : List Int} (h : ps ≠ []) (ha : ∀ y ∈ ps, y = x) : pricedOf ps = (x, 0) := by
  cases ps with
  | nil => exact absurd rfl h
  | cons y ps =>
    simp only [pricedOf]
    obtain rfl : y = x := ha y List.mem_cons_self
    rw [if_pos]
    rw [List.all_eq_true]
    intro z hz
    simpa using ha z (List.mem_cons_of_mem _ hz)
theorem pricedOf_torn {ps : List Int} {x y : Int} (hx : x ∈ ps) (hy : y ∈ ps) (h : x ≠ y) : pricedOf ps = (0, 7) := by
  cases ps with
  | nil => cases hx
  | cons z ps =>
    simp only [pricedOf]
    rw [if_neg]
    intro ha
    rw [List.all_eq_true] at ha
    have key : ∀ u ∈ z :: ps, u = z := fun u hu => by
      rcases List.mem_cons.1 hu with rfl | hu
      · rfl
      · simpa using ha u hu
    exact h ((key x hx).trans (key y hy).symm)
theorem pricedOf_perm {ps qs : List Int} (h : ps.Perm qs) : pricedOf ps = pricedOf qs := by
  by_cases h0 : ps = []
  · subst h0; rw [List.nil_perm.1 h]
  · obtain ⟨x, hx⟩ := List.exists_mem_of_ne_nil ps h0
    have h1 : qs ≠ [] := fun e => by rw [e] at h; exact h0 (List.perm_nil.1 h)
    by_cases ha : ∀ y ∈ ps, y = x
    · rw [pricedOf_same h0 ha, pricedOf_same h1 fun y hy => ha y (h.mem_iff.2 hy)]
    · obtain ⟨y, hy, hne⟩ : ∃ y, y ∈ ps ∧ y ≠ x := by
        false_or_by_contra
        rename_i hno
        exact ha fun y hy => Decidable.byContradiction fun hn => hno ⟨y, hy, hn⟩
      rw [pricedOf_torn hx hy (Ne.symm hne), pricedOf_torn (h.mem_iff.1 hx) (h.mem_iff.1 hy) (Ne.symm hne)]
theorem greatest_le {l : List Int} {m : Int} (hm : 0 ≤ m) (h : ∀ x ∈ l, x ≤ m) : greatest l ≤ m := by
  unfold greatest
  rcases foldl_max_mem l 0 with e | e
  · rw [e]; exact hm
  · exact h _ e
theorem greatest_nonneg (l : List Int) : 0 ≤ greatest l := by unfold greatest; exact foldl_max_ge _ 0
theorem greatest_same {l k : List Int} (h : ∀ x, x ∈ l ↔ x ∈ k) : greatest l = greatest k := by
  have h1 := greatest_le (greatest_nonneg k) fun x hx => greatest_ge k x ((h x).1 hx)
  have h2 := greatest_le (greatest_nonneg l) fun x hx => greatest_ge l x ((h x).2 hx)
  omega
theorem priced_top (l : List Rule) (p : Piece) : priced l p = pricedOf (top l p) := by unfold priced; rw [prices_top]
theorem held_perm {l k : List Rule} (h : l.Perm k) (p : Piece) : (held l p).Perm (held k p) := (h.filter _).map _
theorem top_perm {l k : List Rule} (h : l.Perm k) (p : Piece) : (top l p).Perm (top k p) := by
  unfold top
  rw [greatest_same fun x => (held_perm h p).mem_iff]
  exact (h.filter _).map _
theorem priced_perm {l k : List Rule} (h : l.Perm k) (p : Piece) : priced l p = priced k p := by
  rw [priced_top, priced_top, pricedOf_perm (top_perm h p)]
theorem differ_none {a b : List Rule} (h : ∀ p ∈ allPieces, priced a p = priced b p) : differ a b = (⟨0, 0, 0⟩, 6) := by
  unfold differ
  have : allPieces.find? (differs a b) = none := by
    rw [List.find?_eq_none]
    intro p hp
    simp [differs, h p hp]
  rw [this]
theorem MadeOk.pos {n : Nat} {l : List Rule} (h : MadeOk n l) : ∀ r ∈ l, 0 ≤ r.p := fun r hr => by have := (h.ok r hr).2; omega
theorem MadeOk.law {n : Nat} {l : List Rule} (h : MadeOk n l) (p : Piece) : lawPriced l p = priced l p := lawPriced_eq h.pos p
end Price
end Go.Proofs.YtkmcacgeecfjgaaGreatDoor
end
section
namespace Go.Proofs.YtkmcacgeecfjgaaGreatDoor
open Go.RowKit Go.Shelf
set_option maxRecDepth 100000
namespace Price
/-- The rules with some numbers. -/
def chosen (l : List Rule) (ns : List Int) : List Rule := ns.map fun i => l.getD i.toNat default
end Price
theorem chosen_spec (A : Option Addr) (l : List Rule) (c : Nat) (A' : Option Addr) (ns : List Int) (c' : Nat) (w : World) (hm : l.length ≤ big) (hs : Sl ruleE w A l) (hm' : ns.length ≤ 1000) (hs' : Sl intE w A' ns) (hn : ∀ i ∈ ns, 0 ≤ i ∧ i < l.length) :
    Calls Tryz.prog 40 #[.slice A l.length c, .slice A' ns.length c'] w fun e w' => ∃ v, e = .returned v ∧ Own ruleE 29 w.heap.size w' v (Price.chosen l ns) ∧ Below w.heap.size w w' := by
  unfold big at hm
  have HN := Lib.hid hn
  clear hn
  go_enter Tryz.func40, Tryz.ntmps40
  go_wp2
  go_loopw [5, 7, 10] (fun v _ i wr => ∃ k : Nat, k ≤ ns.length ∧ i = iv k ∧ Own ruleE 29 w.heap.size wr v (Price.chosen l (ns.take k)) ∧ Below w.heap.size w wr) (fun _ _ i _ => ns.length - (intOf i).toNat)
  case atStart => exact ⟨0, by omega, rfl, Own.nil, Below.refl _ _⟩
  case round =>
    obtain ⟨k, hk, rfl, hown, hbw⟩ := hrel
    have hzr := hbw.size
    by_cases hlt : k < ns.length
    · obtain ⟨b, off, i, rfl, hb, hx, hc⟩ := (hs'.below hbw).atI hlt
      have hib := HN.out i (mem_at hx)
      obtain ⟨jj, rfl⟩ := Int.eq_ofNat_of_zero_le hib.1
      have hjl : jj < l.length := by omega
      obtain ⟨b2, off2, r, rfl, hb2, hr, hc0, hc1, hc2, hc3⟩ := (hs.below hbw).atR hjl
      have hta : Price.chosen l (ns.take (k + 1)) = Price.chosen l (ns.take k) ++ [r] := by
        rw [take_at hx]; unfold Price.chosen; rw [List.map_append]
        simp only [List.map_cons, List.map_nil, Int.toNat_natCast]
        rw [List.getD_eq_getElem?_getD, hr]; rfl
      have HTA := Lib.hid hta
      have hll : (Price.chosen l (ns.take k)).length ≤ 1000 := by unfold Price.chosen; rw [List.length_map, List.length_take]; omega
      obtain ⟨ra, rb, rc, rd⟩ := r
      dsimp only at hc0 hc1 hc2 hc3
      have hji : (jj : Int) < (l.length : Int) := by omega
      clear hta hx hr
      go_wp2_with (at_builtin; refine wpApp1 ruleE tyRules rfl _ _ rfl hown ⟨ra, rb, rc, rd⟩ rfl rfl rfl hzr (by unfold big; omega) ?_; intro v' w5 hown5 hb5 hk5)
      clear hk5
      go_roundw
      case rel => exact ⟨k + 1, by omega, by go_num, by rw [HTA.out]; exact hown5, hbw.trans hb5⟩
      case measure => simp [intOf]; omega
    · rw [List.take_of_length_le (by omega)] at hown
      go_wp2
      go_ret
      exact ⟨_, rfl, hown, hbw⟩
end Go.Proofs.YtkmcacgeecfjgaaGreatDoor
end
section
namespace Go.Proofs.YtkmcacgeecfjgaaGreatDoor
namespace Price
/-- The first number, from one on, for which something is found. -/
def firstK (f : Nat → Option (List Int)) : Nat → Nat → Option (List Int)
  | 0, _ => none
  | c + 1, k => match f k with
    | some x => some x
    | none => firstK f c (k + 1)
/-- The first list that goes on with d further numbers below a limit, from one on, and has what is wished. -/
def moreOf (holds : List Int → Bool) (limit : Nat) : Nat → List Int → Nat → Option (List Int)
  | 0, l, _ => if holds l then some l else none
  | d + 1, l, fr => firstK (fun k => moreOf holds limit d (l ++ [(k : Int)]) (k + 1)) (limit - fr) fr
/-- The shortest one, from a number of numbers on. -/
def manyOf (holds : List Int → Bool) (limit : Nat) : Nat → Nat → Option (List Int)
  | 0, _ => none
  | c + 1, m => match moreOf holds limit m [] 0 with
    | some x => some x
    | none => manyOf holds limit c (m + 1)
theorem firstK_some {f : Nat → Option (List Int)} : ∀ (c k : Nat) (x : List Int), firstK f c k = some x → ∃ j, k ≤ j ∧ j < k + c ∧ f j = some x ∧ ∀ i, k ≤ i → i < j → f i = none := by
  intro c
  induction c with
  | zero => intro k x h; cases h
  | succ c ih =>
    intro k x h
    simp only [firstK] at h
    cases hf : f k with
    | some y =>
      rw [hf] at h
      injection h with h
      subst h
      exact ⟨k, Nat.le_refl _, by omega, hf, fun i h1 h2 => by omega⟩
    | none =>
      rw [hf] at h
      obtain ⟨j, h1, h2, h3, h4⟩ := ih _ _ h
      refine ⟨j, by omega, by omega, h3, fun i h5 h6 => ?_⟩
      by_cases e : i = k
      · subst e; exact hf
      · exact h4 i (by omega) h6
theorem firstK_none {f : Nat → Option (List Int)} : ∀ (c k : Nat), firstK f c k = none → ∀ i, k ≤ i → i < k + c → f i = none := by
  intro c
  induction c with
  | zero => intro k _ i h1 h2; omega
  | succ c ih =>
    intro k h i h1 h2
    simp only [firstK] at h
    cases hf : f k with
    | some y => rw [hf] at h; cases h
    | none =>
      rw [hf] at h
      by_cases e : i = k
      · subst e; exact hf
      · exact ih _ h i (by omega) (by omega)
/-- Numbers that rise, from one on, below a limit. -/
def Rises (limit : Nat) : Nat → List Int → Prop
  | _, [] => True
  | fr, x :: l => (fr : Int) ≤ x ∧ x < limit ∧ Rises limit (x.toNat + 1) l
theorem moreOf_some {holds : List Int → Bool} {limit : Nat} : ∀ (d : Nat) (l : List Int) (fr : Nat) (x : List Int), moreOf holds limit d l fr = some x → ∃ t, x = l ++ t ∧ t.length = d ∧ Rises limit fr t ∧ holds x = true := by
  intro d
  induction d with
  | zero =>
    intro l fr x h
    simp only [moreOf] at h
    split at h
    · rename_i hh
      injection h with h
      subst h
      exact ⟨[], by simp, rfl, trivial, hh⟩
    · cases h
  | succ d ih =>
    intro l fr x h
    simp only [moreOf] at h
    obtain ⟨j, h1, h2, h3, _⟩ := firstK_some _ _ _ h
    obtain ⟨t, h4, h5, h6, h7⟩ := ih _ _ _ h3
    refine ⟨(j : Int) :: t, by rw [h4]; simp, by simp [h5], ⟨by omega, by omega, ?_⟩, h7⟩
    simpa using h6
/-- No list before the one that is found has what is wished. -/
theorem moreOf_none {holds : List Int → Bool} {limit : Nat} : ∀ (d : Nat) (l : List Int) (fr : Nat), moreOf holds limit d l fr = none → ∀ t : List Int, t.length = d → Rises limit fr t → holds (l ++ t) = false := by
  intro d
  induction d with
  | zero =>
    intro l fr h t ht _
    rw [List.length_eq_zero_iff.1 ht, List.append_nil]
    simp only [moreOf] at h
    split at h
    · cases h
    · rename_i hh; simpa using hh
  | succ d ih =>
    intro l fr h t ht hr
    cases t with
    | nil => simp at ht
    | cons x t =>
      obtain ⟨h1, h2, h3⟩ := hr
      obtain ⟨j, rfl⟩ := Int.eq_ofNat_of_zero_le (by omega : 0 ≤ x)
      simp only [moreOf] at h
      have h4 := firstK_none _ _ h j (by omega) (by omega)
      have := ih _ _ h4 t (by simpa using ht) (by simpa using h3)
      simpa using this
/-- Is a list before another one of as many numbers? -/
def lexLt : List Int → List Int → Prop
  | x :: l, y :: k => x < y ∨ (x = y ∧ lexLt l k)
  | _, _ => False
theorem moreOf_first {holds : List Int → Bool} {limit : Nat} : ∀ (d : Nat) (l : List Int) (fr : Nat) (t : List Int), moreOf holds limit d l fr = some (l ++ t) → t.length = d → ∀ s : List Int, s.length = d → Rises limit fr s → lexLt s t → holds (l ++ s) = false := by
  intro d
  induction d with
  | zero => intro l fr t _ ht s hs _ hlt; rw [List.length_eq_zero_iff.1 hs] at hlt; cases t <;> exact hlt.elim
  | succ d ih =>
    intro l fr t h ht s hs hr hlt
    simp only [moreOf] at h
    obtain ⟨j, h1, h2, h3, h4⟩ := firstK_some _ _ _ h
    cases t with
    | nil => simp at ht
    | cons y t =>
      cases s with
      | nil => simp at hs
      | cons x s =>
        obtain ⟨h5, h6, h7⟩ := hr
        obtain ⟨t', h8, h9, h10, _⟩ := moreOf_some _ _ _ _ h3
        have hy : y = (j : Int) ∧ t = t' := by
          have : y :: t = (j : Int) :: t' := by
            have h11 : l ++ (y :: t) = l ++ ((j : Int) :: t') := by rw [h8]; simp
            exact List.append_cancel_left h11
          injection this with e1 e2
          exact ⟨e1, e2⟩
        obtain ⟨rfl, rfl⟩ := hy
        obtain ⟨i, rfl⟩ := Int.eq_ofNat_of_zero_le (by omega : 0 ≤ x)
        rcases hlt with hlt | ⟨hxy, hlt⟩
        · have h11 := h4 i (by omega) (by omega)
          have := moreOf_none _ _ _ h11 s (by simpa using hs) (by simpa using h7)
          simpa using this
        · obtain rfl : i = j := by omega
          have := ih (l ++ [(i : Int)]) (i + 1) t (by rw [h3]; simp) h9 s (by simpa using hs) (by simpa using h7) hlt
          simpa using this
end Price
end Go.Proofs.YtkmcacgeecfjgaaGreatDoor
namespace Go.Proofs.YtkmcacgeecfjgaaGreatDoor
open Go.RowKit Go.Shelf
set_option maxRecDepth 100000
namespace Price
/-- Do some rules give the same prices as all? -/
def givesP (l : List Rule) (ns : List Int) : Bool := decide ((differ l (chosen l ns)).2 = 6)
end Price
set_option maxHeartbeats 4000000 in
theorem wish_spec (A : Option Addr) (l : List Rule) (c : Nat) (A' : Option Addr) (ns : List Int) (c' : Nat) (bx : Nat) (w : World) (hm : l.length ≤ big) (hs : Sl ruleE w A l) (hp : ∀ r ∈ l, 0 ≤ r.p ∧ r.p ≤ 500) (hm' : ns.length ≤ 1000) (hs' : Sl intE w A' ns) (hn : ∀ i ∈ ns, 0 ≤ i ∧ i < l.length)
    (hbx : bx < w.heap.size) (hcb : w.cell? ⟨bx, 0, none⟩ = some (.slice A l.length c)) :
    Calls Tryz.prog 38 #[.slice A' ns.length c', .pointer (some ⟨bx, 0, none⟩)] w fun e w' => e = .returned (.bool (Price.givesP l ns)) ∧ Below w.heap.size w w' := by
  have hpc : ∀ r ∈ Price.chosen l ns, 0 ≤ r.p ∧ r.p ≤ 500 := fun r hr => by
    obtain ⟨i, hi, rfl⟩ := List.mem_map.1 hr
    have hib := hn i hi
    have hlt : i.toNat < l.length := by omega
    rw [List.getD_eq_getElem?_getD, List.getElem?_eq_getElem hlt]
    exact hp _ (List.getElem_mem hlt)
  have HC : Hid (∀ W, Below w.heap.size w W → Calls Tryz.prog 40 #[.slice A l.length c, .slice A' ns.length c'] W fun e w' => ∃ v, e = .returned v ∧ Own ruleE 29 W.heap.size w' v (Price.chosen l ns) ∧ Below W.heap.size W w') := fun W h => chosen_spec A l c A' ns c' W hm (hs.below h) hm' (hs'.below h) hn
  obtain ⟨⟨⟨da, db, dc⟩, de⟩, hd⟩ : ∃ x, x = Price.differ l (Price.chosen l ns) := ⟨_, rfl⟩
  have HD : Hid (∀ W A2 c2, Below w.heap.size w W → Sl ruleE W A2 (Price.chosen l ns) → Calls Tryz.prog 39 #[.slice A l.length c, .slice A2 (Price.chosen l ns).length c2] W fun e w' => e = .returned (.tuple #[.agg #[iv da, iv db, iv dc], iv de]) ∧ Below W.heap.size W w') := fun W A2 c2 h h2 => by
    have := differ_spec A l c A2 (Price.chosen l ns) c2 W hm (hs.below h) hp (by unfold Price.chosen big; rw [List.length_map]; omega) h2 hpc
    rw [← hd] at this
    exact this
  have hg : Price.givesP l ns = decide (de = 6) := by unfold Price.givesP; rw [← hd]
  rw [hg]
  have HSS : Hid (∀ a : World, Below w.heap.size w a → Below w.heap.size w a ∧ a.cell? ⟨bx, 0, none⟩ = some (.slice A l.length c)) := fun a h => ⟨h, (h.cell (p := ⟨bx, 0, none⟩) hbx).trans hcb⟩
  have HK0 := Lib.hid (HSS.out w.drew (Below.refl _ _).drew)
  clear hd hg hpc hs hs' hp hn hcb
  go_enter Tryz.func38, Tryz.ntmps38
  go_wp2_with fail
  go_region_held3 (fun a => Below w.heap.size w a ∧ a.cell? ⟨bx, 0, none⟩ = some (.slice A l.length c))
    (first | assumption | exact HK0.out | exact HSS.out _ (((HX2.out.setCell (p := ⟨x1.heap.size, 0, none⟩) HX1.out.size _).setCell (p := ⟨x1.heap.size, 1, none⟩) HX1.out.size _).setCell (p := ⟨x1.heap.size, 2, none⟩) HX1.out.size _) | exact HSS.out _ (((HX2.out.setCell (p := ⟨w.heap.size, 0, none⟩) (Nat.le_refl _) _).setCell (p := ⟨w.heap.size, 1, none⟩) (Nat.le_refl _) _).setCell (p := ⟨w.heap.size, 2, none⟩) (Nat.le_refl _) _) | exact HSS.out _ HX2.out | exact HSS.out _ HX1.out | exact HSS.out _ (HX2.out.alloc HX2.out.size _) | exact HSS.out _ (HX1.out.alloc HX1.out.size _) | exact HSS.out _ ((Below.refl _ w).drew.alloc (Nat.le_refl _) _))
    (first
      | (go_at_call 40; refine (HC.out _ (And.left ‹Below w.heap.size w _ ∧ _›)).mono ?_; rintro e x1 ⟨v, rfl, hown, hbx1⟩; have HX1 := Lib.hid ((And.left ‹Below w.heap.size w _ ∧ _›).next hbx1 (Nat.le_refl _)); obtain ⟨A2, c2, rfl, _, _⟩ := hown.form; have hsl2 := Lib.hid hown.sl; (try (have hB9 := Blk.under (Blk.new_ w.drew 78 #[iv 0, iv 0, iv 0] (g := w.heap.size) rfl) hbx1; have HB9 := Lib.hid hB9; clear hB9)))
      | (go_at_call 39; refine (HD.out _ _ _ (And.left ‹Below w.heap.size w _ ∧ _›) (by first | exact hsl2.out | exact hsl2.out.alloc _)).mono ?_; rintro e x2 ⟨rfl, hbx2⟩; have HX2 := Lib.hid ((And.left ‹Below w.heap.size w _ ∧ _›).next hbx2 (Nat.le_refl _)); (try (have hB7 := HB9.out.under hbx2; have HB7 := Lib.hid hB7; obtain ⟨n0, n1, n2, n3, n4, n5⟩ := hB7.facts; clear hB7)); (try (have hB8 := Blk.under (Blk.new_ x1 78 #[iv 0, iv 0, iv 0] (g := x1.heap.size) rfl) hbx2; have HB8 := Lib.hid hB8; obtain ⟨m0, m1, m2, m3, m4, m5⟩ := hB8.facts; clear hB8))))
  all_goals
    have hbz := Lib.hid (And.left ‹Below w.heap.size w _ ∧ _›)
    cases hde : (de == 6)
    · go_wp2
      go_ret
      exact ⟨ret_eq (by rw [decide_eq_false (by simpa using hde)]; rfl), hbz.out⟩
    · go_wp2
      go_ret
      exact ⟨ret_eq (by rw [decide_eq_true (by simpa using hde)]; rfl), hbz.out⟩
end Go.Proofs.YtkmcacgeecfjgaaGreatDoor
namespace Go.Proofs.YtkmcacgeecfjgaaGreatDoor
namespace Price
/-- Is a list before another one of as many numbers, in lexicographic order? -/
def lexB : List Int → List Int → Bool
  | x :: l, y :: k => if x = y then lexB l k else decide (x < y)
  | _, _ => false
/-- Is a list shorter than another one, or as long, and first? -/
def beforeB (a b : List Int) : Bool := if a.length = b.length then lexB a b else decide (a.length < b.length)
/-- The first one of the shortest lists of numbers below a limit that have what is wished. -/
structure First (g : List Int → Bool) (limit : Nat) (x : List Int) : Prop where
  rises : Rises limit 0 x
  holds : g x = true
  least : ∀ s, Rises limit 0 s → g s = true → beforeB s x = false
theorem lexLt_of : ∀ {a b : List Int}, lexB a b = true → lexLt a b := by
  intro a
  induction a with
  | nil => intro b h; cases b <;> cases h
  | cons x a ih =>
    intro b h
    cases b with
    | nil => cases h
    | cons y b =>
      simp only [lexB] at h
      split at h
      · exact .inr ⟨by assumption, ih h⟩
      · exact .inl (by simpa using h)
theorem rises_len {limit : Nat} : ∀ {s : List Int} {fr : Nat}, Rises limit fr s → fr ≤ limit → s.length + fr ≤ limit := by
  intro s
  induction s with
  | nil => intro fr _ h; simpa using h
  | cons x s ih =>
    intro fr h hf
    obtain ⟨h1, h2, h3⟩ := h
    have := ih h3 (by omega)
    simp only [List.length_cons]; omega
theorem rises_mem {limit : Nat} : ∀ {s : List Int} {fr : Nat}, Rises limit fr s → ∀ x ∈ s, (fr : Int) ≤ x ∧ x < limit := by
  intro s
  induction s with
  | nil => intro fr _ x h; cases h
  | cons y s ih =>
    intro fr h x hx
    obtain ⟨h1, h2, h3⟩ := h
    rcases List.mem_cons.1 hx with rfl | hx
    · exact ⟨h1, h2⟩
    · have := ih h3 x hx; omega
theorem manyOf_some {g : List Int → Bool} {limit : Nat} : ∀ (c m : Nat) (x : List Int), manyOf g limit c m = some x → ∃ d, m ≤ d ∧ d < m + c ∧ moreOf g limit d [] 0 = some x ∧ ∀ i, m ≤ i → i < d → moreOf g limit i [] 0 = none := by
  intro c
  induction c with
  | zero => intro m x h; cases h
  | succ c ih =>
    intro m x h
    simp only [manyOf] at h
    cases hm : moreOf g limit m [] 0 with
    | some y =>
      rw [hm] at h
      injection h with h
      subst h
      exact ⟨m, Nat.le_refl _, by omega, hm, fun i h1 h2 => by omega⟩
    | none =>
      rw [hm] at h
      obtain ⟨d, h1, h2, h3, h4⟩ := ih _ _ h
      refine ⟨d, by omega, by omega, h3, fun i h5 h6 => ?_⟩
      by_cases e : i = m
      · subst e; exact hm
      · exact h4 i (by omega) h6
theorem manyOf_none {g : List Int → Bool} {limit : Nat} : ∀ (c m : Nat), manyOf g limit c m = none → ∀ i, m ≤ i → i < m + c → moreOf g limit i [] 0 = none := by
  intro c
  induction c with
  | zero => intro m _ i h1 h2; omega
  | succ c ih =>
    intro m h i h1 h2
    simp only [manyOf] at h
    cases hm : moreOf g limit m [] 0 with
    | some y => rw [hm] at h; cases h
    | none =>
      rw [hm] at h
      by_cases e : i = m
      · subst e; exact hm
      · exact ih _ h i (by omega) (by omega)
theorem first_of {g : List Int → Bool} {limit : Nat} {x : List Int} (h : manyOf g limit (limit + 1) 0 = some x) : First g limit x := by
  obtain ⟨d, _, h2, h3, h4⟩ := manyOf_some _ _ _ h
  obtain ⟨t, h5, h6, h7, h8⟩ := moreOf_some _ _ _ _ h3
  rw [List.nil_append] at h5
  subst h5
  refine ⟨h7, h8, fun s hs hg => ?_⟩
  rw [Bool.eq_false_iff]
  intro hb
  unfold beforeB at hb
  by_cases e : s.length = x.length
  · rw [if_pos e] at hb
    have := moreOf_first d [] 0 x (by simpa using h3) h6 s (by omega) hs (lexLt_of hb)
    rw [List.nil_append, hg] at this
    cases this
  · rw [if_neg e, decide_eq_true_eq] at hb
    have := moreOf_none s.length [] 0 (h4 s.length (by omega) (by omega)) s rfl hs
    rw [List.nil_append, hg] at this
    cases this
theorem first_some {g : List Int → Bool} {limit : Nat} {s : List Int} (hs : Rises limit 0 s) (hg : g s = true) : ∃ x, manyOf g limit (limit + 1) 0 = some x := by
  cases h : manyOf g limit (limit + 1) 0 with
  | some x => exact ⟨x, rfl⟩
  | none =>
    have h1 := rises_len hs (by omega)
    have := moreOf_none s.length [] 0 (manyOf_none _ _ h s.length (by omega) (by omega)) s rfl hs
    rw [List.nil_append, hg] at this
    cases this
/-- The numbers of a set, from one on. -/
def bits : Nat → Nat → Nat → List Int
  | 0, _, _ => []
  | c + 1, i, s => if s % 2 = 1 then (i : Int) :: bits c (i + 1) (s / 2) else bits c (i + 1) (s / 2)
theorem rises_up {limit : Nat} {fr : Nat} : ∀ {s : List Int}, Rises limit (fr + 1) s → Rises limit fr s := by
  intro s h
  cases s with
  | nil => trivial
  | cons x s => exact ⟨by have := h.1; omega, h.2.1, h.2.2⟩
/-- All numbers. -/
def allNs (n : Nat) : List Int := (List.range n).map fun (i : Nat) => (i : Int)
theorem rises_range' {limit : Nat} : ∀ (n k : Nat), k + n = limit → Rises limit k ((List.range' k n).map fun (i : Nat) => (i : Int)) := by
  intro n
  induction n with
  | zero => intro k _; trivial
  | succ n ih =>
    intro k h
    rw [List.range'_succ, List.map_cons]
    exact ⟨Int.le_refl _, by omega, by simpa using ih (k + 1) (by omega)⟩
theorem allNs_rises (n : Nat) : Rises n 0 (allNs n) := by
  unfold allNs
  rw [List.range_eq_range']
  exact rises_range' n 0 (by omega)
theorem chosen_all (l : List Rule) : chosen l (allNs l.length) = l := by
  unfold chosen allNs
  rw [List.map_map]
  refine List.ext_getElem (by simp) fun i h1 h2 => ?_
  simp only [List.getElem_map, List.getElem_range, Function.comp_apply, Int.toNat_natCast]
  rw [List.getD_eq_getElem?_getD, List.getElem?_eq_getElem h2]; rfl
theorem gives_all (l : List Rule) : givesP l (allNs l.length) = true := by
  unfold givesP
  rw [chosen_all, differ_none fun p _ => rfl]
  rfl
/-- The shortest list. -/
theorem short_some (l : List Rule) : ∃ x, manyOf (givesP l) l.length (l.length + 1) 0 = some x ∧ First (givesP l) l.length x := by
  obtain ⟨x, hx⟩ := first_some (allNs_rises l.length) (gives_all l)
  exact ⟨x, hx, first_of hx⟩
theorem differ_iff {a b : List Rule} : (differ a b).2 = 6 ↔ ∀ p ∈ allPieces, priced a p = priced b p := by
  constructor
  · intro h p hp
    unfold differ at h
    cases hf : allPieces.find? (differs a b) with
    | some q => rw [hf] at h; exact absurd (show (0 : Int) = 6 from h) (by decide)
    | none =>
      rw [List.find?_eq_none] at hf
      have := hf p hp
      unfold differs at this
      simp only [Bool.or_eq_true, bne_iff_ne, not_or, Decidable.not_not] at this
      exact Prod.ext this.1 this.2
  · intro h
    rw [differ_none h]
theorem gives_iff {l : List Rule} {ns : List Int} : givesP l ns = true ↔ ∀ p ∈ allPieces, priced l p = priced (chosen l ns) p := by
  unfold givesP
  rw [decide_eq_true_eq, differ_iff]
end Price
end Go.Proofs.YtkmcacgeecfjgaaGreatDoor
namespace Go.Proofs.YtkmcacgeecfjgaaGreatDoor
namespace Price
theorem chosen_cons (l : List Rule) (i : Int) (x : List Int) : chosen l (i :: x) = l.getD i.toNat default :: chosen l x := rfl
theorem chosen_length (l : List Rule) (x : List Int) : (chosen l x).length = x.length := by unfold chosen; rw [List.length_map]
theorem chosen_sub {l : List Rule} : ∀ {x : List Int} {fr : Nat}, Rises l.length fr x → (chosen l x).Sublist (l.drop fr) := by
  intro x
  induction x with
  | nil => intro fr _; exact List.nil_sublist _
  | cons i x ih =>
    intro fr h
    obtain ⟨h1, h2, h3⟩ := h
    obtain ⟨j, rfl⟩ := Int.eq_ofNat_of_zero_le (by omega : 0 ≤ i)
    have hj : j < l.length := by omega
    rw [Int.toNat_natCast] at h3
    have hs := ih h3
    rw [chosen_cons, Int.toNat_natCast, List.getD_eq_getElem?_getD, List.getElem?_eq_getElem hj]
    have hd : (l.drop j).Sublist (l.drop fr) := List.drop_sublist_drop_left _ (by omega)
    rw [List.drop_eq_getElem_cons hj] at hd
    exact (hs.cons_cons _).trans hd
theorem sub_chosen_go : ∀ (r pre t : List Rule), t.Sublist r → ∃ x, Rises (pre ++ r).length pre.length x ∧ chosen (pre ++ r) x = t := by
  intro r
  induction r with
  | nil => intro pre t h; rw [List.sublist_nil.1 h]; exact ⟨[], trivial, rfl⟩
  | cons a r ih =>
    intro pre t h
    have hap : pre ++ [a] ++ r = pre ++ a :: r := by simp
    cases h with
    | cons _ h =>
      obtain ⟨x, h1, h2⟩ := ih (pre ++ [a]) t h
      rw [hap] at h1 h2
      rw [show (pre ++ [a]).length = pre.length + 1 by simp] at h1
      exact ⟨x, rises_up h1, h2⟩
    | cons_cons _ h =>
      obtain ⟨x, h1, h2⟩ := ih (pre ++ [a]) _ h
      rw [hap] at h1 h2
      rw [show (pre ++ [a]).length = pre.length + 1 by simp] at h1
      refine ⟨(pre.length : Int) :: x, ⟨by omega, by simp; omega, by rw [Int.toNat_natCast]; exact h1⟩, ?_⟩
      rw [chosen_cons, h2, Int.toNat_natCast, List.getD_eq_getElem?_getD, List.getElem?_append_right (Nat.le_refl _), Nat.sub_self]
      rfl
theorem sub_chosen {l t : List Rule} (h : t.Sublist l) : ∃ x, Rises l.length 0 x ∧ chosen l x = t := sub_chosen_go l [] t h
/-- No fewer rules give the same prices. -/
theorem First.few {l t : List Rule} {x : List Int} (h : First (givesP l) l.length x) (hs : t.Sublist l) (hp : ∀ p ∈ allPieces, priced l p = priced t p) : x.length ≤ t.length := by
  obtain ⟨z, hz, rfl⟩ := sub_chosen hs
  have hb := h.least z hz (gives_iff.2 hp)
  rw [chosen_length]
  unfold beforeB at hb
  split at hb
  · omega
  · simp at hb; omega
theorem First.sub {l : List Rule} {x : List Int} (h : First (givesP l) l.length x) : (chosen l x).Sublist l := by have := chosen_sub h.rises; simpa using this
theorem First.same {l : List Rule} {x : List Int} (h : First (givesP l) l.length x) : ∀ p ∈ allPieces, priced l p = priced (chosen l x) p := gives_iff.1 h.holds
theorem First.again {l k : List Rule} {x y : List Int} (h : First (givesP l) l.length x) (hk : k.Perm (chosen l x)) (hy : First (givesP k) k.length y) : y.length = x.length := by
  have h1 := rises_len hy.rises (by omega)
  rw [hk.length_eq, chosen_length] at h1
  obtain ⟨t, ht1, ht2⟩ := List.exists_perm_sublist hy.sub hk
  have := h.few (ht2.trans h.sub) fun p hp => by
    rw [h.same p hp, ← priced_perm hk p, hy.same p hp, priced_perm ht1 p]
  rw [ht1.length_eq, chosen_length] at this
  omega
theorem MadeOk.sub {n : Nat} {l k : List Rule} (h : MadeOk n l) (hs : k.Sublist l) : MadeOk n k :=
  ⟨Nat.le_trans hs.length_le h.len, h.nodup.sublist hs, fun r hr => h.ok r (hs.subset hr)⟩
theorem MadeOk.more {n : Nat} {l k : List Rule} {r : Rule} (h : MadeOk n l) (hk : MadeOk n k) (hl : k.length < n) (hr : r ∈ l) (hn : ¬ r ∈ k) : MadeOk n (k ++ [r]) :=
  ⟨by rw [List.length_append, List.length_singleton]; omega, List.nodup_append.2 ⟨hk.nodup, List.nodup_cons.2 ⟨List.not_mem_nil, List.nodup_nil⟩, fun a ha b hb => by rw [List.mem_singleton.1 hb]; intro e; rw [e] at ha; exact hn ha⟩, fun q hq => by
    rcases List.mem_append.1 hq with h1 | h1
    · exact hk.ok q h1
    · rw [List.mem_singleton.1 h1]; exact h.ok r hr⟩
end Price
end Go.Proofs.YtkmcacgeecfjgaaGreatDoor
end
