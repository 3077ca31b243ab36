/- Package silk, for a mill of one lot: the bounds. Conditions: weighings that are right. -/
import Derived.Test.YtblmlpkjocbhpaaSilkD
import Derived.ChangeKeysEq
set_option linter.unusedVariables false
set_option linter.unusedSimpArgs false
namespace Go.Proofs.Ytblmlpkjocbhpaa
open Go.RowKit Go.Maps
set_option maxRecDepth 100000
def bndA (lo hi : Int) : Array Value := #[iv lo, iv hi, iv 0, iv 0, iv 0, iv 0, iv 0, iv 0, iv 0, iv 0, iv 0, iv 0, iv 0, iv 0, iv 0, iv 0, iv 0, iv 0, iv 0, iv 0, iv 0, iv 0, iv 0, iv 0]
theorem bndA_size (lo hi : Int) : (bndA lo hi).size = 24 := rfl
theorem bndA_one (lo hi : Int) : (bndA lo hi).all (·.oneCell') = true := by rw [← Array.all_toList]; rfl
theorem bndA_get0 (lo hi : Int) : (bndA lo hi)[0]? = some (iv lo) := rfl
theorem bndA_get1 (lo hi : Int) : (bndA lo hi)[1]? = some (iv hi) := rfl
abbrev zeroA : Array Value := #[iv 0, iv 0, iv 0, iv 0, iv 0, iv 0, iv 0, iv 0, iv 0, iv 0, iv 0, iv 0, iv 0, iv 0, iv 0, iv 0, iv 0, iv 0, iv 0, iv 0, iv 0, iv 0, iv 0, iv 0]
theorem bndA_info (lo hi : Int) : ((Try.prog).info? 176).map (·.size) = some (bndA lo hi).size := by rw [bndA_size]; kernel_rfl
attribute [irreducible] bndA
abbrev bndV (lo hi : Int) : Value := .agg (bndA lo hi)
theorem fieldsSpan : ((Try.prog).fieldsOf 121).toList.map (fun f => (f.name, f.type, f.offset)) = [("Lo", 3, 0), ("Hi", 3, 1)] := by kernel_rfl
theorem eqSpan (a b : Int) (w : World) : (Op.equalIn 9999 121 (.agg #[iv a, iv b]) (.agg #[iv a, iv b])).run Try.prog w = .ok true w := by
  have h := run_equalIn_agg (P := Try.prog) w 9998 121 #[iv a, iv b] #[iv a, iv b] (by kernel_rfl) (by kernel_rfl)
  rw [h]
  have h3 : ∀ (x y : Int) (d : Nat), (Op.equalIn (d + 1) 3 (iv x) (iv y)).run Try.prog w = .ok (x == y) w := fun x y d => run_equalIn_int w d _ _ _ _ _ Try.underlying3
  have hf := fieldsSpan
  have hlen : ((Try.prog).fieldsOf 121).toList.length = 2 := by have := congrArg List.length hf; simpa using this
  obtain ⟨f0, f1, hl⟩ : ∃ a b, ((Try.prog).fieldsOf 121).toList = [a, b] := by
    match ((Try.prog).fieldsOf 121).toList, hlen with
    | [a, b], _ => exact ⟨a, b, rfl⟩
  rw [hl] at hf ⊢
  simp only [List.map_cons, List.map_nil, List.cons.injEq, Prod.mk.injEq, and_true] at hf
  obtain ⟨⟨n0, t0, o0⟩, n1, t1, o1⟩ := hf
  have hp0 : ∀ a b : Int, (part 3 #[iv a, iv b] 0).run Try.prog w = .ok (iv a) w := fun _ _ => by kernel_rfl
  have hp1 : ∀ a b : Int, (part 3 #[iv a, iv b] 1).run Try.prog w = .ok (iv b) w := fun _ _ => by kernel_rfl
  simp only [Op.eqFields, n0, n1, t0, t1, o0, o1]
  simp [hp0, hp1, h3, Result.andThen, Sem.run_bind]
theorem bnd_eq (lo hi : Int) (w : World) : (Op.equalIn 10000 176 (bndV lo hi) (bndV lo hi)).run Try.prog w = .ok true w := by
  obtain ⟨i, hi'⟩ : ∃ i, (Try.prog).info? 121 = some i := ⟨_, rfl⟩
  rw [run_equalIn_array w 9999 _ _ Try.underlying176 hi', show (Try.prog).cellsOf 121 = 2 by kernel_rfl]
  have hp0 : (part 121 (bndA lo hi) 0).run Try.prog w = .ok (.agg #[iv lo, iv hi]) w := by unfold bndA; kernel_rfl
  have q1 : (part 121 (bndA lo hi) 2).run Try.prog w = .ok (.agg #[iv 0, iv 0]) w := by unfold bndA; kernel_rfl
  have q2 : (part 121 (bndA lo hi) 4).run Try.prog w = .ok (.agg #[iv 0, iv 0]) w := by unfold bndA; kernel_rfl
  have q3 : (part 121 (bndA lo hi) 6).run Try.prog w = .ok (.agg #[iv 0, iv 0]) w := by unfold bndA; kernel_rfl
  have q4 : (part 121 (bndA lo hi) 8).run Try.prog w = .ok (.agg #[iv 0, iv 0]) w := by unfold bndA; kernel_rfl
  have q5 : (part 121 (bndA lo hi) 10).run Try.prog w = .ok (.agg #[iv 0, iv 0]) w := by unfold bndA; kernel_rfl
  have q6 : (part 121 (bndA lo hi) 12).run Try.prog w = .ok (.agg #[iv 0, iv 0]) w := by unfold bndA; kernel_rfl
  have q7 : (part 121 (bndA lo hi) 14).run Try.prog w = .ok (.agg #[iv 0, iv 0]) w := by unfold bndA; kernel_rfl
  have q8 : (part 121 (bndA lo hi) 16).run Try.prog w = .ok (.agg #[iv 0, iv 0]) w := by unfold bndA; kernel_rfl
  have q9 : (part 121 (bndA lo hi) 18).run Try.prog w = .ok (.agg #[iv 0, iv 0]) w := by unfold bndA; kernel_rfl
  have q10 : (part 121 (bndA lo hi) 20).run Try.prog w = .ok (.agg #[iv 0, iv 0]) w := by unfold bndA; kernel_rfl
  have q11 : (part 121 (bndA lo hi) 22).run Try.prog w = .ok (.agg #[iv 0, iv 0]) w := by unfold bndA; kernel_rfl
  rw [show List.range 12 = [0, 1, 2, 3, 4, 5, 6, 7, 8, 9, 10, 11] from rfl]
  simp [Op.eqItems, Sem.run_bind, hp0, q1, q2, q3, q4, q5, q6, q7, q8, q9, q10, q11, Result.andThen, eqSpan]
set_option maxHeartbeats 400000 in
theorem tight_one (gd : Nat) (A : Option Addr) (c : Nat) (x : Value) (lo hi : Int) (w : World) (hd : DeskOk w gd (.slice A 1 c) x) (h : lo ≤ hi) :
    Calls Try.prog 164 #[.pointer (some ⟨gd, 0, none⟩), bndV lo hi] w fun e w' => e = .returned (.tuple #[bndV lo hi, .bool true]) ∧ Below w.heap.size w w' := by
  obtain ⟨gm, gp, cp, hB, hO, _⟩ := hd
  have hLK : Hid (∀ a : World, Below w.heap.size w a → (Instr.lookup 179 (.map (some gm)) (iv 0) false).run Try.prog a = .ok nilV a) := fun a h => (hO.below h).lookup_other Try.underlying3 Try.underlying179 (zeroSl a) (keyInt (by decide)) (by decide)
  have n0 := hB.cell
  have n1 := hB.lt
  have hh : ¬ hi < lo := by omega
  clear hO
  go_enter Try.func164, Try.ntmps164
  go_wp2_with fail
  have hB0 : Blk (w.alloc (.cells (bndA lo hi) 176)) w.heap.size 176 (bndA lo hi) := Blk.new _ _ _
  have hb0 : Below w.heap.size w (w.alloc (.cells (bndA lo hi) 176)) := (Below.refl _ _).alloc (Nat.le_refl _) _
  have hz0 : (w.alloc (.cells (bndA lo hi) 176)).heap.size = w.heap.size + 1 := by simp
  generalize w.alloc (.cells (bndA lo hi) 176) = w0 at *
  have hBr : Blk (w0.alloc (.cells zeroA 176)) (w.heap.size + 1) 176 zeroA := by
    rw [← hz0]; exact Blk.new _ _ _
  have hb1 : Below w0.heap.size w0 (w0.alloc (.cells zeroA 176)) := (Below.refl _ _).alloc (Nat.le_refl _) _
  generalize w0.alloc (.cells zeroA 176) = w1 at *
  have hBb := hB0.under hb1
  have hb01 := hb0.next hb1 (Nat.le_refl _)
  have hBd := hB.under hb01
  have hgle : w.heap.size ≤ w.heap.size + 1 := Nat.le_succ _
  generalize w.heap.size + 1 = gr at *
  generalize hgb : w.heap.size = gb at *
  clear hB0 hb0 hb1 hB n0
  go_loopw [7] (fun _ wr => wr = w1) (fun _ _ => 0)
  case atStart => rfl
  case round =>
    subst hrel
    have m0 : wr.cell? ⟨gb, 0, none⟩ = some (iv lo) := by rw [hBb.cell, bndA_get0]
    have m00 : wr.cell? ⟨gb, 1, none⟩ = some (iv hi) := by rw [hBb.cell, bndA_get1]
    have m2 := hBb.lt
    have m3 := hBd.lt
    have hgr := hBr.lt
    clear m0 m00
    go_upto_region 3 with (first | (refine wpList_load_row rfl 176 _ rfl gb rfl 176 _ (0, 0) _ hBb Try.underlying176 rfl (bndA_info lo hi) ?_) | (refine wpList_store_row rfl 176 _ _ rfl wr.heap.size _ rfl rfl 176 zeroA (heap_alloc_new wr _) (bndA_info lo hi) (by rw [bndA_size]; rfl) (bndA_one lo hi) ?_))
    simp only [Act.put]
    have hx0 : Below wr.heap.size wr ((wr.alloc (.cells zeroA 176)).setRow wr.heap.size (bndA lo hi)) := below_setRow ((Below.refl _ _).alloc (Nat.le_refl _) _) (Nat.le_refl _) _
    have hBn : Blk ((wr.alloc (.cells zeroA 176)).setRow wr.heap.size (bndA lo hi)) wr.heap.size 176 (bndA lo hi) := setRow_heap _ _ _ _ _ _ (heap_alloc_new wr _)
    change Code.wp _ _ _ _ ((wr.alloc (.cells zeroA 176)).setRow wr.heap.size (bndA lo hi))
    generalize (wr.alloc (.cells zeroA 176)).setRow wr.heap.size (bndA lo hi) = w2 at *
    have hBb2 := hBb.under hx0
    have hBd2 := hBd.under hx0
    have hBr2 := hBr.under hx0
    have hb02 := hb01.next hx0 (by have := hb01.size; omega)
    generalize wr.heap.size = gn at *
    have m1 := hBd2.cell
    have m3 := hBd2.lt
    have heq : ∀ w, (Op.equalIn 10000 176 (bndV lo hi) (bndV lo hi)).run Try.prog w = .ok true w := bnd_eq lo hi
    go_wp2_with fail
    go_loopw [8, 9, 24] (fun _ _ i y => ∃ k : Nat, k ≤ 1 ∧ i = iv k ∧ Below w2.heap.size w2 y) (fun _ _ i _ => 1 - (intOf i).toNat)
    case atStart => exact ⟨0, by omega, rfl, Below.refl _ _⟩
    case round =>
      obtain ⟨k, hk, rfl, hby⟩ := hrel
      by_cases hlt : k < 1
      · have hk0 : k = 0 := by omega
        subst hk0
        have hki : ((0 : Nat) : Int) < 1 := by omega
        have m0 : wr.cell? ⟨gb, 0, none⟩ = some (iv lo) := by rw [(hBb2.under hby).cell, bndA_get0]
        have m00 : wr.cell? ⟨gb, 1, none⟩ = some (iv hi) := by rw [(hBb2.under hby).cell, bndA_get1]
        have m2 := (hBb2.under hby).lt
        have m4 := (hBd2.under hby).cell
        have m5 := (hBd2.under hby).lt
        have hHY := Lib.hid hby
        have HB2 := Lib.hid (hb02.next hby (Nat.le_of_eq hgb.symm))
        clear hby
        go_upto_region 6 with fail
        go_quiet (fail)
        have hl2 := hLK.out (wr.drewN nq) ⟨HB2.out.os, HB2.out.tape, HB2.out.output, HB2.out.size, HB2.out.block⟩
        have HBR : Hid (Below w2.heap.size w2 (wr.drewN nq)) := (by exact ⟨hHY.out.os, hHY.out.tape, hHY.out.output, hHY.out.size, hHY.out.block⟩ : Below w2.heap.size w2 (wr.drewN nq))
        unfold nilV at hl2
        go_wp2_with fail
        go_roundw
        case rel => exact ⟨1, by omega, rfl, HBR.out⟩
        case measure => simp [intOf]
      · have hki : ¬ (k : Int) < 1 := by omega
        have hBb3 := hBb2.under hby
        have hBn3 := hBn.under hby
        have hBr3 := hBr2.under hby
        have hb03 := hb02.next hby (Nat.le_of_eq hgb.symm)
        clear hby
        go_wp2_with (first | (refine wpList_load_row rfl 176 _ rfl gb rfl 176 _ (0, 0) _ hBb3 Try.underlying176 rfl (bndA_info lo hi) ?_) | (refine wpList_load_row rfl 176 _ rfl gn rfl 176 _ (0, 0) _ hBn3 Try.underlying176 rfl (bndA_info lo hi) ?_) | (refine wpList_store_row rfl 176 _ _ rfl gr _ rfl rfl 176 zeroA hBr3 (bndA_info lo hi) (by rw [bndA_size]; rfl) (bndA_one lo hi) ?_))
        have hr := run_loadVar_row (P := Try.prog) (wr.setRow gr (bndA lo hi)) gr 176 176 (bndA lo hi) (0, 0) _ (setRow_heap _ _ _ _ _ _ hBr3) Try.underlying176 rfl (bndA_info lo hi)
        refine bodyPost_ret (v := .tuple #[bndV lo hi, .bool true]) ?_ rfl ⟨rfl, below_setRow hb03 hgle _⟩
        rw [results_cell_tmp (p := 4) (u := 5) (ty := 176) (by kernel_rfl)]
        simp [asAddr, hr]
end Go.Proofs.Ytblmlpkjocbhpaa
