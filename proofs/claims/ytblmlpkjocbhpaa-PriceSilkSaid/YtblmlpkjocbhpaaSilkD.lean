/- Package silk, for a mill of one lot: what weighings say, and the bounds. Conditions: weighings that are right. -/
import Derived.Test.YtblmlpkjocbhpaaSilkC
import Derived.Deep.QuietTactic
import Derived.BigQuiet
import Derived.Deep.RegionHeld3
set_option linter.unusedVariables false
set_option linter.unusedSimpArgs false
namespace Go.Proofs.Ytblmlpkjocbhpaa
open Go.RowKit Go.Maps
set_option maxRecDepth 100000
theorem least_one (g : Nat) (m n : Int) (w : World) (hs : Sl intE w (some ⟨g, 0, none⟩) [m]) : Calls Try.prog 153 #[iv n, .slice (some ⟨g, 0, none⟩) 1 1] w fun e w' => e = .returned (iv (min n m)) ∧ w = w' := by
  go_enter Try.func153, Try.ntmps153
  go_wp2_with fail
  go_loopw [0, 6, 9] (fun v _ i wr => ∃ k : Nat, k ≤ 1 ∧ i = iv k ∧ v = iv (if k = 0 then n else min n m) ∧ wr = w) (fun _ _ i _ => 1 - (intOf i).toNat)
  case atStart => exact ⟨0, by omega, rfl, rfl, rfl⟩
  case round =>
    obtain ⟨k, hk, rfl, rfl, rfl⟩ := hrel
    by_cases hlt : k < 1
    · have hk0 : k = 0 := by omega
      subst hk0
      obtain ⟨b, off, x, hA, hb, hx, hc0⟩ := hs.atI (k := 0) (by simp)
      injection hA with hA
      injection hA with h1 h2
      subst h1 h2
      have hxe : x = m := by simpa using hx.symm
      subst hxe
      have hki : ((0 : Nat) : Int) < 1 := by omega
      simp only [Nat.zero_mul, Nat.add_zero] at hc0
      clear hx
      simp only [if_pos]
      go_wp2_with fail
      go_roundw
      case rel => exact ⟨1, by omega, rfl, rfl, trivial⟩
      case measure => simp [intOf]
    · have hki : ¬ (k : Int) < 1 := by omega
      have hk1 : k ≠ 0 := by omega
      simp only [if_neg hk1]
      go_wp2_with fail
      go_ret
      exact ⟨rfl, rfl⟩
def Weigh.sLo (x : Weigh) : Int := (100 * max 0 (x.reads - 1) + (100 + x.hi) - 1) / (100 + x.hi)
def Weigh.sHi (x : Weigh) : Int := min 10000 (100 * (x.reads + 1) / (100 + x.lo))
set_option maxHeartbeats 4000000 in
theorem says_spec (gd : Nat) (l : Value) (Aw : Option Addr) (ws : List Weigh) (c k : Nat) (x : Weigh) (w : World) (hd : DeskOk w gd l (.slice Aw ws.length c)) (hs : Sl weighE w Aw ws) (hx : ws[k]? = some x) (hok : x.Ok) :
    Calls Try.prog 163 #[.pointer (some ⟨gd, 0, none⟩), iv k] w fun e w' => e = .returned (.agg #[iv x.sLo, iv x.sHi]) ∧ Below w.heap.size w w' := by
  obtain ⟨gm, gp, cp, hB, _, _⟩ := hd
  obtain ⟨hkl, hx'⟩ := List.getElem?_eq_some_iff.1 hx
  have hki : (k : Int) < (ws.length : Int) := by omega
  obtain ⟨b, off, y, rfl, hb, hy, hc0, hc1, hc2, hc3⟩ := hs.atW hkl
  have hxy : y = x := by rw [hx] at hy; injection hy with hy; exact hy.symm
  subst hxy
  obtain ⟨h1, h2, h3, h4, h5⟩ := hok
  obtain ⟨x0, x1, x2, x3⟩ := y
  dsimp only at h1 h2 h3 h4 h5 hc0 hc1 hc2 hc3
  have n0 := hB.cell
  have n1 := hB.lt
  have e1 : IntKind.i64.wrap (100 + x3) = 100 + x3 := IntWalk.i64_in _ (by omega)
  have e2 : IntKind.i64.wrap (100 + x2) = 100 + x2 := IntWalk.i64_in _ (by omega)
  have e3 : IntKind.i64.wrap (x1 - 1) = x1 - 1 := IntWalk.i64_in _ (by omega)
  have e4 : IntKind.i64.wrap (x1 + 1) = x1 + 1 := IntWalk.i64_in _ (by omega)
  have e5 : IntKind.i64.wrap (100 * (x1 + 1)) = 100 * (x1 + 1) := IntWalk.i64_in _ (by omega)
  have e6 : IntKind.i64.wrap (100 * max 0 (x1 - 1)) = 100 * max 0 (x1 - 1) := IntWalk.i64_in _ (by omega)
  have e7 : IntKind.i64.wrap (100 * max 0 (x1 - 1) + (100 + x3)) = 100 * max 0 (x1 - 1) + (100 + x3) := IntWalk.i64_in _ (by omega)
  have e8 : IntKind.i64.wrap (100 * max 0 (x1 - 1) + (100 + x3) - 1) = 100 * max 0 (x1 - 1) + (100 + x3) - 1 := IntWalk.i64_in _ (by omega)
  have ez1 : ¬ (100 + x3 = 0) := by omega
  have ez2 : ¬ (100 + x2 = 0) := by omega
  have eg1 : (0 : Int) ≤ 100 * max 0 (x1 - 1) + (100 + x3) - 1 := by omega
  have eg2 : (0 : Int) ≤ 100 * (x1 + 1) := by omega
  have ed1 : (100 * max 0 (x1 - 1) + (100 + x3) - 1).tdiv (100 + x3) = (100 * max 0 (x1 - 1) + (100 + x3) - 1) / (100 + x3) := Int.tdiv_eq_ediv_of_nonneg eg1
  have ed2 : (100 * (x1 + 1)).tdiv (100 + x2) = (100 * (x1 + 1)) / (100 + x2) := Int.tdiv_eq_ediv_of_nonneg eg2
  have el1 : (100 * max 0 (x1 - 1) + (100 + x3) - 1) / (100 + x3) ≤ 100 * max 0 (x1 - 1) + (100 + x3) - 1 := Int.ediv_le_self _ eg1
  have el2 : (100 * (x1 + 1)) / (100 + x2) ≤ 100 * (x1 + 1) := Int.ediv_le_self _ eg2
  have en1 : 0 ≤ (100 * max 0 (x1 - 1) + (100 + x3) - 1) / (100 + x3) := Int.ediv_nonneg eg1 (by omega)
  have en2 : 0 ≤ (100 * (x1 + 1)) / (100 + x2) := Int.ediv_nonneg eg2 (by omega)
  have ew1 : IntKind.i64.wrap ((100 * max 0 (x1 - 1) + (100 + x3) - 1) / (100 + x3)) = (100 * max 0 (x1 - 1) + (100 + x3) - 1) / (100 + x3) := IntWalk.i64_in _ (by omega)
  have ew2 : IntKind.i64.wrap ((100 * (x1 + 1)) / (100 + x2)) = (100 * (x1 + 1)) / (100 + x2) := IntWalk.i64_in _ (by omega)
  clear el1 el2 en1 en2
  go_enter Try.func163, Try.ntmps163
  go_wp2_with fail
  have hbx : Below w.heap.size w ((w.alloc (.cells #[iv 0, iv 0] 121)).alloc (.cells #[iv 0, iv x1, iv x2, iv x3] 129)) := ((Below.refl _ _).alloc (Nat.le_refl _) _).alloc (by simp) _
  have hS0 : Blk ((w.alloc (.cells #[iv 0, iv 0] 121)).alloc (.cells #[iv 0, iv x1, iv x2, iv x3] 129)) w.heap.size 121 #[iv 0, iv 0] := (Blk.new w _ _).under ((Below.refl _ _).alloc (by simp) _)
  have hW0 : Blk ((w.alloc (.cells #[iv 0, iv 0] 121)).alloc (.cells #[iv 0, iv x1, iv x2, iv x3] 129)) (w.heap.size + 1) 129 #[iv 0, iv x1, iv x2, iv x3] := by
    have := Blk.new (w.alloc (.cells #[iv 0, iv 0] 121)) 129 #[iv 0, iv x1, iv x2, iv x3]
    rwa [show (w.alloc (.cells #[iv 0, iv 0] 121)).heap.size = w.heap.size + 1 by simp] at this
  have hB0 := hB.under hbx
  generalize (w.alloc (.cells #[iv 0, iv 0] 121)).alloc (.cells #[iv 0, iv x1, iv x2, iv x3] 129) = w2 at *
  have m0 := hW0.cell
  have m1 := hB0.cell
  have m2 := hW0.lt
  have m3 := hB0.lt
  clear n0 hc0 hc1 hc2 hc3 hb hy hs hx hx'
  go_quiet (fail)
  go_wp2_with fail
  have hbn : Below w.heap.size w (w2.drewN nq) := ⟨hbx.os, hbx.tape, hbx.output, hbx.size, hbx.block⟩
  have hSn : Blk (w2.drewN nq) w.heap.size 121 #[iv 0, iv 0] := hS0
  have hWn : Blk (w2.drewN nq) (w.heap.size + 1) 129 #[iv 0, iv x1, iv x2, iv x3] := hW0
  have hDn : Blk (w2.drewN nq) gd 181 #[iv 1, l, .slice (some ⟨b, off, none⟩) ws.length c, .map (some gm)] := hB0
  generalize w2.drewN nq = w3 at *
  clear m0 m1 m2 m3 hS0 hW0 hB0 hbx e1 e2
  have hszn : w.heap.size ≤ w3.heap.size := hbn.size
  have HFF : Hid (∀ a : World, Below w3.heap.size w3 a → Below w.heap.size w a ∧ a.cell? ⟨w.heap.size + 1, 1, none⟩ = some (iv x1) ∧ a.cell? ⟨gd, 0, none⟩ = some (iv 1)) := fun a h => ⟨hbn.next h (Nat.le_refl _), (hWn.under h).cell 1, (hDn.under h).cell 0⟩
  have HFS : Hid (∀ (a : World) (u v : Value), Below w3.heap.size w3 a → Below w.heap.size w ((a.setCell ⟨w.heap.size, 0, none⟩ u).setCell ⟨w.heap.size, 1, none⟩ v) ∧ ((a.setCell ⟨w.heap.size, 0, none⟩ u).setCell ⟨w.heap.size, 1, none⟩ v).cell? ⟨w.heap.size + 1, 1, none⟩ = some (iv x1) ∧ ((a.setCell ⟨w.heap.size, 0, none⟩ u).setCell ⟨w.heap.size, 1, none⟩ v).cell? ⟨gd, 0, none⟩ = some (iv 1)) := fun a u v h => by
    have e1 : ((a.setCell ⟨w.heap.size, 0, none⟩ u).setCell ⟨w.heap.size, 1, none⟩ v).heap[w.heap.size + 1]? = a.heap[w.heap.size + 1]? := by rw [Below.heap_setCell _ _ _ _ (by simp), Below.heap_setCell _ _ _ _ (by simp)]
    have e2 : ((a.setCell ⟨w.heap.size, 0, none⟩ u).setCell ⟨w.heap.size, 1, none⟩ v).heap[gd]? = a.heap[gd]? := by rw [Below.heap_setCell _ _ _ _ (by simp; omega), Below.heap_setCell _ _ _ _ (by simp; omega)]
    refine ⟨((hbn.next h (Nat.le_refl _)).setCell (Nat.le_refl _) _).setCell (Nat.le_refl _) _, ?_, ?_⟩
    · rw [World.cell?_of_block e1]; exact (hWn.under h).cell 1
    · rw [World.cell?_of_block e2]; exact (hDn.under h).cell 0
  have HSn := Lib.hid hSn
  clear hSn
  have HK0 := Lib.hid (HFF.out w3.drew (Below.refl _ w3).drew)
  have HLE : Hid (∀ (m : Int), Calls Try.prog 153 #[iv 10000, .slice (some ⟨w3.heap.size, 0, none⟩) 1 1] (w3.alloc (.cells #[iv m] 3)).drew fun e w' => e = .returned (iv (min 10000 m)) ∧ Below w3.heap.size w3 w') := fun m =>
    (least_one w3.heap.size m 10000 _ (by exact Sl.fresh intE w3 3 #[iv m] [m] rfl (by simp [maxLen]))).mono fun e w' h => ⟨h.1, h.2 ▸ ((Below.refl _ w3).alloc (Nat.le_refl _) _).drew⟩
  go_region_held3 (fun a => Below w.heap.size w a ∧ a.cell? ⟨w.heap.size + 1, 1, none⟩ = some (iv x1) ∧ a.cell? ⟨gd, 0, none⟩ = some (iv 1))
    (first | assumption | exact HK0.out | exact HF4 | exact HFS.out _ _ _ HB4.out | exact HFF.out _ ((Below.refl _ w3).alloc (Nat.le_refl _) _).drew | exact HFF.out _ ((Below.refl _ w3).drew.alloc (Nat.le_refl _) _))
    ((go_at_call 153; refine (HLE.out _).mono ?_; rintro e w4 ⟨rfl, hb4⟩; have HB4 := Lib.hid hb4; have HF4 := HFF.out _ hb4; have hbS := HSn.out.under hb4; have HBS := Lib.hid hbS; obtain ⟨n0, n1, n2, n3, n4, n5⟩ := hbS.facts; clear hbS hb4))
  all_goals
    have HBZ := Lib.hid ((HBS.out.set_ 0 (iv ((100 * max 0 (x1 - 1) + (100 + x3) - 1) / (100 + x3)))).set_ 1 (iv (min 10000 (100 * (x1 + 1) / (100 + x2)))))
    have HBY := HFS.out w4 (iv ((100 * max 0 (x1 - 1) + (100 + x3) - 1) / (100 + x3))) (iv (min 10000 (100 * (x1 + 1) / (100 + x2)))) HB4.out
    go_wp2_with fail
    exact bodyPost_ret (results_cell_row (P := Try.prog) (fn := Try.f163) (p := 4) (ty := 121) (by kernel_rfl) _ _ w.heap.size 121 _ (0, 0) _ (by rfl) HBZ.out Try.underlying121 (by rfl) (by kernel_rfl)) rfl ⟨rfl, HBY.1⟩
end Go.Proofs.Ytblmlpkjocbhpaa
