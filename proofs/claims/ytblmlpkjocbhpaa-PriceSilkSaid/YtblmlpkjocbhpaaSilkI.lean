/- Package silk, for a mill of one lot: shares. Conditions: weighings that are right. -/
import Derived.Test.YtblmlpkjocbhpaaSilkH
set_option linter.unusedVariables false
set_option linter.unusedSimpArgs false
namespace Go.Proofs.Ytblmlpkjocbhpaa
open Go.RowKit Go.Maps
set_option maxRecDepth 100000
set_option maxHeartbeats 4000000 in
theorem shares_spec (gd : Nat) (Al : Option Addr) (cl : Nat) (x : Value) (lo hi : Int) (K : Nat) (cap : Array Value) (ch : Bool) (w : World) (hd : DeskOk w gd (.slice Al 1 cl) x) (hl : Sl lotE w Al [⟨-1, 2⟩])
    (hK : ∀ (args : Array Value) (w : World), (callFunc K args).run Try.prog w = .ok (.enter K args) w) (hf : ∀ w', Below w.heap.size w w' → Calls Try.prog K (#[iv 2] ++ cap) w' fun e w'' => e = .returned (.bool ch) ∧ Below w'.heap.size w' w'') :
    Calls Try.prog 122 #[.pointer (some ⟨gd, 0, none⟩), bndV lo hi, iv 0, .func (.func K) #[] cap] w fun e w' => e = .returned (.tuple #[iv (if ch then lo else 0), iv (if ch then 0 else hi)]) ∧ Below w.heap.size w w' := by
  obtain ⟨gm, gp, cp, hB, hO, _⟩ := hd
  have HF := Lib.hid hf
  have hLK : Hid (∀ a : World, Below w.heap.size w a → (Instr.lookup 179 (.map (some gm)) (iv 0) false).run Try.prog a = .ok nilV a) := fun a h => (hO.below h).lookup_other Try.underlying3 Try.underlying179 (zeroSl a) (keyInt (by decide)) (by decide)
  have n0 := hB.cell
  have n1 := hB.lt
  go_enter Try.func122, Try.ntmps122
  go_upto_region 1 with fail
  have hb1 : Below w.heap.size w (w.alloc (.cells (bndA lo hi) 176)) := (Below.refl _ _).alloc (Nat.le_refl _) _
  have hBb : Blk (w.alloc (.cells (bndA lo hi) 176)) w.heap.size 176 (bndA lo hi) := Blk.new _ _ _
  have hl2 := hLK.out _ hb1
  have hB1 := hB.under hb1
  have hLots := hl.below hb1
  unfold nilV at hl2
  generalize w.alloc (.cells (bndA lo hi) 176) = w1 at *
  have m0 := hB1.cell
  have m1 := hB1.lt
  clear n0 n1
  obtain ⟨b, off, y, rfl, hbl, hy, hc0, hc1⟩ := hLots.atL (k := 0) (by simp)
  have hye : y = ⟨-1, 2⟩ := by simpa using hy.symm
  subst hye
  simp only [Nat.zero_mul, Nat.add_zero] at hc0 hc1
  clear hy
  have R1 := Lib.hid (HF.out w1 hb1)
  have HBb := Lib.hid hBb
  clear hBb hLK HF hf
  go_wp2_with fail
  refine R1.out.mono ?_
  rintro e w2 ⟨rfl, hb2⟩
  have hB2 := HBb.out.under hb2
  have q0 := hB2.cell 0
  have q1 := hB2.cell 1
  rw [bndA_get0] at q0
  rw [bndA_get1] at q1
  have q2 := hB2.lt
  have HB02 := Lib.hid (hb1.next hb2 (Nat.le_refl _))
  clear hB2 R1 hb2
  cases ch
  · go_wp2_with fail
    go_quiet (fail)
    have HBQ : Below w.heap.size w (w2.drewN nq) := ⟨HB02.out.os, HB02.out.tape, HB02.out.output, HB02.out.size, HB02.out.block⟩
    go_wp2_with fail
    go_ret2
    exact ⟨rfl, HBQ⟩
  · go_wp2_with fail
    go_ret2
    exact ⟨rfl, HB02.out⟩
end Go.Proofs.Ytblmlpkjocbhpaa
