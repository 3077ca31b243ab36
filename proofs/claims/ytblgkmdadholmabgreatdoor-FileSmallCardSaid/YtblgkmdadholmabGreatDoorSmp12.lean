/- What the proof of the claim's theorem uses, part 12. The conditions stand in each statement. -/
import Derived.Test.YtblgkmdadholmabGreatDoorSmp11
set_option linter.unusedVariables false
set_option linter.unusedSimpArgs false
set_option maxRecDepth 100000
namespace Go.Proofs.YtblgkmdadholmabGreatDoor
section
namespace File
def Calm (X Y : List (Edit ByteArray)) (ky jx jy : Nat) : Prop := ∀ x, X[jx]? = some x → ∀ m y, ky ≤ m → m < jy → Y[m]? = some y → meet x y = false
def Idle (C D : List (Edit ByteArray)) (k0 k1 i0 i1 t j0 j1 : Nat) (z : Bool) : Prop := z = false → j0 = i0 ∧ j1 = i1 ∧ (1 ≤ t → Calm C D k1 i0 i1) ∧ (2 ≤ t → Calm D C k0 i1 i0)
def at2 (t n p0 p1 : Nat) : Nat × Nat := if t = 0 then (n, p1) else (p0, n)
end File
namespace Fl
open Go.RowKit
def cellN (w : World) (g o : Nat) : Nat := match w.cell? ⟨g, o, none⟩ with
 | some v => (intOf v).toNat
 | none => 0
def boolN : Value → Nat
 | .bool true => 1
 | _ => 0
theorem Blk.cellN {w : World} {g o : Nat} {t : TypeId} {cs : Array Value} {n : Nat} (h : Blk w g t cs) (hc : cs[o]? = some (iv (n : Int))) : cellN w g o = n := by
 unfold Fl.cellN;rw [h.cell o, hc];simp [intOf]
structure Twin (wR : World) (gC gD : Nat) (C D : List (File.Edit ByteArray)) (k0 k1 : Nat) (bk : File.Block ByteArray) (j0 j1 t : Nat) (vX vY : List EdV) (AX AY : Option Addr) (dX dY u jx jy ky : Nat) : Prop where
 ut : u + t = 1
 lx : vX.length ≤ 25
 ly : vY.length ≤ 25
 hjx : jx ≤ vX.length
 hky : ky ≤ jy
 hjy : jy ≤ vY.length
 cells : ∀ W, Below wR.heap.size wR W → W.cell? ⟨gC, t, none⟩ = some (.slice AX vX.length dX) ∧ W.cell? ⟨gC, u, none⟩ = some (.slice AY vY.length dY) ∧ W.cell? ⟨gD, u, none⟩ = some (iv (ky : Int)) ∧ gC < W.heap.size ∧ gD < W.heap.size
 slx : ∀ W, Below wR.heap.size wR W → Sl edE W AX vX
 sly : ∀ W, Below wR.heap.size wR W → Sl edE W AY vY
 small : ∀ r, r ∈ vX ∨ r ∈ vY → 0 ≤ r.at_ ∧ r.at_ ≤ 24 ∧ r.old.length ≤ 24 ∧ r.new.length ≤ 24
 grow : ∀ n m x y, File.Grows C D k0 k1 bk (File.at2 t n j0 j1).1 (File.at2 t n j0 j1).2 → (vX.map EdV.ed)[n]? = some x → ky ≤ m → m < jy → (vY.map EdV.ed)[m]? = some y → File.meet x y = true → File.Grows C D k0 k1 bk (File.at2 t (n + 1) j0 j1).1 (File.at2 t (n + 1) j0 j1).2
 place : ∀ n, (#[iv ((File.at2 t n j0 j1).1 : Int), iv ((File.at2 t n j0 j1).2 : Int)] : Array Value)[t]? = some (iv (n : Int)) ∧ (#[iv ((File.at2 t n j0 j1).1 : Int), iv ((File.at2 t n j0 j1).2 : Int)] : Array Value)[u]? = some (iv (jy : Int)) ∧ (File.at2 t n j0 j1).1 + (File.at2 t n j0 j1).2 + jx = j0 + j1 + n
 set_ : ∀ n, (#[iv ((File.at2 t n j0 j1).1 : Int), iv ((File.at2 t n j0 j1).2 : Int)] : Array Value).setIfInBounds t (iv ((n : Int) + 1)) = #[iv ((File.at2 t (n + 1) j0 j1).1 : Int), iv ((File.at2 t (n + 1) j0 j1).2 : Int)]
 self : File.at2 t jx j0 j1 = (j0, j1)
 calm : File.Calm (vX.map EdV.ed) (vY.map EdV.ed) ky jx jy → (t = 0 → File.Calm C D k1 j0 j1) ∧ (t = 1 → File.Calm D C k0 j1 j0)
theorem alike_of {wR : World} {gC gD : Nat} {C D : List (File.Edit ByteArray)} {k0 k1 j0 j1 t : Nat} {bk : File.Block ByteArray} {rl : List (File.Block ByteArray)} {vs0 vs1 : List EdV} {C0 C1 : Option Addr} {d0 d1 : Nat}
  (hst : File.Steps (C.drop k0) (D.drop k1) (bk :: rl)) (hg : File.Grows C D k0 k1 bk j0 j1) (hq0 : vs0.map EdV.ed = C) (hq1 : vs1.map EdV.ed = D) (hv0 : vs0.length ≤ 25) (hv1 : vs1.length ≤ 25) (hn0 : k0 + bk.e0.length ≤ vs0.length) (hn1 : k1 + bk.e1.length ≤ vs1.length)
  (hw : ∀ W, Below wR.heap.size wR W → Blk W gC 156 #[.slice C0 vs0.length d0, .slice C1 vs1.length d1] ∧ Blk W gD 75 #[iv (k0 : Int), iv (k1 : Int)] ∧ Sl edE W C0 vs0 ∧ Sl edE W C1 vs1)
  (hsm : ∀ r, r ∈ vs0 ∨ r ∈ vs1 → 0 ≤ r.at_ ∧ r.at_ ≤ 24 ∧ r.old.length ≤ 24 ∧ r.new.length ≤ 24) (ht : t < 2) :
  ∃ (vX vY : List EdV) (AX AY : Option Addr) (dX dY u jx jy ky : Nat), Twin wR gC gD C D k0 k1 bk j0 j1 t vX vY AX AY dX dY u jx jy ky := by
 have e1 := hg.lo0;have e2 := hg.hi0;have e3 := hg.lo1;have e4 := hg.hi1
 by_cases ht0 : t = 0
 ·subst ht0;refine ⟨vs0, vs1, C0, C1, d0, d1, 1, j0, j1, k1, ⟨rfl, hv0, hv1, by omega, by omega, by omega, fun W h => ?_, fun W h => (hw W h).2.2.1, fun W h => (hw W h).2.2.2, hsm, fun n m x y hgr hx hm hm2 hy hmt => ?_, fun n => ⟨rfl, rfl, ?_⟩, fun n => by simp [File.at2], rfl, fun h => ⟨fun _ => ?_, fun h => by cases h⟩⟩⟩
  ·obtain ⟨q1, q2, _⟩ := hw W h;exact ⟨q1.cell 0, q1.cell 1, q2.cell 1, q1.lt, q2.lt⟩
  ·rw [hq0] at hx;rw [hq1] at hy;exact File.Grows.in0 hst hgr hx hm hm2 hy hmt
  ·simp [File.at2]; omega
  ·rw [hq0, hq1] at h; exact h
 ·have ht1 : t = 1 := (by omega);subst ht1;refine ⟨vs1, vs0, C1, C0, d1, d0, 0, j1, j0, k0, ⟨rfl, hv1, hv0, by omega, by omega, by omega, fun W h => ?_, fun W h => (hw W h).2.2.2, fun W h => (hw W h).2.2.1, fun r hr => hsm r hr.symm, fun n m x y hgr hx hm hm2 hy hmt => ?_, fun n => ⟨rfl, rfl, ?_⟩, fun n => by simp [File.at2], rfl, fun h => ⟨fun h => (by cases h), fun _ => ?_⟩⟩⟩
  ·obtain ⟨q1, q2, _⟩ := hw W h;exact ⟨q1.cell 1, q1.cell 0, q2.cell 0, q1.lt, q2.lt⟩
  ·rw [hq1] at hx;rw [hq0] at hy;exact File.Grows.in1 hst hgr hx hm hm2 hy hmt
  ·simp [File.at2]; omega
  ·rw [hq0, hq1] at h; exact h
structure Half (w8 : World) (gC gD gB : Nat) (bk : File.Block ByteArray) (t : Nat) (vT : List EdV) (AT : Option Addr) (dT kT iT : Nat) : Prop where
 hki : kT ≤ iT
 hil : iT ≤ vT.length
 hvl : vT.length ≤ 25
 cells : ∀ W, Below w8.heap.size w8 W → W.cell? ⟨gC, t, none⟩ = some (.slice AT vT.length dT) ∧ W.cell? ⟨gD, t, none⟩ = some (iv (kT : Int)) ∧ W.cell? ⟨gB, t, none⟩ = some (iv (iT : Int)) ∧ gC < W.heap.size ∧ gD < W.heap.size ∧ gB < W.heap.size
 slt : ∀ W, Below w8.heap.size w8 W → Sl edE W AT vT
 small : ∀ r, r ∈ vT → 0 ≤ r.at_ ∧ r.at_ ≤ 24 ∧ r.old.length ≤ 24 ∧ r.new.length ≤ 24
 part : ((vT.map EdV.ed).drop kT).take (iT - kT) = if t = 0 then bk.e0 else bk.e1
theorem half_of {w8 : World} {gC gD gB : Nat} {C D : List (File.Edit ByteArray)} {k0 k1 t : Nat} {bk : File.Block ByteArray} {vs0 vs1 : List EdV} {C0 C1 : Option Addr} {d0 d1 : Nat}
  (hf0 : bk.e0 = (C.drop k0).take bk.e0.length) (hf1 : bk.e1 = (D.drop k1).take bk.e1.length) (hq0 : vs0.map EdV.ed = C) (hq1 : vs1.map EdV.ed = D) (hv0 : vs0.length ≤ 25) (hv1 : vs1.length ≤ 25) (hn0 : k0 + bk.e0.length ≤ vs0.length) (hn1 : k1 + bk.e1.length ≤ vs1.length)
  (hw : ∀ W, Below w8.heap.size w8 W → Blk W gC 156 #[.slice C0 vs0.length d0, .slice C1 vs1.length d1] ∧ Blk W gD 75 #[iv (k0 : Int), iv (k1 : Int)] ∧ Blk W gB 75 #[iv ((k0 + bk.e0.length : Nat) : Int), iv ((k1 + bk.e1.length : Nat) : Int)] ∧ Sl edE W C0 vs0 ∧ Sl edE W C1 vs1)
  (hsm : ∀ r, r ∈ vs0 ∨ r ∈ vs1 → 0 ≤ r.at_ ∧ r.at_ ≤ 24 ∧ r.old.length ≤ 24 ∧ r.new.length ≤ 24) (ht : t < 2) :
  ∃ (vT : List EdV) (AT : Option Addr) (dT kT iT : Nat), Half w8 gC gD gB bk t vT AT dT kT iT := by
 by_cases ht0 : t = 0
 ·subst ht0;refine ⟨vs0, C0, d0, k0, k0 + bk.e0.length, ⟨by omega, hn0, hv0, fun W h => ?_, fun W h => (hw W h).2.2.2.1, fun r hr => hsm r (.inl hr), ?_⟩⟩
  ·obtain ⟨q1, q2, q3, _⟩ := hw W h;exact ⟨q1.cell 0, q2.cell 0, q3.cell 0, q1.lt, q2.lt, q3.lt⟩
  ·rw [hq0, if_pos rfl, show k0 + bk.e0.length - k0 = bk.e0.length by omega]; exact hf0.symm
 ·have ht1 : t = 1 := (by omega);subst ht1;refine ⟨vs1, C1, d1, k1, k1 + bk.e1.length, ⟨by omega, hn1, hv1, fun W h => ?_, fun W h => (hw W h).2.2.2.2, fun r hr => hsm r (.inr hr), ?_⟩⟩
  ·obtain ⟨q1, q2, q3, _⟩ := hw W h;exact ⟨q1.cell 1, q2.cell 1, q3.cell 1, q1.lt, q2.lt, q3.lt⟩
  ·rw [hq1, if_neg (by decide), show k1 + bk.e1.length - k1 = bk.e1.length by omega]; exact hf1.symm
theorem part_cons {L : List (File.Edit ByteArray)} {m i : Nat} {x : File.Edit ByteArray} (hx : L[m]? = some x) (hm : m < i) : (L.drop m).take (i - m) = x :: (L.drop (m + 1)).take (i - (m + 1)) := by
 rw [drop_at hx, show i - m = (i - (m + 1)) + 1 by omega, List.take_succ_cons]
theorem cut_ed {A : Option Addr} {vs : List EdV} {c i x : Nat} {w : World} (hc : vs.length ≤ c) (hi : i ≤ x) (hx : x ≤ vs.length) (hs : Sl edE w A vs) :
  ∃ (X : Option Addr) (n : Nat) (ys : List EdV), ys = File.cut vs i x ∧ Sl edE w X ys ∧ ∀ W : World, (Instr.slice 80 (.slice A vs.length c) (some (iv (i : Int))) (some (iv (x : Int))) none).run Tryz.prog W = .ok (.slice X ys.length n) W := by
 refine ⟨cutA A c i 3, c - i, File.cut vs i x, rfl, Sl.cut hs hc hi hx, ?_⟩;have h1 := run_cut edE tyEdR A vs.length c i x hi (Nat.le_trans hx hc);have hl : (File.cut vs i x).length = x - i := by unfold File.cut; rw [List.length_take, List.length_drop]; omega
 rw [hl];exact h1
theorem ownSetE {α : Type} {E : Enc α} {e t : TypeId} {B : Nat} {w : World} {v : Value} {xs : List α} (h : Own E e B w v xs) {g o : Nat} {cs : Array Value} (hB : Blk w g t cs) (ht : t ≠ e) (u : Value) : Own E e B (w.setCell ⟨g, o, none⟩ u) v xs :=
 h.keep (by simp [World.setCell]) fun b hb => Below.heap_setCell w ⟨g, o, none⟩ u b fun e => ownNeBlk h hB ht (by rw [hb, e])
set_option maxHeartbeats 16000000 in
theorem rjoin_spec (A : Option Addr) (base : List ByteArray) (c : Nat) (A1 : Option Addr) (a : List ByteArray) (c1 : Nat) (A2 : Option Addr) (b : List ByteArray) (c2 : Nat) (w : World) (gB : Good base) (ga : Good a) (gb : Good b)
  (hc : base.length ≤ c) (hc1 : a.length ≤ c1) (hc2 : b.length ≤ c2) (hs : Sl strE w A base) (hs1 : Sl strE w A1 a) (hs2 : Sl strE w A2 b) :
  Calls Tryz.prog 61 #[.slice A base.length c, .slice A1 a.length c1, .slice A2 b.length c2] w fun e w' => ∃ v0 v1, e = .returned (.tuple #[v0, v1, iv (File.joinAns base a b).1]) ∧ Own strE 9 w.heap.size w' v0 (File.joinAns base a b).2.1 ∧ Own pairE 103 w.heap.size w' v1 (File.joinAns base a b).2.2 ∧ Below w.heap.size w w' := by
 obtain ⟨ans, hans⟩ : ∃ ans, ans = File.joinAns base a b := ⟨_, rfl⟩;rw [← hans];have hans2 := File.joinAns_good gB ga gb;rw [← hans] at hans2;have HANS := lH hans2;have hB24 : base.length ≤ 24 := gB.many;have hR0 := rdiff_spec A base c A1 a c1 w gB.many ga.many hc hc1 hs hs1;have HR1 := lH fun W (h : Below w.heap.size w W) => rdiff_spec A base c A2 b c2 W gB.many gb.many hc hc2 (hs.below h) (hs2.below h)
 have k0 := File.ch_of (File.back_facts gB ga).1;have k1 := File.ch_of (File.back_facts gB gb).1;have hst := File.blocks_steps (File.chain_diff base a) (File.chain_diff base b);have hbo := File.blocks_ok (File.chain_diff base a) (File.chain_diff base b) (File.within_diff base a) (File.within_diff base b);have hl0 := File.diff_len base a;have hl1 := File.diff_len base b;have hj : File.join base a b = File.joinGo base 0 (File.blocks (File.diff base a) (File.diff base b)) := rfl;obtain ⟨C, hC⟩ : ∃ C, C = File.diff base a := ⟨_, rfl⟩;obtain ⟨D, hD⟩ : ∃ D, D = File.diff base b := ⟨_, rfl⟩;obtain ⟨bl, hbl⟩ : ∃ bl, bl = File.blocks C D := ⟨_, rfl⟩;obtain ⟨J, hJ⟩ : ∃ J, J = File.join base a b := ⟨_, rfl⟩;rw [← hC] at hR0 k0 hl0;rw [← hD] at HR1 k1 hl1;rw [← hC, ← hD, ← hbl] at hst hbo hj;rw [← hJ] at hj HANS;have HJ := lH hj;have HST := lH hst;have HBO := lH hbo;have K0 := lH k0
 have K1 := lH k1;clear hans hans2 hC hD hbl hJ hst hbo hj k0 k1 gB ga gb hs1 hs2
 go_enter Tryz.func61, Tryz.ntmps61
 (go_wp2_with fail);refine hR0.mono ?_;rintro e w1 ⟨v, rfl, vs0, ho0, hq0, hk0, hb1⟩;obtain ⟨C0, d0, rfl, hd0, _⟩ := ho0.form;(go_wp2_with fail);refine (HR1.out w1 hb1).mono ?_;rintro e w2 ⟨v, rfl, vs1, ho1, hq1, hk1, hb2⟩;obtain ⟨C1, d1, rfl, hd1, _⟩ := ho1.form;have hb02 := hb1.next hb2 nL;have hv0 : vs0.length ≤ 25 := by have := congrArg List.length hq0; rw [List.length_map] at this; omega
 have hv1 : vs1.length ≤ 25 := by have := congrArg List.length hq1; rw [List.length_map] at this; omega
 have HQ0 := lH hq0;have HQ1 := lH hq1
 have HSM : Hid (∀ r, r ∈ vs0 ∨ r ∈ vs1 → 0 ≤ r.at_ ∧ r.at_ ≤ 24 ∧ r.old.length ≤ 24 ∧ r.new.length ≤ 24) := lH fun r hr => by
  rcases hr with hr | hr
  ·have hm : r.ed ∈ C := by rw [← hq0]; exact List.mem_map_of_mem hr
   exact ⟨(K0.out.at_ _ hm).1, (K0.out.at_ _ hm).2, K0.out.old _ hm, K0.out.new _ hm⟩
  ·have hm : r.ed ∈ D := by rw [← hq1]; exact List.mem_map_of_mem hr
   exact ⟨(K1.out.at_ _ hm).1, (K1.out.at_ _ hm).2, K1.out.old _ hm, K1.out.new _ hm⟩
 have hbC : Below w2.heap.size w2 (w2.alloc (.cells #[.slice C0 vs0.length d0, .slice C1 vs1.length d1] 156)) := rB.alloc nL _;have hC : Blk (w2.alloc (.cells #[.slice C0 vs0.length d0, .slice C1 vs1.length d1] 156)) w2.heap.size 156 #[.slice C0 vs0.length d0, .slice C1 vs1.length d1] := Blk.new _ _ _;have HV0 := lH ((ho0.below hb2).sl.below hbC);have HV1 := lH (ho1.sl.below hbC)
 have HK : Hid (∀ r, r ∈ vs0 ∨ r ∈ vs1 → EdOk w2 r) := lH fun r hr => by
  rcases hr with hr | hr
  ·exact (hk0 r hr).below hb02
  ·exact (hk1 r hr).below hb2
 clear ho0 ho1 hk0 hk1 hq0 hq1 HR1 hR0 hl0 hl1
 go_upto_region 5 with fail
 generalize w2.alloc (.cells #[.slice C0 vs0.length d0, .slice C1 vs1.length d1] 156) = w4 at *;have hb04 := hb02.next hbC nL;have HK4 : Hid (∀ r, r ∈ vs0 ∨ r ∈ vs1 → EdOk w4 r) := lH fun r hr => (HK.out r hr).below hbC
 have HSB := lH (hs.below hb04);have HB04 := lH hb04;have HC := lH hC;have hgC : w2.heap.size < w4.heap.size := hC.lt;generalize w2.heap.size = gC at *;clear hbC hC HK hb1 hb2 hb02 hs hb04;have hbD : Below w4.heap.size w4 (w4.alloc (.cells #[iv 0, iv 0] 75)) := rB.alloc nL _;have HD0 := lH (Blk.new w4 75 #[iv 0, iv 0]);have hgD : w4.heap.size < (w4.alloc (.cells #[iv 0, iv 0] 75)).heap.size := HD0.out.lt;(go_wp2_with fail);generalize w4.alloc (.cells #[iv 0, iv 0] 75) = wD at *;have HJ0 : Hid ([] ++ (File.joinGo base 0 bl).1 = J.1 ∧ [] ++ (File.joinGo base 0 bl).2 = J.2) := lH (by rw [HJ.out]; exact ⟨rfl, rfl⟩)
 go_loopw [10, 11, 12] (fun vo vc va wr => ∃ (k0 k1 q : Nat) (out : List ByteArray) (cf : List (Nat × Nat)) (bl : List (File.Block ByteArray)), va = iv (q : Int) ∧ q ≤ base.length ∧ k0 ≤ vs0.length ∧ k1 ≤ vs1.length ∧ out.length ≤ (k0 + k1) * 5000 ∧ cf.length ≤ k0 + k1 ∧
  Hid (File.Steps (C.drop k0) (D.drop k1) bl) ∧ Hid (File.BlocksOk base.length q bl) ∧ Hid (out ++ (File.joinGo base q bl).1 = J.1 ∧ cf ++ (File.joinGo base q bl).2 = J.2) ∧
  Hid (Own strE 9 w4.heap.size wr vo out) ∧ Hid (Own pairE 103 w4.heap.size wr vc cf) ∧ Hid (Blk wr w4.heap.size 75 #[iv (k0 : Int), iv (k1 : Int)]) ∧ Below w4.heap.size w4 wr)
  (fun _ _ _ wr => vs0.length + vs1.length - cellN wr w4.heap.size 0 - cellN wr w4.heap.size 1)
 case atStart => exact ⟨0, 0, 0, [], [], bl, rfl, Nat.zero_le _, Nat.zero_le _, Nat.zero_le _, Nat.zero_le _, Nat.zero_le _, HST, HBO, HJ0, Own.nil, Own.nil, HD0, hbD⟩
 case round =>
  clear HST HBO HJ0 HJ HD0 hbD bl;obtain ⟨k0, k1, q, out, cf, bl, rfl, hq, hk0, hk1, hol, hcl, HST, HBO, HREL, HO, HCF, HD, hbr⟩ := hrel
  have hmd : vs0.length + vs1.length - cellN wr w4.heap.size 0 - cellN wr w4.heap.size 1 = vs0.length + vs1.length - k0 - k1 := by
   rw [Blk.cellN HD.out (n := k0) rfl, Blk.cellN HD.out (n := k1) rfl]
  have hCr := HC.out.under hbr;have hDr := HD.out;have gc0 := hCr.cell 0;have gc1 := hCr.cell 1;have gcl := hCr.lt;have gd0 := hDr.cell 0;have gd1 := hDr.cell 1;have gdl := hDr.lt;clear hCr hDr
  cases bl with
  | nil =>
   as_aux_lemma =>
    obtain ⟨z0, z1⟩ := HST.out;have hl0 : C.length = vs0.length := by rw [← HQ0.out, List.length_map]
    have hl1 : D.length = vs1.length := by rw [← HQ1.out, List.length_map]
    have t0 : ¬ (k0 : Int) < (vs0.length : Int) := by have := List.drop_eq_nil_iff.1 z0; omega
    have t1 : ¬ (k1 : Int) < (vs1.length : Int) := by have := List.drop_eq_nil_iff.1 z1; omega
    have hd := HREL.out;simp only [File.joinGo, List.append_nil] at hd;obtain ⟨X, n, ys, hys, hyl, hsy, RC⟩ := cut_from hc hq (HSB.out.below hbr);have HYS := lH hys;have HDD := lH hd;have HO2 := HO.out;obtain ⟨A6, c6, rfl, hc6, _⟩ := HO2.form;have hsz := hbr.size;clear hys hd HST HBO HREL z0 z1 hl0 hl1 hmd;have htot : out ++ ys = J.1 := by rw [HYS.out]; exact HDD.out.1
    have hcf : cf = J.2 := HDD.out.2;have hjl : J.1.length ≤ 1000000 := by rw [← htot, List.length_append]; omega
    subst hcf;have HTOT := lH htot;clear htot HDD
    by_cases h24 : 24 < J.1.length
    ·have h24i : (J.1.length : Int) > 24 := (by omega);have HA : Hid (ans = (2, [], [])) := lH (by rw [HANS.out, if_pos h24]);clear h24
     go_wp2_with (at_builtin; refine wpAppS strE tyStrs rfl _ _ rfl HO2 hsy rfl rfl hsz (by unfold big; omega) ?_; intro v7 w7 hown7 hb7 hk7; rw [HTOT.out] at hown7; obtain ⟨A7, c7, rfl, hc7, _⟩ := hown7.form)
     go_ret3;exact ⟨_, _, by rw [HA.out]; rfl, by rw [HA.out]; exact Own.nil, by rw [HA.out]; exact Own.nil, HB04.out.next (hbr.trans hb7) nL⟩
    ·have h24i : ¬ (J.1.length : Int) > 24 := (by omega);have HA : Hid (ans = (0, J.1, J.2)) := lH (by rw [HANS.out, if_neg h24]);clear h24
     go_wp2_with (at_builtin; refine wpAppS strE tyStrs rfl _ _ rfl HO2 hsy rfl rfl hsz (by unfold big; omega) ?_; intro v7 w7 hown7 hb7 hk7; rw [HTOT.out] at hown7; obtain ⟨A7, c7, rfl, hc7, _⟩ := hown7.form)
     go_ret3;exact ⟨_, _, by rw [HA.out]; rfl, by rw [HA.out]; exact hown7.base HB04.out.size, by rw [HA.out]; exact Own.base (HCF.out.keep hb7.size fun b hb => hk7 b (HCF.out.lt b hb).2 (Own.two HCF.out HO2 (by decide) hb)) HB04.out.size, HB04.out.next (hbr.trans hb7) nL⟩
  | cons bk rl =>
   have hfr := HST.out.front;obtain ⟨f0, f1, hcn, hs2, haf⟩ := hfr;obtain ⟨p1, p2, p3, p4, p5, p6, p7, p8⟩ := HBO.out;have hl0 : C.length = vs0.length := by rw [← HQ0.out, List.length_map]
   have hl1 : D.length = vs1.length := by rw [← HQ1.out, List.length_map]
   have hn0 : k0 + bk.e0.length ≤ vs0.length := by
    have := congrArg List.length f0;rw [List.length_take, List.length_drop] at this;omega
   have hn1 : k1 + bk.e1.length ≤ vs1.length := by
    have := congrArg List.length f1;rw [List.length_take, List.length_drop] at this;omega
   have hfi := hcn.first
   obtain ⟨f, hf⟩ : ∃ f, f = File.firstCopy (C.drop k0) (D.drop k1) := ⟨_, rfl⟩;rw [← hf] at hfi hcn
   have hor : k0 < vs0.length ∨ k1 < vs1.length := by
    cases f
    ·have := List.length_pos_iff.2 (show bk.e0 ≠ [] from hfi); omega
    ·have := List.length_pos_iff.2 (show bk.e1 ≠ [] from hfi); omega
   have HF := lH hf;have HFI := lH hfi;have HCN := lH hcn;have HS2 := lH hs2;have HF0 := lH f0;have HF1 := lH f1;have HP4 := lH p4;have HP5 := lH p5;have HP6 := lH p6;have HP7 := lH p7;have HP8 := lH p8;have HL0 := lH hl0;have HL1 := lH hl1;clear hf hfi hcn hs2 f0 f1 p4 p5 p6 p7 p8 haf hl0 hl1 HBO
   go_upto_region 6 with fail
   go_cut [46] from 33 to 46 (fun v wx => v = .bool true ∧ wx = wr)
   case first =>
    by_cases h0 : k0 < vs0.length
    ·have t0 : (k0 : Int) < (vs0.length : Int) := (by omega);clear hor;(go_wp2_with fail);go_meet;exact ⟨rfl, rfl⟩
    ·have t0 : ¬ (k0 : Int) < (vs0.length : Int) := (by omega);have t1 : (k1 : Int) < (vs1.length : Int) := (by omega);clear hor;(go_wp2_with fail);go_meet;exact ⟨rfl, rfl⟩
   case rest =>
   obtain ⟨rfl, hwc⟩ := hcut;rw [hwc];clear hwc wc hor;generalize hwR : wr = wR at *;have HWR := lH hwR;clear hwR;have hbB : Below wR.heap.size wR (wR.alloc (.cells #[iv (k0 : Int), iv (k1 : Int)] 75)) := rB.alloc nL _;have HB5 := lH (Blk.new wR 75 #[iv (k0 : Int), iv (k1 : Int)])
   go_upto_region 9 with fail
   generalize wR.alloc (.cells #[iv (k0 : Int), iv (k1 : Int)] 75) = w5 at *
   have HFW : Hid (∀ W, Below wR.heap.size wR W → Blk W gC 156 #[.slice C0 vs0.length d0, .slice C1 vs1.length d1] ∧ Blk W w4.heap.size 75 #[iv (k0 : Int), iv (k1 : Int)] ∧ Sl edE W C0 vs0 ∧ Sl edE W C1 vs1 ∧ Own strE 9 w4.heap.size W u10 out ∧ Own pairE 103 w4.heap.size W u11 cf ∧ Below w4.heap.size w4 W) := lH fun W h =>
    ⟨HC.out.under (hbr.next h nL), HD.out.under h, HV0.out.below (hbr.next h nL), HV1.out.below (hbr.next h nL), HO.out.below h, HCF.out.below h, hbr.next h nL⟩
   clear gc0 gc1 gcl gd0 gd1 gdl
   go_cut [82] from 52 to 82 (fun v wx => v = .bool f ∧ Below w5.heap.size w5 wx)
   case first =>
    as_aux_lemma =>
     obtain ⟨q1, q2, q3, q4, q5, q6, q7⟩ := HFW.out w5 hbB;have gc0 := q1.cell 0;have gc1 := q1.cell 1;have gcl := q1.lt;have gd0 := q2.cell 0;have gd1 := q2.cell 1;have gdl := q2.lt
     by_cases h0 : k0 < vs0.length
     ·have t0 : ((k0 : Int) == (vs0.length : Int)) = false := by simp; omega
      have t0i : (k0 : Int) < (vs0.length : Int) := (by omega);obtain ⟨bx, ox, x, eX, hbx, hx, x0, _, _⟩ := Sl.atEd q3 h0;have hCx : C.drop k0 = x.ed :: C.drop (k0 + 1) := by rw [← HQ0.out]; exact drop_ed hx
      by_cases h1 : k1 < vs1.length
      ·have t1 : (k1 : Int) < (vs1.length : Int) := (by omega);obtain ⟨by_, oy, y, eY, hby, hy, y0, _, _⟩ := Sl.atEd q4 h1;have hDy : D.drop k1 = y.ed :: D.drop (k1 + 1) := by rw [← HQ1.out]; exact drop_ed hy
       have hfv : f = decide (y.at_ < x.at_) := by rw [HF.out, hCx, hDy]; rfl
       subst eX eY;have HFV : Hid (decide (y.at_ < x.at_) = f) := lH hfv.symm;clear q1 q2 q3 q4 q5 q6 q7 hx hy hCx hDy hfv
       go_quiet (fail)
       have hqd : Below w5.heap.size w5 (w5.drewN nq) := ⟨rfl, rfl, rfl, Nat.le_refl _, fun _ _ => rfl⟩;generalize w5.drewN nq = wq at *;(go_wp2_with fail);go_meet;exact ⟨by rw [HFV.out], hqd⟩
      ·have t1 : ¬ (k1 : Int) < (vs1.length : Int) := (by omega);have hfv : f = false := by rw [HF.out, hCx, List.drop_eq_nil_of_le (show D.length ≤ k1 by rw [HL1.out]; omega)]; rfl
       have HFV := lH hfv;clear q1 q2 q3 q4 q5 q6 q7 hx hCx hfv eX hbx x0
       go_quiet (fail)
       have hqd : Below w5.heap.size w5 (w5.drewN nq) := ⟨rfl, rfl, rfl, Nat.le_refl _, fun _ _ => rfl⟩;generalize w5.drewN nq = wq at *;(go_wp2_with fail);go_meet;exact ⟨by rw [HFV.out], hqd⟩
     ·have t0 : ((k0 : Int) == (vs0.length : Int)) = true := by simp; omega
      have hfv : f = true := by rw [HF.out, List.drop_eq_nil_of_le (show C.length ≤ k0 by rw [HL0.out]; omega)]; rfl
      have HFV := lH hfv;clear q1 q2 q3 q4 q5 q6 q7 hfv
      go_quiet (fail)
      have hqd : Below w5.heap.size w5 (w5.drewN nq) := ⟨rfl, rfl, rfl, Nat.le_refl _, fun _ _ => rfl⟩;generalize w5.drewN nq = wq at *;(go_wp2_with fail);go_meet;exact ⟨by rw [HFV.out], hqd⟩
   case rest =>
   obtain ⟨rfl, hb56⟩ := hcut;have hbR6 := hbB.next hb56 nL;have HB6 := lH (HB5.out.under hb56);generalize wc = w6 at *;clear hb56 hbB HB5
   go_upto_if 82 with fail
   obtain ⟨kf, hkf⟩ : ∃ kf : Nat, kf = if f then 1 else 0 := ⟨_, rfl⟩
   have HKF := lH hkf;have hkf2 : kf < 2 := by rw [hkf]; cases f <;> decide
   clear hkf
   go_cut [15] (fun v wx => v = iv (kf : Int) ∧ wx = w6)
   case first =>
    cases f
    ·have HK0' : Hid (kf = 0) := lH (by rw [HKF.out]; rfl);(go_wp2_with fail);go_meet;exact ⟨by rw [HK0'.out]; rfl, rfl⟩
    ·have HK0' : Hid (kf = 1) := lH (by rw [HKF.out]; rfl);(go_wp2_with fail);go_meet;exact ⟨by rw [HK0'.out]; rfl, rfl⟩
   case rest =>
   obtain ⟨rfl, hwc⟩ := hcut;rw [hwc];clear hwc wc
   obtain ⟨i0, i1, ifk, hG0, hifk, hset⟩ : ∃ (i0 i1 n : Nat), File.Grows C D k0 k1 bk i0 i1 ∧ (#[iv (k0 : Int), iv (k1 : Int)] : Array Value)[kf]? = some (iv (n : Int)) ∧ (#[iv (k0 : Int), iv (k1 : Int)] : Array Value).setIfInBounds kf (iv ((n : Int) + 1)) = #[iv (i0 : Int), iv (i1 : Int)] ∧ n ≤ 25 := by
    rw [HKF.out];have hfi := HFI.out
    cases f
    ·have := List.length_pos_iff.2 (show bk.e0 ≠ [] from hfi);exact ⟨k0 + 1, k1, k0, ⟨by omega, by omega, by omega, by omega, by rw [← HF.out]; simp⟩, rfl, by simp, by omega⟩
    ·have := List.length_pos_iff.2 (show bk.e1 ≠ [] from hfi);exact ⟨k0, k1 + 1, k1, ⟨by omega, by omega, by omega, by omega, by rw [← HF.out]; simp⟩, rfl, by simp, by omega⟩
   obtain ⟨hset, hif25⟩ := hset;have b0 := HB6.out.cell kf;rw [hifk] at b0;have bf := HB6.out.frozen kf;have bl := HB6.out.lt;have ewb : IntKind.i64.wrap ((ifk : Int) + 1) = (ifk : Int) + 1 := IntWalk.i64_in _ (by omega);have hkfi : (kf : Int) < 2 := (by omega);have HB7 : Hid (Blk (w6.setCell ⟨wR.heap.size, kf, none⟩ (iv ((ifk : Int) + 1))) wR.heap.size 75 #[iv (i0 : Int), iv (i1 : Int)]) := lH (by rw [← hset]; exact HB6.out.set_ _ _);have hbR7 : Below wR.heap.size wR (w6.setCell ⟨wR.heap.size, kf, none⟩ (iv ((ifk : Int) + 1))) := hbR6.setCell (p := ⟨wR.heap.size, kf, none⟩) nL _;have HG := lH hG0;clear hG0 hifk hset HB6
   go_upto_region 12 with fail
   generalize w6.setCell ⟨wR.heap.size, kf, none⟩ (iv ((ifk : Int) + 1)) = w7 at *;clear b0 bf bl ewb hbR6 HKF;have hgbl := HB7.out.lt;have HZ0 : Hid (true = false → File.Calm C D k1 i0 i1 ∧ File.Calm D C k0 i1 i0) := lH fun h => by cases h
   (go_wp2_with fail)
   go_loopw [16] (fun g wx => ∃ (i0 i1 : Nat) (z : Bool), g = .bool z ∧ Hid (File.Grows C D k0 k1 bk i0 i1) ∧ Hid (Blk wx wR.heap.size 75 #[iv (i0 : Int), iv (i1 : Int)]) ∧ Hid (z = false → File.Calm C D k1 i0 i1 ∧ File.Calm D C k0 i1 i0) ∧ Below wR.heap.size wR wx)
    (fun g wx => (k0 + bk.e0.length + k1 + bk.e1.length) - cellN wx wR.heap.size 0 - cellN wx wR.heap.size 1 + boolN g)
   case atStart => exact ⟨i0, i1, true, rfl, HG, HB7, HZ0, hbR7⟩
   case round =>
    clear HZ0 HG HB7 hbR7 i0 i1;obtain ⟨i0, i1, z, rfl, HG, HB, HZ, hbx⟩ := hrel
    have hmz : (k0 + bk.e0.length + k1 + bk.e1.length) - cellN wr wR.heap.size 0 - cellN wr wR.heap.size 1 + boolN (.bool z) = (k0 + bk.e0.length + k1 + bk.e1.length) - i0 - i1 + boolN (.bool z) := by
     rw [Blk.cellN HB.out (n := i0) rfl, Blk.cellN HB.out (n := i1) rfl]
    cases z
    ·obtain ⟨hc0, hc1'⟩ := HZ.out rfl;obtain ⟨he0, he1⟩ := File.Grows.done HST.out HG.out hc0 hc1';subst he0 he1;clear hc0 hc1' HG HZ hmz
     have HFW8 : Hid (∀ W, Below wr.heap.size wr W → Blk W gC 156 #[.slice C0 vs0.length d0, .slice C1 vs1.length d1] ∧ Blk W w4.heap.size 75 #[iv (k0 : Int), iv (k1 : Int)] ∧ Blk W wR.heap.size 75 #[iv ((k0 + bk.e0.length : Nat) : Int), iv ((k1 + bk.e1.length : Nat) : Int)] ∧ Sl edE W C0 vs0 ∧ Sl edE W C1 vs1) := lH fun W h =>
      ⟨(HFW.out W (hbx.next h nL)).1, (HFW.out W (hbx.next h nL)).2.1, HB.out.under h, (HFW.out W (hbx.next h nL)).2.2.1, (HFW.out W (hbx.next h nL)).2.2.2.1⟩
     have HLH0 : Hid ((0 = 0 → base.length = base.length ∧ 0 = 0) ∧ (0 = 1 → base.length = File.loOf base.length bk.e0 ∧ 0 = File.hiOf 0 bk.e0) ∧ (0 = 2 → base.length = bk.lo ∧ 0 = bk.hi)) := lH ⟨fun _ => ⟨rfl, rfl⟩, fun h => by omega, fun h => by omega⟩;generalize wr = w8 at *;clear HB
     as_aux_lemma =>
      (go_wp2_with fail)
      go_loopw [19, 20, 21] (fun l h kk wx => ∃ (t lo hi : Nat), t ≤ 2 ∧ kk = iv (t : Int) ∧ l = iv (lo : Int) ∧ h = iv (hi : Int) ∧ lo ≤ 100 ∧ hi ≤ 100 ∧ Hid ((t = 0 → lo = base.length ∧ hi = 0) ∧ (t = 1 → lo = File.loOf base.length bk.e0 ∧ hi = File.hiOf 0 bk.e0) ∧ (t = 2 → lo = bk.lo ∧ hi = bk.hi)) ∧ Below w8.heap.size w8 wx) (fun _ _ kk _ => 2 - (intOf kk).toNat)
      case atStart => exact ⟨0, base.length, 0, by omega, rfl, rfl, rfl, by omega, by omega, lH ⟨fun _ => ⟨rfl, rfl⟩, fun h => by omega, fun h => by omega⟩, rB⟩
      case round =>
       clear HLH0;obtain ⟨t, lo, hi, ht, rfl, rfl, rfl, hlo, hhi, HLH, hbz⟩ := hrel
       by_cases ht2 : t < 2
       ·have hti : (t : Int) < 2 := (by omega);obtain ⟨vT, AT, dT, kT, iT, hha⟩ := half_of HF0.out HF1.out HQ0.out HQ1.out hv0 hv1 hn0 hn1 HFW8.out HSM.out ht2;have h1 := hha.hki;have h2 := hha.hil;have h3 := hha.hvl;have HH := lH hha;clear hha;obtain ⟨g1, g2, g3, g4, g5, g6⟩ := HH.out.cells wr hbz;have HLR : Hid (File.loOf lo (((vT.map EdV.ed).drop kT).take (iT - kT)) = File.loOf lo (if t = 0 then bk.e0 else bk.e1) ∧ File.hiOf hi (((vT.map EdV.ed).drop kT).take (iT - kT)) = File.hiOf hi (if t = 0 then bk.e0 else bk.e1)) := lH (by rw [HH.out.part]; exact ⟨rfl, rfl⟩);(go_wp2_with fail);clear g1 g2 g3 g4 g5 g6
        go_loopw [19, 20, 22] (fun l h ii wx => ∃ (m l' h' : Nat), kT ≤ m ∧ m ≤ iT ∧ ii = iv (m : Int) ∧ l = iv (l' : Int) ∧ h = iv (h' : Int) ∧ l' ≤ 100 ∧ h' ≤ 100 ∧ Hid (File.loOf l' (((vT.map EdV.ed).drop m).take (iT - m)) = File.loOf lo (if t = 0 then bk.e0 else bk.e1) ∧ File.hiOf h' (((vT.map EdV.ed).drop m).take (iT - m)) = File.hiOf hi (if t = 0 then bk.e0 else bk.e1)) ∧ Below w8.heap.size w8 wx) (fun _ _ ii _ => iT - (intOf ii).toNat)
        case atStart => exact ⟨kT, lo, hi, Nat.le_refl _, h1, rfl, rfl, rfl, hlo, hhi, HLR, hbz⟩
        case round =>
         clear HLR hbz;obtain ⟨m, l', h', hm1, hm2, rfl, rfl, rfl, hl', hh', HLR, hbz⟩ := hrel;obtain ⟨g1, g2, g3, g4, g5, g6⟩ := HH.out.cells wr hbz
         by_cases hmi : m < iT
         ·have hmii : (m : Int) < (iT : Int) := (by omega);obtain ⟨bT, oT, x0, eT, hbT, hx, x0c, x1c, _⟩ := Sl.atEd (HH.out.slt wr hbz) (show m < vT.length by omega);have hms : (m : Int) < (vT.length : Int) := (by omega);have hsx := HH.out.small x0 (mem_at hx);subst eT;have hpc := part_cons (L := vT.map EdV.ed) (x := x0.ed) (by rw [List.getElem?_map, hx]; rfl) hmi;obtain ⟨xa, xA, xc, xo, xA', xc', xn⟩ := x0;simp only at hsx x0c x1c;obtain ⟨na, rfl⟩ : ∃ na : Nat, xa = (na : Int) := ⟨xa.toNat, by omega⟩
          have HLR2 : Hid (File.loOf (min l' na) (((vT.map EdV.ed).drop (m + 1)).take (iT - (m + 1))) = File.loOf lo (if t = 0 then bk.e0 else bk.e1) ∧ File.hiOf (max h' (na + xo.length)) (((vT.map EdV.ed).drop (m + 1)).take (iT - (m + 1))) = File.hiOf hi (if t = 0 then bk.e0 else bk.e1)) := lH (by
           have h := HLR.out;rw [hpc] at h;exact h)
          have emin : min (l' : Int) (na : Int) = ((min l' na : Nat) : Int) := (by omega);have emax : max (h' : Int) ((na : Int) + (xo.length : Int)) = ((max h' (na + xo.length) : Nat) : Int) := (by omega);have ewx : IntKind.i64.wrap ((na : Int) + (xo.length : Int)) = (na : Int) + (xo.length : Int) := IntWalk.i64_in _ (by omega);clear hx hpc HLR
          go_upto_region 33 with fail
          go_quiet (fail)
          have hqd : Below w8.heap.size w8 (wr.drewN nq) := ⟨hbz.os, hbz.tape, hbz.output, hbz.size, hbz.block⟩;generalize wr.drewN nq = wq at *;clear x0c x1c g1 g2 g3 g4 g5 g6;(go_wp2_with fail);go_roundw
          case rel => exact ⟨m + 1, min l' na, max h' (na + xo.length), by omega, by omega, by go_num, by first | rfl | (rw [emin]), by first | rfl | (rw [emax]), by omega, by omega, HLR2, hqd⟩
          case measure => simp [intOf]; omega
         ·have hmii : ¬ (m : Int) < (iT : Int) := (by omega);have hmm : m = iT := (by omega);have hlr := HLR.out;rw [hmm, Nat.sub_self, List.take_zero] at hlr;have hL : l' = File.loOf lo (if t = 0 then bk.e0 else bk.e1) := hlr.1;have hH : h' = File.hiOf hi (if t = 0 then bk.e0 else bk.e1) := hlr.2
          have HLH2 : Hid ((t + 1 = 0 → l' = base.length ∧ h' = 0) ∧ (t + 1 = 1 → l' = File.loOf base.length bk.e0 ∧ h' = File.hiOf 0 bk.e0) ∧ (t + 1 = 2 → l' = bk.lo ∧ h' = bk.hi)) := lH (by
           obtain ⟨q1, q2, q3⟩ := HLH.out;refine ⟨fun h => by omega, fun h => ?_, fun h => ?_⟩
           ·have h0 : t = 0 := (by omega);obtain ⟨e1, e2⟩ := q1 h0;rw [if_pos h0] at hL hH;rw [hL, hH, e1, e2]; exact ⟨rfl, rfl⟩
           ·have h0 : t = 1 := (by omega);obtain ⟨e1, e2⟩ := q2 h0;rw [if_neg (by omega)] at hL hH;rw [hL, hH, e1, e2];exact ⟨HCN.out.los (by omega), HCN.out.his⟩)
          clear hlr hL hH hmm HLR;(go_wp2_with fail);go_roundw
          case rel => exact ⟨t + 1, l', h', by omega, by go_num, rfl, rfl, hl', hh', HLH2, hbz⟩
          case measure => simp [intOf]; omega
       ·have hti : ¬ (t : Int) < 2 := (by omega);obtain ⟨elo, ehi⟩ := HLH.out.2.2 (by omega);subst elo ehi;clear HLH;generalize wr = w9 at *
        as_aux_lemma =>
         obtain ⟨i0, hi0⟩ : ∃ i0, i0 = k0 + bk.e0.length := ⟨_, rfl⟩;obtain ⟨i1, hi1⟩ : ∃ i1, i1 = k1 + bk.e1.length := ⟨_, rfl⟩;rw [← hi0, ← hi1] at HFW8;have hi0l : i0 ≤ vs0.length := (by omega);have hi1l : i1 ≤ vs1.length := (by omega);have hki0 : k0 ≤ i0 := (by omega);have hki1 : k1 ≤ i1 := (by omega)
         have hnz : k0 + k1 < i0 + i1 := by
          have hfi := HFI.out
          cases f
          ·have := List.length_pos_iff.2 (show bk.e0 ≠ [] from hfi); omega
          ·have := List.length_pos_iff.2 (show bk.e1 ≠ [] from hfi); omega
         have HE0 : Hid (bk.e0 = [] ↔ i0 = k0) := lH ⟨fun h => by rw [hi0, h]; rfl, fun h => List.eq_nil_of_length_eq_zero (by omega)⟩;have HE1 : Hid (bk.e1 = [] ↔ i1 = k1) := lH ⟨fun h => by rw [hi1, h]; rfl, fun h => List.eq_nil_of_length_eq_zero (by omega)⟩;have HMD := lH hmd
         have HSN : Hid (File.Steps (C.drop i0) (D.drop i1) rl) := lH (by
          have := HS2.out;rw [List.drop_drop, List.drop_drop] at this;rw [hi0, hi1]; exact this)
         have HBN : Hid (File.BlocksOk base.length bk.hi rl) := lH (HP8.out.weaken (Nat.le_succ _));have hbw9 := hbx.next hbz nL;obtain ⟨q1, q2, q3, q4, q5⟩ := HFW8.out w9 hbz;obtain ⟨X0, n0, ys0, hys0, hsy0, RC0⟩ := cut_ed hd0 hki0 hi0l q4;obtain ⟨X1, n1, ys1, hys1, hsy1, RC1⟩ := cut_ed hd1 hki1 hi1l q5;have hb49 := (HFW.out w9 hbw9).2.2.2.2.2.2
         have hm0 : ys0.map EdV.ed = bk.e0 := by
          rw [hys0, HF0.out, hi0, ← HQ0.out];unfold File.cut;rw [List.map_take, List.map_drop, show k0 + bk.e0.length - k0 = bk.e0.length by omega]
         have hm1 : ys1.map EdV.ed = bk.e1 := by
          rw [hys1, HF1.out, hi1, ← HQ1.out];unfold File.cut;rw [List.map_take, List.map_drop, show k1 + bk.e1.length - k1 = bk.e1.length by omega]
         have hsub0 : ∀ r ∈ ys0, r ∈ vs0 := fun r hr => by rw [hys0] at hr; exact List.mem_of_mem_drop (List.mem_of_mem_take hr)
         have hsub1 : ∀ r ∈ ys1, r ∈ vs1 := fun r hr => by rw [hys1] at hr; exact List.mem_of_mem_drop (List.mem_of_mem_take hr)
         have hyl0 : ys0.length ≤ 25 := by have := congrArg List.length hm0; rw [List.length_map] at this; omega
         have hyl1 : ys1.length ≤ 25 := by have := congrArg List.length hm1; rw [List.length_map] at this; omega
         obtain ⟨H0, hH0⟩ : ∃ H0, H0 = File.hasGo base bk.hi bk.lo bk.e0 := ⟨_, rfl⟩;obtain ⟨H1, hH1⟩ : ∃ H1, H1 = File.hasGo base bk.hi bk.lo bk.e1 := ⟨_, rfl⟩
         have hHl0 : H0.length ≤ 2000 := by
          have := hasGo_le (base := base) (hi := bk.hi) (c := ys0.map EdV.ed) (at_ := bk.lo) (fun x hx => by
           obtain ⟨r, hr, rfl⟩ := List.mem_map.1 hx;exact (HSM.out r (.inl (hsub0 r hr))).2.2.2)
          rw [List.length_map, hm0, ← hH0] at this;have h2 : ys0.length * (base.length + 24) ≤ 25 * 48 := Nat.mul_le_mul hyl0 (by omega);omega
         have hHl1 : H1.length ≤ 2000 := by
          have := hasGo_le (base := base) (hi := bk.hi) (c := ys1.map EdV.ed) (at_ := bk.lo) (fun x hx => by
           obtain ⟨r, hr, rfl⟩ := List.mem_map.1 hx;exact (HSM.out r (.inr (hsub1 r hr))).2.2.2)
          rw [List.length_map, hm1, ← hH1] at this;have h2 : ys1.length * (base.length + 24) ≤ 25 * 48 := Nat.mul_le_mul hyl1 (by omega);omega
         have HH0 := lH fun W (h : Below w9.heap.size w9 W) => rhas_spec A base c X0 ys0 n0 bk.lo bk.hi W hB24 (by omega) hc p2 p3 (HSB.out.below (hb49.next h nL)) (hsy0.below h) (fun r hr => (HK4.out r (.inl (hsub0 r hr))).below (hb49.next h nL)) (fun r hr => HSM.out r (.inl (hsub0 r hr))) (by rw [hm0]; exact HP4.out) (by rw [hm0]; exact HP5.out)
         have HH1 := lH fun W (h : Below w9.heap.size w9 W) => rhas_spec A base c X1 ys1 n1 bk.lo bk.hi W hB24 (by omega) hc p2 p3 (HSB.out.below (hb49.next h nL)) (hsy1.below h) (fun r hr => (HK4.out r (.inr (hsub1 r hr))).below (hb49.next h nL)) (fun r hr => HSM.out r (.inr (hsub1 r hr))) (by rw [hm1]; exact HP6.out) (by rw [hm1]; exact HP7.out)
         simp only [hm0, ← hH0] at HH0;simp only [hm1, ← hH1] at HH1
         have HCELL : Hid (∀ x, Below w9.heap.size w9 x → x.cell? ⟨gC, 0, none⟩ = some (.slice C0 vs0.length d0) ∧ x.cell? ⟨gC, 1, none⟩ = some (.slice C1 vs1.length d1) ∧ x.cell? ⟨w4.heap.size, 0, none⟩ = some (iv (k0 : Int)) ∧ x.cell? ⟨w4.heap.size, 1, none⟩ = some (iv (k1 : Int)) ∧ x.cell? ⟨wR.heap.size, 0, none⟩ = some (iv (i0 : Int)) ∧ x.cell? ⟨wR.heap.size, 1, none⟩ = some (iv (i1 : Int)) ∧ gC < x.heap.size ∧ w4.heap.size < x.heap.size ∧ wR.heap.size < x.heap.size) := lH fun x h =>
          ⟨(q1.under h).cell 0, (q1.under h).cell 1, (q2.under h).cell 0, (q2.under h).cell 1, (q3.under h).cell 0, (q3.under h).cell 1, (q1.under h).lt, (q2.under h).lt, (q3.under h).lt⟩
         obtain ⟨Xc, nc, yc, hyc, hycl, hsyc, RCc⟩ := cut_run hc p1 (Nat.le_trans p2 p3) HSB.out;obtain ⟨Xd, nd, yd, hyd, hydl, hsyd, RCd⟩ := cut_run hc p2 p3 HSB.out
         have HJG : Hid ((bk.e1 = [] ∨ H0 = H1 → (((out ++ yc) ++ H0) ++ (File.joinGo base bk.hi rl).1 = J.1 ∧ cf ++ (File.joinGo base bk.hi rl).2 = J.2)) ∧ (¬ (bk.e1 = [] ∨ H0 = H1) → bk.e0 = [] → (((out ++ yc) ++ H1) ++ (File.joinGo base bk.hi rl).1 = J.1 ∧ cf ++ (File.joinGo base bk.hi rl).2 = J.2)) ∧ (¬ (bk.e1 = [] ∨ H0 = H1) → ¬ bk.e0 = [] → (((out ++ yc) ++ yd) ++ (File.joinGo base bk.hi rl).1 = J.1 ∧ (cf ++ [(bk.lo, bk.hi)]) ++ (File.joinGo base bk.hi rl).2 = J.2))) := lH (by
          have h := HREL.out;unfold File.joinGo at h;rw [← hH0, ← hH1, ← hyc, ← hyd] at h;refine ⟨fun h1 => ?_, fun h1 h2 => ?_, fun h1 h2 => ?_⟩
          ·rw [if_pos h1] at h; simpa using h
          ·rw [if_neg h1, if_pos h2] at h; simpa using h
          ·rw [if_neg h1, if_neg h2] at h; simpa using h)
         have HSC := lH fun W (h : Below w4.heap.size w4 W) => And.intro (hsyc.below h) (hsyd.below h)
         have HO9 := lH (HFW.out w9 hbw9).2.2.2.2.1;have HCF9 := lH (HFW.out w9 hbw9).2.2.2.2.2.1;have HB49 := lH hb49;have HD9 := lH q2;have HB9 := lH q3;have hnr0 : k0 ≤ 25 := (by omega);have hnr1 : k1 ≤ 25 := (by omega);clear hys0 hys1 hsy0 hsy1 hm0 hm1 hsub0 hsub1 hH0 hH1 hyc hyd hsyc hsyd q1 q2 q3 q4 q5 hi0 hi1 HREL HS2 HP4 HP5 HP6 HP7 HP8 HF0 HF1 HFW8 HFW hmd hb49 hbw9 hbz hbx hn0 hn1 hyl0 hyl1 HST HCN HFI
         go_upto_region 34 with fail
         refine wfl 22 (fun nR x => Below w9.heap.size w9 x) (fun x x' => Below x.heap.size x x')
          [eqv (.slice A base.length c),
           eqv (.pointer (some ⟨gC, 0, none⟩)),
           eqv (.slice C0 vs0.length d0),
           eqv (.pointer (some ⟨w4.heap.size, 0, none⟩)),
           eqv (iv (k0 : Int)),
           eqv (.pointer (some ⟨wR.heap.size, 0, none⟩)),
           eqv (iv (i0 : Int)),
           eqv (.slice X0 ys0.length n0),
           eqv (iv (bk.lo : Int)),
           eqv (iv (bk.hi : Int)),
           fun _ u x => ∃ A1 c1, u = .slice A1 H0.length c1 ∧ Own strE 9 w9.heap.size x (.slice A1 H0.length c1) H0,
           eqv (.slice A base.length c),
           eqv (.pointer (some ⟨gC, 1, none⟩)),
           eqv (.slice C1 vs1.length d1),
           eqv (.pointer (some ⟨w4.heap.size, 1, none⟩)),
           eqv (iv (k1 : Int)),
           eqv (.pointer (some ⟨wR.heap.size, 1, none⟩)),
           eqv (iv (i1 : Int)),
           eqv (.slice X1 ys1.length n1),
           eqv (iv (bk.lo : Int)),
           eqv (iv (bk.hi : Int)),
           fun _ u x => ∃ A1 c1, u = .slice A1 H1.length c1 ∧ Own strE 9 w9.heap.size x (.slice A1 H1.length c1) H1]
          (Below.refl _ w9).drew ?_ ?_
         ·simp only [List.take_succ_cons, List.take_zero, HopL]
          repeat' apply And.intro
          ·refine fvr fun x hR kk rr _ => ?_
           have := rho0 rr 0;clear rr kk;exact ev0
          ·refine fvr fun x hR kk rr _ => ?_
           have := rho0 rr 9;clear rr kk;have g1 := (HCELL.out x hR).2.2.2.2.2.2.1;exact ev0
          ·refine fvr fun x hR kk rr _ => ?_
           have := rho rr 188 (kk.at 1);clear rr kk;have g1 := (HCELL.out x hR).1;exact ev0
          ·refine fvr fun x hR kk rr _ => ?_
           have := rho0 rr 13;clear rr kk;have g1 := (HCELL.out x hR).2.2.2.2.2.2.2.1;exact ev0
          ·refine fvr fun x hR kk rr _ => ?_
           have := rho rr 190 (kk.at 3);clear rr kk;have g1 := (HCELL.out x hR).2.2.1;exact ev0
          ·refine fvr fun x hR kk rr _ => ?_
           have := rho0 rr 14;clear rr kk;have g1 := (HCELL.out x hR).2.2.2.2.2.2.2.2;exact ev0
          ·refine fvr fun x hR kk rr _ => ?_
           have := rho rr 192 (kk.at 5);clear rr kk;have g1 := (HCELL.out x hR).2.2.2.2.1;exact ev0
          ·refine fvr fun x hR kk rr _ => ?_
           have := rho rr 189 (kk.at 2);have := rho rr 191 (kk.at 4);have := rho rr 193 (kk.at 6);clear rr kk;exact ev0
          ·refine fvr fun x hR kk rr _ => ?_
           have := rho0 rr 19;clear rr kk;exact ev0
          ·refine fvr fun x hR kk rr _ => ?_
           have := rho0 rr 20;clear rr kk;exact ev0
          ·refine fvr (hs := fun _ _ _ _ h hS => (by obtain ⟨Ah0, ch0, e0, oh0⟩ := h; exact ⟨Ah0, ch0, e0, oh0.below hS⟩)) fun x hR kk rr _ => ?_
           have e187 := rho rr 187 (kk.at 0);have e194 := rho rr 194 (kk.at 7);have e195 := rho rr 195 (kk.at 8);have e196 := rho rr 196 (kk.at 9);clear rr kk;refine stepE_call (wanted_none rfl) (by go_simp) (HH0.out x hR) ?_;rintro e x' ⟨u, rfl, ho, hb⟩;obtain ⟨A1, c1, rfl, _, _⟩ := ho.form;exact ⟨_, rfl, ⟨A1, c1, rfl, ho.base hR.size⟩, hb, hR.next hb nL⟩
          ·refine fvr fun x hR kk rr _ => ?_
           have := rho0 rr 0;clear rr kk;exact ev0
          ·refine fvr fun x hR kk rr _ => ?_
           have := rho0 rr 9;clear rr kk;have g1 := (HCELL.out x hR).2.2.2.2.2.2.1;exact ev0
          ·refine fvr fun x hR kk rr _ => ?_
           have := rho rr 199 (kk.at 12);clear rr kk;have g1 := (HCELL.out x hR).2.1;exact ev0
          ·refine fvr fun x hR kk rr _ => ?_
           have := rho0 rr 13;clear rr kk;have g1 := (HCELL.out x hR).2.2.2.2.2.2.2.1;exact ev0
          ·refine fvr fun x hR kk rr _ => ?_
           have := rho rr 201 (kk.at 14);clear rr kk;have g1 := (HCELL.out x hR).2.2.2.1;exact ev0
          ·refine fvr fun x hR kk rr _ => ?_
           have := rho0 rr 14;clear rr kk;have g1 := (HCELL.out x hR).2.2.2.2.2.2.2.2;exact ev0
          ·refine fvr fun x hR kk rr _ => ?_
           have := rho rr 203 (kk.at 16);clear rr kk;have g1 := (HCELL.out x hR).2.2.2.2.2.1;exact ev0
          ·refine fvr fun x hR kk rr _ => ?_
           have := rho rr 200 (kk.at 13);have := rho rr 202 (kk.at 15);have := rho rr 204 (kk.at 17);clear rr kk;exact ev0
          ·refine fvr fun x hR kk rr _ => ?_
           have := rho0 rr 19;clear rr kk;exact ev0
          ·refine fvr fun x hR kk rr _ => ?_
           have := rho0 rr 20;clear rr kk;exact ev0
          ·refine fvr (hs := fun _ _ _ _ h hS => (by obtain ⟨Ah1, ch1, e0, oh1⟩ := h; exact ⟨Ah1, ch1, e0, oh1.below hS⟩)) fun x hR kk rr _ => ?_
           have e198 := rho rr 198 (kk.at 11);have e205 := rho rr 205 (kk.at 18);have e206 := rho rr 206 (kk.at 19);have e207 := rho rr 207 (kk.at 20);clear rr kk;refine stepE_call (wanted_none rfl) (by go_simp) (HH1.out x hR) ?_;rintro e x' ⟨u, rfl, ho, hb⟩;obtain ⟨A1, c1, rfl, _, _⟩ := ho.form;exact ⟨_, rfl, ⟨A1, c1, rfl, ho.base hR.size⟩, hb, hR.next hb nL⟩
          ·trivial
         ·intro v nR x1 hnR hR hall;obtain ⟨Ah0, ch0, h10, oh0⟩ := hall 10 (by decide);obtain ⟨Ah1, ch1, h21, oh1⟩ := hall 21 (by decide);clear hall hnR;simp only [List.drop_succ_cons, List.drop_zero, List.take_succ_cons, List.take_zero, frameF, Act.put, List.setIfInBounds_toArray, List.set_cons_zero, List.set_cons_succ, Nat.zero_add, Nat.reduceAdd, h10, h21];have hOx := HO9.out.below hR;have hCx := HCF9.out.below hR;have hBx := HB9.out.under hR;have hDx := HD9.out.under hR;have hb4x := HB49.out.next hR nL;have hsz := hb4x.size
          have hne0 : ∀ b, (Value.slice Ah0 H0.length ch0).ownBlock = some b → u10.ownBlock ≠ some b := fun b hb e => by
           have h1 := (oh0.lt b hb).1;have h2 := (HO9.out.lt b e).2;omega
          have hne1 : ∀ b, (Value.slice Ah1 H1.length ch1).ownBlock = some b → u10.ownBlock ≠ some b := fun b hb e => by
           have h1 := (oh1.lt b hb).1;have h2 := (HO9.out.lt b e).2;omega
          have HN0 := lH hne0;have HN1 := lH hne1;clear hne0 hne1
          go_upto_region 36 with (at_builtin; refine wpAppS strE tyStrs rfl _ _ rfl hOx (HSC.out x1 hb4x).1 rfl rfl hsz (by unfold big; omega) ?_; intro v11 w11 hown11 hb11 hk11)
          have HH011 := lH (oh0.keep hb11.size fun b hb => hk11 b (oh0.lt b hb).2 (HN0.out b hb)).sl;have HH111 := lH (oh1.keep hb11.size fun b hb => hk11 b (oh1.lt b hb).2 (HN1.out b hb)).sl;have HC11 := lH (hCx.keep hb11.size fun b hb => hk11 b (hCx.lt b hb).2 (Own.two hCx hOx (by decide) hb));have hB11 : Blk w11 wR.heap.size 75 #[iv (i0 : Int), iv (i1 : Int)] := (hk11 _ hBx.lt (ownNeBlk hOx hBx (by decide))).trans hBx;have hD11 : Blk w11 w4.heap.size 75 #[iv (k0 : Int), iv (k1 : Int)] := (hk11 _ hDx.lt (ownNeBlk hOx hDx (by decide))).trans hDx;have hb411 := hb4x.trans hb11;have HO11 := lH hown11;have hYl : (out ++ yc).length ≤ (k0 + k1) * 5000 + 24 := by rw [List.length_append]; omega
          obtain ⟨Y, hY⟩ : ∃ Y, Y = out ++ yc := ⟨_, rfl⟩;rw [← hY] at HO11 HJG hYl;clear hY hOx hCx hBx hDx hb4x oh0 oh1 hown11 hb11 hk11 hR HN0 HN1 hsz HCELL HO9 HCF9 HD9 HB9 HB49 HH0 HH1 RC0 RC1 RCc;have b0 := hB11.cell 0;have b1 := hB11.cell 1;have bl := hB11.lt;have e0 := hD11.cell 0;have e1 := hD11.cell 1;have el := hD11.lt;have hsz := hb411.size
          by_cases h1 : i1 = k1
          ·have t1 : ((i1 : Int) == (k1 : Int)) = true := by simp [h1]
           have HRN := lH (HJG.out.1 (.inl (HE1.out.2 h1)));have hli : (Y ++ H0).length ≤ (i0 + i1) * 5000 := by rw [List.length_append]; omega
           have hci : cf.length ≤ i0 + i1 := (by omega);clear h1 HJG
           go_upto_region 42 with (at_builtin; refine wpAppS strE tyStrs rfl _ _ rfl HO11.out HH011.out rfl rfl hsz (by unfold big; omega) ?_; intro v12 w12 hown12 hb12 hk12)
           have hC12 := HC11.out.keep hb12.size fun b hb => hk12 b (HC11.out.lt b hb).2 (Own.two HC11.out HO11.out (by decide) hb)
           have hB12 : Blk w12 wR.heap.size 75 #[iv (i0 : Int), iv (i1 : Int)] := (hk12 _ hB11.lt (ownNeBlk HO11.out hB11 (by decide))).trans hB11;have hD12 : Blk w12 w4.heap.size 75 #[iv (k0 : Int), iv (k1 : Int)] := (hk12 _ hD11.lt (ownNeBlk HO11.out hD11 (by decide))).trans hD11;have hb412 := hb411.trans hb12;clear b0 b1 bl e0 e1 el hk12 hb12 hB11 hD11 HO11 HC11 HH011 HH111;have hsx := (hb412).size;have HE2 := lH (hown12);have HE4 := lH (hC12);have HX6 : Hid (∀ x, Below (w12).heap.size w12 x → x.cell? ⟨wR.heap.size, 0, none⟩ = some (iv (i0 : Int)) ∧ x.cell? ⟨wR.heap.size, 1, none⟩ = some (iv (i1 : Int)) ∧ wR.heap.size < x.heap.size) := lH fun x h => ⟨((hB12).under h).cell 0, ((hB12).under h).cell 1, ((hB12).under h).lt⟩
           have HX7 := lH (hD12);have HX8 := lH (hb412)
           go_upto_region 42 with fail
           refine wfl 3 (fun nR x => Below w12.heap.size w12 x) (fun x x' => Below x.heap.size x x')
            [eqv (iv (bk.hi : Int)),
             eqv (.agg #[iv (i0 : Int), iv (i1 : Int)]),
             eqv (iv (bk.hi : Int))]
            (Below.refl _ w12).drew ?_ ?_
           ·simp only [List.take_succ_cons, List.take_zero, HopL]
            repeat' apply And.intro
            ·refine fvr fun x hR kk rr _ => ?_
             have := rho0 rr 20;clear rr kk;exact ev0
            ·refine fvr fun x hR kk rr _ => ?_
             have := rho0 rr 14;clear rr kk;obtain ⟨g1, g2, g3⟩ := HX6.out x hR;exact ev0
            ·refine fvr fun x hR kk rr _ => ?_
             have := rho rr 255 (kk.at 0);clear rr kk;exact ev0
            ·trivial
           ·intro v nR x9 hnR hR hall;have h1 : v 1 = .agg #[iv (i0 : Int), iv (i1 : Int)] := hall 1 (by decide);have h2 : v 2 = iv (bk.hi : Int) := hall 2 (by decide);clear hall hnR;simp only [List.drop_succ_cons, List.drop_zero, List.take_succ_cons, List.take_zero, frameF, Act.put, List.setIfInBounds_toArray, List.set_cons_zero, List.set_cons_succ, Nat.zero_add, Nat.reduceAdd, h1, h2];have hD9 := HX7.out.under hR;have s0 := hD9.cell 0;have s1 := hD9.cell 1;have z0 := hD9.frozen 0;have z1 := hD9.frozen 1;have sl := hD9.lt;have hD10 := hD9.set_ 0 (iv (i0 : Int));have HDE : Hid (Blk ((x9.setCell ⟨w4.heap.size, 0, none⟩ (iv (i0 : Int))).setCell ⟨w4.heap.size, 1, none⟩ (iv (i1 : Int))) w4.heap.size 75 #[iv (i0 : Int), iv (i1 : Int)]) := lH (hD10.set_ 1 (iv (i1 : Int)));have HOE : Hid (Own strE 9 w4.heap.size ((x9.setCell ⟨w4.heap.size, 0, none⟩ (iv (i0 : Int))).setCell ⟨w4.heap.size, 1, none⟩ (iv (i1 : Int))) _ _) := lH (ownSetE (ownSetE (HE2.out.below hR) hD9 (by decide) _) hD10 (by decide) _)
            have HCE : Hid (Own pairE 103 w4.heap.size ((x9.setCell ⟨w4.heap.size, 0, none⟩ (iv (i0 : Int))).setCell ⟨w4.heap.size, 1, none⟩ (iv (i1 : Int))) _ _) := lH (ownSetE (ownSetE (HE4.out.below hR) hD9 (by decide) _) hD10 (by decide) _);have hbE : Below w4.heap.size w4 ((x9.setCell ⟨w4.heap.size, 0, none⟩ (iv (i0 : Int))).setCell ⟨w4.heap.size, 1, none⟩ (iv (i1 : Int))) := ((HX8.out.next hR nL).setCell (p := ⟨w4.heap.size, 0, none⟩) nL _).setCell (p := ⟨w4.heap.size, 1, none⟩) nL _
            have hme : vs0.length + vs1.length - cellN ((x9.setCell ⟨w4.heap.size, 0, none⟩ (iv (i0 : Int))).setCell ⟨w4.heap.size, 1, none⟩ (iv (i1 : Int))) w4.heap.size 0 - cellN ((x9.setCell ⟨w4.heap.size, 0, none⟩ (iv (i0 : Int))).setCell ⟨w4.heap.size, 1, none⟩ (iv (i1 : Int))) w4.heap.size 1 = vs0.length + vs1.length - i0 - i1 := by
             rw [Blk.cellN HDE.out (n := i0) rfl, Blk.cellN HDE.out (n := i1) rfl]
            have HME := lH hme;clear hD9 hD10 hR HE2 HE4 hme;(go_wp2_with fail);go_roundw
            case rel => exact ⟨i0, i1, bk.hi, _, _, rl, rfl, p3, hi0l, hi1l, hli, hci, HSN, HBN, HRN, HOE, HCE, HDE, hbE⟩
            case measure =>
             refine Nat.lt_of_le_of_lt (Nat.le_of_eq HME.out) ?_;rw [HWR.out];refine Nat.lt_of_lt_of_le ?_ (Nat.le_of_eq HMD.out.symm);omega
          ·have t1 : ((i1 : Int) == (k1 : Int)) = false := by simp; omega
           have HNE1 : Hid (¬ bk.e1 = []) := lH fun h => h1 (HE1.out.1 h)
           by_cases h0 : i0 = k0
           ·have t0 : ((i0 : Int) == (k0 : Int)) = true := by simp [h0]
            have t2 : ¬ (i0 : Int) > (k0 : Int) := (by omega)
            have HRN : Hid ((Y ++ H1) ++ (File.joinGo base bk.hi rl).1 = J.1 ∧ cf ++ (File.joinGo base bk.hi rl).2 = J.2) := lH (by
             by_cases hH : H0 = H1
             ·have := HJG.out.1 (.inr hH)
              rwa [hH] at this
             ·exact HJG.out.2.1 (fun h => h.elim HNE1.out hH) (HE0.out.2 h0))
            have hli : (Y ++ H1).length ≤ (i0 + i1) * 5000 := by rw [List.length_append]; omega
            have hci : cf.length ≤ i0 + i1 := (by omega);clear h1 h0 HJG
            go_upto_region 42 with (at_builtin; refine wpAppS strE tyStrs rfl _ _ rfl HO11.out HH111.out rfl rfl hsz (by unfold big; omega) ?_; intro v12 w12 hown12 hb12 hk12)
            have hC12 := HC11.out.keep hb12.size fun b hb => hk12 b (HC11.out.lt b hb).2 (Own.two HC11.out HO11.out (by decide) hb)
            have hB12 : Blk w12 wR.heap.size 75 #[iv (i0 : Int), iv (i1 : Int)] := (hk12 _ hB11.lt (ownNeBlk HO11.out hB11 (by decide))).trans hB11;have hD12 : Blk w12 w4.heap.size 75 #[iv (k0 : Int), iv (k1 : Int)] := (hk12 _ hD11.lt (ownNeBlk HO11.out hD11 (by decide))).trans hD11;have hb412 := hb411.trans hb12;clear b0 b1 bl e0 e1 el hk12 hb12 hB11 hD11 HO11 HC11 HH011 HH111;have hsx := (hb412).size;have HE2 := lH (hown12);have HE4 := lH (hC12);have HX6 : Hid (∀ x, Below (w12).heap.size w12 x → x.cell? ⟨wR.heap.size, 0, none⟩ = some (iv (i0 : Int)) ∧ x.cell? ⟨wR.heap.size, 1, none⟩ = some (iv (i1 : Int)) ∧ wR.heap.size < x.heap.size) := lH fun x h => ⟨((hB12).under h).cell 0, ((hB12).under h).cell 1, ((hB12).under h).lt⟩
            have HX7 := lH (hD12);have HX8 := lH (hb412)
            go_upto_region 42 with fail
            refine wfl 3 (fun nR x => Below w12.heap.size w12 x) (fun x x' => Below x.heap.size x x')
             [eqv (iv (bk.hi : Int)),
              eqv (.agg #[iv (i0 : Int), iv (i1 : Int)]),
              eqv (iv (bk.hi : Int))]
             (Below.refl _ w12).drew ?_ ?_
            ·simp only [List.take_succ_cons, List.take_zero, HopL]
             repeat' apply And.intro
             ·refine fvr fun x hR kk rr _ => ?_
              have := rho0 rr 20;clear rr kk;exact ev0
             ·refine fvr fun x hR kk rr _ => ?_
              have := rho0 rr 14;clear rr kk;obtain ⟨g1, g2, g3⟩ := HX6.out x hR;exact ev0
             ·refine fvr fun x hR kk rr _ => ?_
              have := rho rr 255 (kk.at 0);clear rr kk;exact ev0
             ·trivial
            ·intro v nR x9 hnR hR hall;have h1 : v 1 = .agg #[iv (i0 : Int), iv (i1 : Int)] := hall 1 (by decide);have h2 : v 2 = iv (bk.hi : Int) := hall 2 (by decide);clear hall hnR;simp only [List.drop_succ_cons, List.drop_zero, List.take_succ_cons, List.take_zero, frameF, Act.put, List.setIfInBounds_toArray, List.set_cons_zero, List.set_cons_succ, Nat.zero_add, Nat.reduceAdd, h1, h2];have hD9 := HX7.out.under hR;have s0 := hD9.cell 0;have s1 := hD9.cell 1;have z0 := hD9.frozen 0;have z1 := hD9.frozen 1;have sl := hD9.lt;have hD10 := hD9.set_ 0 (iv (i0 : Int));have HDE : Hid (Blk ((x9.setCell ⟨w4.heap.size, 0, none⟩ (iv (i0 : Int))).setCell ⟨w4.heap.size, 1, none⟩ (iv (i1 : Int))) w4.heap.size 75 #[iv (i0 : Int), iv (i1 : Int)]) := lH (hD10.set_ 1 (iv (i1 : Int)));have HOE : Hid (Own strE 9 w4.heap.size ((x9.setCell ⟨w4.heap.size, 0, none⟩ (iv (i0 : Int))).setCell ⟨w4.heap.size, 1, none⟩ (iv (i1 : Int))) _ _) := lH (ownSetE (ownSetE (HE2.out.below hR) hD9 (by decide) _) hD10 (by decide) _)
             have HCE : Hid (Own pairE 103 w4.heap.size ((x9.setCell ⟨w4.heap.size, 0, none⟩ (iv (i0 : Int))).setCell ⟨w4.heap.size, 1, none⟩ (iv (i1 : Int))) _ _) := lH (ownSetE (ownSetE (HE4.out.below hR) hD9 (by decide) _) hD10 (by decide) _);have hbE : Below w4.heap.size w4 ((x9.setCell ⟨w4.heap.size, 0, none⟩ (iv (i0 : Int))).setCell ⟨w4.heap.size, 1, none⟩ (iv (i1 : Int))) := ((HX8.out.next hR nL).setCell (p := ⟨w4.heap.size, 0, none⟩) nL _).setCell (p := ⟨w4.heap.size, 1, none⟩) nL _
             have hme : vs0.length + vs1.length - cellN ((x9.setCell ⟨w4.heap.size, 0, none⟩ (iv (i0 : Int))).setCell ⟨w4.heap.size, 1, none⟩ (iv (i1 : Int))) w4.heap.size 0 - cellN ((x9.setCell ⟨w4.heap.size, 0, none⟩ (iv (i0 : Int))).setCell ⟨w4.heap.size, 1, none⟩ (iv (i1 : Int))) w4.heap.size 1 = vs0.length + vs1.length - i0 - i1 := by
              rw [Blk.cellN HDE.out (n := i0) rfl, Blk.cellN HDE.out (n := i1) rfl]
             have HME := lH hme;clear hD9 hD10 hR HE2 HE4 hme;(go_wp2_with fail);go_roundw
             case rel => exact ⟨i0, i1, bk.hi, _, _, rl, rfl, p3, hi0l, hi1l, hli, hci, HSN, HBN, HRN, HOE, HCE, HDE, hbE⟩
             case measure =>
              refine Nat.lt_of_le_of_lt (Nat.le_of_eq HME.out) ?_;rw [HWR.out];refine Nat.lt_of_lt_of_le ?_ (Nat.le_of_eq HMD.out.symm);omega
           ·have t0 : ((i0 : Int) == (k0 : Int)) = false := by simp; omega
            have t2 : (i0 : Int) > (k0 : Int) := (by omega);have HSME := lH (rsame_spec Ah0 H0 ch0 Ah1 H1 ch1 w11 (by unfold big; omega) HH011.out (by unfold big; omega) HH111.out);have HE0N : Hid (¬ bk.e0 = []) := lH fun h => h0 (HE0.out.1 h)
            by_cases hH : H0 = H1
            ·have HRN := lH (HJG.out.1 (.inr hH));rw [decide_eq_true hH] at HSME;have hli : (Y ++ H0).length ≤ (i0 + i1) * 5000 := by rw [List.length_append]; omega
             have hci : cf.length ≤ i0 + i1 := (by omega);clear h1 h0 HJG hH;(go_wp2_with fail);refine HSME.out.mono ?_;rintro e w12 ⟨rfl, hb12⟩;have HO12 := lH (HO11.out.below hb12);have HC12 := lH (HC11.out.below hb12);have hB12 := hB11.under hb12;have hD12 := hD11.under hb12;have HH012 := lH (HH011.out.below hb12);have hb412 := hb411.next hb12 nL;have hsz2 := hb412.size;clear b0 b1 bl e0 e1 el hB11 hD11 HO11 HC11 HH011 HH111 hsz
             go_upto_region 42 with (at_builtin; refine wpAppS strE tyStrs rfl _ _ rfl HO12.out HH012.out rfl rfl hsz2 (by unfold big; omega) ?_; intro v13 w13 hown13 hb13 hk13)
             have hC13 := HC12.out.keep hb13.size fun b hb => hk13 b (HC12.out.lt b hb).2 (Own.two HC12.out HO12.out (by decide) hb)
             have hB13 : Blk w13 wR.heap.size 75 #[iv (i0 : Int), iv (i1 : Int)] := (hk13 _ hB12.lt (ownNeBlk HO12.out hB12 (by decide))).trans hB12;have hD13 : Blk w13 w4.heap.size 75 #[iv (k0 : Int), iv (k1 : Int)] := (hk13 _ hD12.lt (ownNeBlk HO12.out hD12 (by decide))).trans hD12;have hb413 := hb412.trans hb13;clear hk13 hb13 hB12 hD12 HO12 HC12 HH012 hb12 hb411;have hsx := (hb413).size;have HE2 := lH (hown13);have HE4 := lH (hC13);have HX6 : Hid (∀ x, Below (w13).heap.size w13 x → x.cell? ⟨wR.heap.size, 0, none⟩ = some (iv (i0 : Int)) ∧ x.cell? ⟨wR.heap.size, 1, none⟩ = some (iv (i1 : Int)) ∧ wR.heap.size < x.heap.size) := lH fun x h => ⟨((hB13).under h).cell 0, ((hB13).under h).cell 1, ((hB13).under h).lt⟩
             have HX7 := lH (hD13);have HX8 := lH (hb413)
             go_upto_region 42 with fail
             refine wfl 3 (fun nR x => Below w13.heap.size w13 x) (fun x x' => Below x.heap.size x x')
              [eqv (iv (bk.hi : Int)),
               eqv (.agg #[iv (i0 : Int), iv (i1 : Int)]),
               eqv (iv (bk.hi : Int))]
              (Below.refl _ w13).drew ?_ ?_
             ·simp only [List.take_succ_cons, List.take_zero, HopL]
              repeat' apply And.intro
              ·refine fvr fun x hR kk rr _ => ?_
               have := rho0 rr 20;clear rr kk;exact ev0
              ·refine fvr fun x hR kk rr _ => ?_
               have := rho0 rr 14;clear rr kk;obtain ⟨g1, g2, g3⟩ := HX6.out x hR;exact ev0
              ·refine fvr fun x hR kk rr _ => ?_
               have := rho rr 255 (kk.at 0);clear rr kk;exact ev0
              ·trivial
             ·intro v nR x9 hnR hR hall;have h1 : v 1 = .agg #[iv (i0 : Int), iv (i1 : Int)] := hall 1 (by decide);have h2 : v 2 = iv (bk.hi : Int) := hall 2 (by decide);clear hall hnR;simp only [List.drop_succ_cons, List.drop_zero, List.take_succ_cons, List.take_zero, frameF, Act.put, List.setIfInBounds_toArray, List.set_cons_zero, List.set_cons_succ, Nat.zero_add, Nat.reduceAdd, h1, h2];have hD9 := HX7.out.under hR;have s0 := hD9.cell 0;have s1 := hD9.cell 1;have z0 := hD9.frozen 0;have z1 := hD9.frozen 1;have sl := hD9.lt;have hD10 := hD9.set_ 0 (iv (i0 : Int));have HDE : Hid (Blk ((x9.setCell ⟨w4.heap.size, 0, none⟩ (iv (i0 : Int))).setCell ⟨w4.heap.size, 1, none⟩ (iv (i1 : Int))) w4.heap.size 75 #[iv (i0 : Int), iv (i1 : Int)]) := lH (hD10.set_ 1 (iv (i1 : Int)));have HOE : Hid (Own strE 9 w4.heap.size ((x9.setCell ⟨w4.heap.size, 0, none⟩ (iv (i0 : Int))).setCell ⟨w4.heap.size, 1, none⟩ (iv (i1 : Int))) _ _) := lH (ownSetE (ownSetE (HE2.out.below hR) hD9 (by decide) _) hD10 (by decide) _)
              have HCE : Hid (Own pairE 103 w4.heap.size ((x9.setCell ⟨w4.heap.size, 0, none⟩ (iv (i0 : Int))).setCell ⟨w4.heap.size, 1, none⟩ (iv (i1 : Int))) _ _) := lH (ownSetE (ownSetE (HE4.out.below hR) hD9 (by decide) _) hD10 (by decide) _);have hbE : Below w4.heap.size w4 ((x9.setCell ⟨w4.heap.size, 0, none⟩ (iv (i0 : Int))).setCell ⟨w4.heap.size, 1, none⟩ (iv (i1 : Int))) := ((HX8.out.next hR nL).setCell (p := ⟨w4.heap.size, 0, none⟩) nL _).setCell (p := ⟨w4.heap.size, 1, none⟩) nL _
              have hme : vs0.length + vs1.length - cellN ((x9.setCell ⟨w4.heap.size, 0, none⟩ (iv (i0 : Int))).setCell ⟨w4.heap.size, 1, none⟩ (iv (i1 : Int))) w4.heap.size 0 - cellN ((x9.setCell ⟨w4.heap.size, 0, none⟩ (iv (i0 : Int))).setCell ⟨w4.heap.size, 1, none⟩ (iv (i1 : Int))) w4.heap.size 1 = vs0.length + vs1.length - i0 - i1 := by
               rw [Blk.cellN HDE.out (n := i0) rfl, Blk.cellN HDE.out (n := i1) rfl]
              have HME := lH hme;clear hD9 hD10 hR HE2 HE4 hme;(go_wp2_with fail);go_roundw
              case rel => exact ⟨i0, i1, bk.hi, _, _, rl, rfl, p3, hi0l, hi1l, hli, hci, HSN, HBN, HRN, HOE, HCE, HDE, hbE⟩
              case measure =>
               refine Nat.lt_of_le_of_lt (Nat.le_of_eq HME.out) ?_;rw [HWR.out];refine Nat.lt_of_lt_of_le ?_ (Nat.le_of_eq HMD.out.symm);omega
            ·have HRN := lH (HJG.out.2.2 (fun h => h.elim HNE1.out hH) HE0N.out);rw [decide_eq_false hH] at HSME;have hli : (Y ++ yd).length ≤ (i0 + i1) * 5000 := by rw [List.length_append]; omega
             have hci : (cf ++ [(bk.lo, bk.hi)]).length ≤ i0 + i1 := by rw [List.length_append]; simp; omega
             clear h1 h0 HJG hH;(go_wp2_with fail);refine HSME.out.mono ?_;rintro e w12 ⟨rfl, hb12⟩;have HO12 := lH (HO11.out.below hb12);have HC12 := lH (HC11.out.below hb12);have hB12 := hB11.under hb12;have hD12 := hD11.under hb12;have hb412 := hb411.next hb12 nL;have hsz2 := hb412.size;have HSD12 := lH (HSC.out w12 hb412).2;clear b0 b1 bl e0 e1 el hB11 hD11 HO11 HC11 HH011 HH111 hsz;have e0 := hD12.cell 0;have el := hD12.lt;have b0 := hB12.cell 0;have bl := hB12.lt
             go_upto_region 41 with (at_builtin; refine wpAppS strE tyStrs rfl _ _ rfl HO12.out HSD12.out rfl rfl hsz2 (by unfold big; omega) ?_; intro v13 w13 hown13 hb13 hk13)
             have HC13 := lH (HC12.out.keep hb13.size fun b hb => hk13 b (HC12.out.lt b hb).2 (Own.two HC12.out HO12.out (by decide) hb));have hB13 : Blk w13 wR.heap.size 75 #[iv (i0 : Int), iv (i1 : Int)] := (hk13 _ hB12.lt (ownNeBlk HO12.out hB12 (by decide))).trans hB12;have hD13 : Blk w13 w4.heap.size 75 #[iv (k0 : Int), iv (k1 : Int)] := (hk13 _ hD12.lt (ownNeBlk HO12.out hD12 (by decide))).trans hD12;have hb413 := hb412.trans hb13;have HO13 := lH hown13;have hsz3 := hb413.size;have hcl9 : cf.length + 1 ≤ big := by unfold big; omega
             clear hk13 hb13 hB12 hD12 HO12 HC12 HSD12 hb12 hb411 hown13 e0 el b0 bl
             go_upto_region 42 with (at_builtin; refine wpApp1 pairE tySpans rfl _ _ rfl HC13.out (bk.lo, bk.hi) rfl rfl rfl hsz3 hcl9 ?_; intro v14 w14 hown14 hb14 hk14)
             have hO14 := HO13.out.keep hb14.size fun b hb => hk14 b (HO13.out.lt b hb).2 (Own.two HO13.out HC13.out (by decide) hb)
             have hB14 : Blk w14 wR.heap.size 75 #[iv (i0 : Int), iv (i1 : Int)] := (hk14 _ hB13.lt (ownNeBlk HC13.out hB13 (by decide))).trans hB13;have hD14 : Blk w14 w4.heap.size 75 #[iv (k0 : Int), iv (k1 : Int)] := (hk14 _ hD13.lt (ownNeBlk HC13.out hD13 (by decide))).trans hD13;have hb414 := hb413.trans hb14;clear hk14 hb14 hB13 hD13 HO13 HC13 hb413;have hsx := (hb414).size;have HE2 := lH (hO14);have HE4 := lH (hown14);have HX6 : Hid (∀ x, Below (w14).heap.size w14 x → x.cell? ⟨wR.heap.size, 0, none⟩ = some (iv (i0 : Int)) ∧ x.cell? ⟨wR.heap.size, 1, none⟩ = some (iv (i1 : Int)) ∧ wR.heap.size < x.heap.size) := lH fun x h => ⟨((hB14).under h).cell 0, ((hB14).under h).cell 1, ((hB14).under h).lt⟩
             have HX7 := lH (hD14);have HX8 := lH (hb414)
             go_upto_region 42 with fail
             refine wfl 3 (fun nR x => Below w14.heap.size w14 x) (fun x x' => Below x.heap.size x x')
              [eqv (iv (bk.hi : Int)),
               eqv (.agg #[iv (i0 : Int), iv (i1 : Int)]),
               eqv (iv (bk.hi : Int))]
              (Below.refl _ w14).drew ?_ ?_
             ·simp only [List.take_succ_cons, List.take_zero, HopL]
              repeat' apply And.intro
              ·refine fvr fun x hR kk rr _ => ?_
               have := rho0 rr 20;clear rr kk;exact ev0
              ·refine fvr fun x hR kk rr _ => ?_
               have := rho0 rr 14;clear rr kk;obtain ⟨g1, g2, g3⟩ := HX6.out x hR;exact ev0
              ·refine fvr fun x hR kk rr _ => ?_
               have := rho rr 255 (kk.at 0);clear rr kk;exact ev0
              ·trivial
             ·intro v nR x9 hnR hR hall;have h1 : v 1 = .agg #[iv (i0 : Int), iv (i1 : Int)] := hall 1 (by decide);have h2 : v 2 = iv (bk.hi : Int) := hall 2 (by decide);clear hall hnR;simp only [List.drop_succ_cons, List.drop_zero, List.take_succ_cons, List.take_zero, frameF, Act.put, List.setIfInBounds_toArray, List.set_cons_zero, List.set_cons_succ, Nat.zero_add, Nat.reduceAdd, h1, h2];have hD9 := HX7.out.under hR;have s0 := hD9.cell 0;have s1 := hD9.cell 1;have z0 := hD9.frozen 0;have z1 := hD9.frozen 1;have sl := hD9.lt;have hD10 := hD9.set_ 0 (iv (i0 : Int));have HDE : Hid (Blk ((x9.setCell ⟨w4.heap.size, 0, none⟩ (iv (i0 : Int))).setCell ⟨w4.heap.size, 1, none⟩ (iv (i1 : Int))) w4.heap.size 75 #[iv (i0 : Int), iv (i1 : Int)]) := lH (hD10.set_ 1 (iv (i1 : Int)));have HOE : Hid (Own strE 9 w4.heap.size ((x9.setCell ⟨w4.heap.size, 0, none⟩ (iv (i0 : Int))).setCell ⟨w4.heap.size, 1, none⟩ (iv (i1 : Int))) _ _) := lH (ownSetE (ownSetE (HE2.out.below hR) hD9 (by decide) _) hD10 (by decide) _)
              have HCE : Hid (Own pairE 103 w4.heap.size ((x9.setCell ⟨w4.heap.size, 0, none⟩ (iv (i0 : Int))).setCell ⟨w4.heap.size, 1, none⟩ (iv (i1 : Int))) _ _) := lH (ownSetE (ownSetE (HE4.out.below hR) hD9 (by decide) _) hD10 (by decide) _);have hbE : Below w4.heap.size w4 ((x9.setCell ⟨w4.heap.size, 0, none⟩ (iv (i0 : Int))).setCell ⟨w4.heap.size, 1, none⟩ (iv (i1 : Int))) := ((HX8.out.next hR nL).setCell (p := ⟨w4.heap.size, 0, none⟩) nL _).setCell (p := ⟨w4.heap.size, 1, none⟩) nL _
              have hme : vs0.length + vs1.length - cellN ((x9.setCell ⟨w4.heap.size, 0, none⟩ (iv (i0 : Int))).setCell ⟨w4.heap.size, 1, none⟩ (iv (i1 : Int))) w4.heap.size 0 - cellN ((x9.setCell ⟨w4.heap.size, 0, none⟩ (iv (i0 : Int))).setCell ⟨w4.heap.size, 1, none⟩ (iv (i1 : Int))) w4.heap.size 1 = vs0.length + vs1.length - i0 - i1 := by
               rw [Blk.cellN HDE.out (n := i0) rfl, Blk.cellN HDE.out (n := i1) rfl]
              have HME := lH hme;clear hD9 hD10 hR HE2 HE4 hme;(go_wp2_with fail);go_roundw
              case rel => exact ⟨i0, i1, bk.hi, _, _, rl, rfl, p3, hi0l, hi1l, hli, hci, HSN, HBN, HRN, HOE, HCE, HDE, hbE⟩
              case measure =>
               refine Nat.lt_of_le_of_lt (Nat.le_of_eq HME.out) ?_;rw [HWR.out];refine Nat.lt_of_lt_of_le ?_ (Nat.le_of_eq HMD.out.symm);omega
    ·as_aux_lemma =>
     have HM2 := lH hmz;have HI0 : Hid (true = true → i0 + i1 ≤ i0 + i1) := lH fun _ => Nat.le_refl _
     have HF3 : Hid (File.Idle C D k0 k1 i0 i1 0 i0 i1 false) := lH fun _ => ⟨rfl, rfl, fun h => absurd h (by decide), fun h => absurd h (by decide)⟩
     have HT3 : Hid (false = true → i0 + i1 < i0 + i1) := lH fun h => by cases h
     clear hmz HZ;(go_wp2_with fail)
     go_loopw [16, 17] (fun g kk wx => ∃ (t j0 j1 : Nat) (z : Bool), t ≤ 2 ∧ kk = iv (t : Int) ∧ g = .bool z ∧ Hid (File.Grows C D k0 k1 bk j0 j1) ∧ Hid (Blk wx wR.heap.size 75 #[iv (j0 : Int), iv (j1 : Int)]) ∧ Hid (z = true → i0 + i1 < j0 + j1) ∧ Hid (File.Idle C D k0 k1 i0 i1 t j0 j1 z) ∧ Below wR.heap.size wR wx) (fun _ kk _ => 2 - (intOf kk).toNat)
     case atStart => exact ⟨0, i0, i1, false, by omega, rfl, rfl, HG, HB, HT3, HF3, hbx⟩
     case round =>
      clear HT3 HF3 HI0 HG HB hbx;obtain ⟨t, j0, j1, z, ht, rfl, rfl, HG, HB, HT, HF3, hbx⟩ := hrel
      by_cases ht2 : t < 2
      ·have hti : (t : Int) < 2 := (by omega);obtain ⟨vX, vY, AX, AY, dX, dY, tu, jx, jy, ky, hal⟩ := alike_of HST.out HG.out HQ0.out HQ1.out hv0 hv1 hn0 hn1 (fun W h => ⟨(HFW.out W h).1, (HFW.out W h).2.1, (HFW.out W h).2.2.1, (HFW.out W h).2.2.2.1⟩) HSM.out ht2;have hut := hal.ut;have hX := hal.lx;have hY := hal.ly;have hjx := hal.hjx;have hky := hal.hky;have hjy := hal.hjy;have HAL := lH hal;clear hal;have hui : IntKind.i64.wrap (1 - (t : Int)) = (tu : Int) := by rw [show 1 - (t : Int) = (tu : Int) by omega]; exact IntWalk.i64_in _ (by omega)
       have hui2 : (tu : Int) < 2 := (by omega);have hu2 : tu < 2 := (by omega);have hzt := HT.out;have HP0 := lH (HAL.out.self);have HB0 : Hid (Blk wr wR.heap.size 75 #[iv ((File.at2 t jx j0 j1).1 : Int), iv ((File.at2 t jx j0 j1).2 : Int)]) := lH (by rw [HP0.out]; exact HB.out);have hBr := HB0.out;obtain ⟨g1, g2, g3, g4, g5⟩ := HAL.out.cells wr hbx;have b1 := hBr.cell t;have b2 := hBr.cell tu;rw [(HAL.out.place jx).1] at b1;rw [(HAL.out.place jx).2.1] at b2;have bl := hBr.lt;clear hBr hzt HB
       by_cases hend : jx = vX.length
       ·have he1 : ((jx : Int) == (vX.length : Int)) = true := by simp [hend]
        have HC9 : Hid (File.Calm (vX.map EdV.ed) (vY.map EdV.ed) ky jx jy) := lH fun x hx => by
         rw [List.getElem?_eq_none (by rw [List.length_map]; omega)] at hx
         cases hx
        have HF4 : Hid (File.Idle C D k0 k1 i0 i1 (t + 1) j0 j1 z) := lH fun hz => by
         obtain ⟨e1, e2, e3, e4⟩ := HF3.out hz;obtain ⟨c1, c2⟩ := HAL.out.calm HC9.out;rw [e1, e2] at c1 c2;refine ⟨e1, e2, fun _ => ?_, fun h => c2 (by omega)⟩
         by_cases h0 : t = 0
         ·exact c1 h0
         ·exact e3 (by omega)
        clear hend b2 g2 g3 g5 HC9 HF3;(go_wp2_with fail)
        go_quiet (fail)
        have hqd : Below wR.heap.size wR (wr.drewN nq) := ⟨hbx.os, hbx.tape, hbx.output, hbx.size, hbx.block⟩;have HBq : Hid (Blk (wr.drewN nq) wR.heap.size 75 #[iv (j0 : Int), iv (j1 : Int)]) := lH (by have := HB0.out; rw [HP0.out] at this; exact this);generalize wr.drewN nq = wq at *;(go_wp2_with fail);go_roundw
        case rel => exact ⟨t + 1, j0, j1, z, by omega, by go_num, rfl, HG, HBq, HT, HF4, hqd⟩
        case measure => simp [intOf]; omega
       ·have he1 : ((jx : Int) == (vX.length : Int)) = false := by simp; omega
        have HG0 : Hid (File.Grows C D k0 k1 bk (File.at2 t jx j0 j1).1 (File.at2 t jx j0 j1).2) := lH (by rw [HP0.out]; exact HG.out);clear hend;(go_wp2_with fail)
        go_quiet (fail)
        have hqd : Below wR.heap.size wR (wr.drewN nq) := ⟨hbx.os, hbx.tape, hbx.output, hbx.size, hbx.block⟩;have HBq : Hid (Blk (wr.drewN nq) wR.heap.size 75 #[iv ((File.at2 t jx j0 j1).1 : Int), iv ((File.at2 t jx j0 j1).2 : Int)]) := lH HB0.out;have g3' : (wr.drewN nq).cell? ⟨w4.heap.size, tu, none⟩ = some (iv (ky : Int)) := g3;have g5' : w4.heap.size < (wr.drewN nq).heap.size := g5;generalize wr.drewN nq = wq at *;clear g1 g2 g3 g4 g5 b1 b2 bl HB0 hbx HG;(go_wp2_with fail)
        go_loopw [16, 18] (fun g vi wx => ∃ (m n : Nat) (zz : Bool), ky ≤ m ∧ m ≤ jy ∧ vi = iv (m : Int) ∧ g = .bool zz ∧ jx ≤ n ∧ n ≤ vX.length ∧ Hid (File.Grows C D k0 k1 bk (File.at2 t n j0 j1).1 (File.at2 t n j0 j1).2) ∧ Hid (Blk wx wR.heap.size 75 #[iv ((File.at2 t n j0 j1).1 : Int), iv ((File.at2 t n j0 j1).2 : Int)]) ∧ Hid (zz = true → z = true ∨ jx < n) ∧ Hid (zz = false → z = false ∧ n = jx ∧ File.Calm (vX.map EdV.ed) (vY.map EdV.ed) ky jx m) ∧ Below wR.heap.size wR wx) (fun _ vi _ => jy - (intOf vi).toNat)
        case atStart => exact ⟨ky, jx, z, Nat.le_refl _, hky, rfl, rfl, Nat.le_refl _, hjx, HG0, HBq, lH fun h => .inl h, lH fun h => ⟨h, rfl, fun _ _ m y h1 h2 => by omega⟩, hqd⟩
        case round =>
         clear HG0 HBq g3' g5' hqd;obtain ⟨m, n, zz, hm1, hm2, rfl, rfl, hn1', hn2', HG, HB, HTT, HFF, hbx⟩ := hrel;have hBr := HB.out;have b2 := hBr.cell tu;rw [(HAL.out.place n).2.1] at b2;have bl := hBr.lt
         by_cases hmj : m < jy
         ·have hmi : (m : Int) < (jy : Int) := (by omega);have hyl : m < vY.length := (by omega);obtain ⟨bY, oY, y, eY, hbY, hy, _, _, _⟩ := Sl.atEd (HAL.out.sly wr hbx) hyl;have hyi : (m : Int) < (vY.length : Int) := (by omega);subst eY;have hb1 := hBr.cell t;rw [(HAL.out.place n).1] at hb1;have HBX : Hid (∀ x, Below wR.heap.size wR x → x.cell? ⟨gC, t, none⟩ = some (.slice AX vX.length dX) ∧ x.cell? ⟨gC, tu, none⟩ = some (.slice (some ⟨bY, oY, none⟩) vY.length dY) ∧ gC < x.heap.size) := lH fun x h => ⟨(HAL.out.cells x h).1, (HAL.out.cells x h).2.1, (HAL.out.cells x h).2.2.2.1⟩
          have HBB : Hid (∀ x, Below wr.heap.size wr x → x.cell? ⟨wR.heap.size, t, none⟩ = some (iv (n : Int)) ∧ wR.heap.size < x.heap.size) := lH fun x h => by
           have h1 := (HB.out.under h);have h2 := h1.cell t;rw [(HAL.out.place n).1] at h2;exact ⟨h2, h1.lt⟩
          have HYD : Hid ((vY.map EdV.ed)[m]? = some y.ed) := lH (by rw [List.getElem?_map, hy]; rfl);clear hBr hb1
          by_cases hnx : n < vX.length
          ·have hni : (n : Int) < (vX.length : Int) := (by omega);obtain ⟨bX, oX, x0, eX, hbX, hx, _, _, _⟩ := Sl.atEd (HAL.out.slx wr hbx) hnx;subst eX;have hsx := HAL.out.small x0 (.inl (mem_at hx));have hsy := HAL.out.small y (.inr (mem_at hy));obtain ⟨mt, hmt⟩ : ∃ mt, mt = File.meet x0.ed y.ed := ⟨_, rfl⟩
           have HMT : Hid (∀ W, Calls Tryz.prog 112 #[.agg #[iv x0.at_, .slice x0.A x0.old.length x0.c, .slice x0.A' x0.new.length x0.c'], .agg #[iv y.at_, .slice y.A y.old.length y.c, .slice y.A' y.new.length y.c']] W fun e w' => e = .returned (.bool mt) ∧ Below W.heap.size W w') := lH fun W => by
            rw [hmt];exact rmeet_spec x0 y W ⟨hsx.1, hsx.2.1⟩ ⟨hsy.1, hsy.2.1⟩ hsx.2.2.1 hsy.2.2.1
           have HCX : Hid (∀ W, Below wR.heap.size wR W → W.cell? ⟨bX, oX + n * 3, none⟩ = some (iv x0.at_) ∧ W.cell? ⟨bX, oX + n * 3 + 1, none⟩ = some (.slice x0.A x0.old.length x0.c) ∧ W.cell? ⟨bX, oX + n * 3 + 2, none⟩ = some (.slice x0.A' x0.new.length x0.c')) := lH (Sl.cellEd (HAL.out.slx wR rB) hx);have HCY : Hid (∀ W, Below wR.heap.size wR W → W.cell? ⟨bY, oY + m * 3, none⟩ = some (iv y.at_) ∧ W.cell? ⟨bY, oY + m * 3 + 1, none⟩ = some (.slice y.A y.old.length y.c) ∧ W.cell? ⟨bY, oY + m * 3 + 2, none⟩ = some (.slice y.A' y.new.length y.c')) := lH (Sl.cellEd (HAL.out.sly wR rB) hy);have HXD : Hid ((vX.map EdV.ed)[n]? = some x0.ed) := lH (by rw [List.getElem?_map, hx]; rfl);have HMM := lH hmt;have hb3 : n ≤ 25 := (by omega);clear hx hy hsx hsy hmt hbX hbY
           go_upto_region 22 with fail
           clear b2 bl
           refine wfl 26 (fun nR x => Below wr.heap.size wr x) (fun x x' => Below x.heap.size x x')
            [eqv (iv (t : Int)),
             eqv (.pointer (some ⟨wR.heap.size, t, none⟩)),
             eqv (iv (n : Int)),
             eqv (iv (t : Int)),
             eqv (.pointer (some ⟨gC, t, none⟩)),
             eqv (.slice (some ⟨bX, oX, none⟩) vX.length dX),
             eqv (iv (vX.length : Int)),
             eqv (.bool true),
             eqv (.bool true),
             eqv (iv (t : Int)),
             eqv (.pointer (some ⟨gC, t, none⟩)),
             eqv (.slice (some ⟨bX, oX, none⟩) vX.length dX),
             eqv (iv (t : Int)),
             eqv (.pointer (some ⟨wR.heap.size, t, none⟩)),
             eqv (iv (n : Int)),
             eqv (.pointer (some ⟨bX, oX + n * 3, none⟩)),
             eqv (.agg #[iv x0.at_, .slice x0.A x0.old.length x0.c, .slice x0.A' x0.new.length x0.c']),
             eqv (iv (t : Int)),
             eqv (iv (tu : Int)),
             eqv (.pointer (some ⟨gC, tu, none⟩)),
             eqv (.slice (some ⟨bY, oY, none⟩) vY.length dY),
             eqv (iv (m : Int)),
             eqv (.pointer (some ⟨bY, oY + m * 3, none⟩)),
             eqv (.agg #[iv y.at_, .slice y.A y.old.length y.c, .slice y.A' y.new.length y.c']),
             eqv (.bool mt),
             eqv (.bool mt)]
            (Below.refl _ wr).drew ?_ ?_
           ·simp only [List.take_succ_cons, List.take_zero, HopL]
            repeat' apply And.intro
            ·refine fvr fun x hR kk rr _ => ?_
             have := rho0 rr 17;clear rr kk;exact ev0
            ·refine fvr fun x hR kk rr _ => ?_
             have := rho0 rr 14;have := rho rr 113 (kk.at 0);clear rr kk;have g1 := (HBB.out x hR).2;exact ev0
            ·refine fvr fun x hR kk rr _ => ?_
             have := rho rr 114 (kk.at 1);clear rr kk;have g1 := (HBB.out x hR).1;exact ev0
            ·refine fvr fun x hR kk rr _ => ?_
             have := rho0 rr 17;clear rr kk;exact ev0
            ·refine fvr fun x hR kk rr _ => ?_
             have := rho0 rr 9;have := rho rr 116 (kk.at 3);clear rr kk;have g1 := (HBX.out x (hbx.next hR nL)).2.2;exact ev0
            ·refine fvr fun x hR kk rr _ => ?_
             have := rho rr 117 (kk.at 4);clear rr kk;have g1 := (HBX.out x (hbx.next hR nL)).1;exact ev0
            ·refine fvr fun x hR kk rr _ => ?_
             have := rho rr 118 (kk.at 5);clear rr kk;exact ev0
            ·refine fvr fun x hR kk rr _ => ?_
             have := rho rr 115 (kk.at 2);have := rho rr 119 (kk.at 6);clear rr kk;exact ev0
            ·refine fvr fun x hR kk rr _ => ?_
             have := rho rr 120 (kk.at 7);clear rr kk;exact ev0
            ·refine fvr fun x hR kk rr _ => ?_
             have := rho0 rr 17;clear rr;exact ev0 (wat (kk.at 8))
            ·refine fvr fun x hR kk rr _ => ?_
             have := rho0 rr 9;have := rho rr 122 (kk.at 9);clear rr;have g1 := (HBX.out x (hbx.next hR nL)).2.2;exact ev0 (wat (kk.at 8))
            ·refine fvr fun x hR kk rr _ => ?_
             have := rho rr 123 (kk.at 10);clear rr;have g1 := (HBX.out x (hbx.next hR nL)).1;exact ev0 (wat (kk.at 8))
            ·refine fvr fun x hR kk rr _ => ?_
             have := rho0 rr 17;clear rr;exact ev0 (wat (kk.at 8))
            ·refine fvr fun x hR kk rr _ => ?_
             have := rho0 rr 14;have := rho rr 125 (kk.at 12);clear rr;have g1 := (HBB.out x hR).2;exact ev0 (wat (kk.at 8))
            ·refine fvr fun x hR kk rr _ => ?_
             have := rho rr 126 (kk.at 13);clear rr;have g1 := (HBB.out x hR).1;exact ev0 (wat (kk.at 8))
            ·refine fvr fun x hR kk rr _ => ?_
             have := rho rr 124 (kk.at 11);have := rho rr 127 (kk.at 14);clear rr;exact ev0 (wat (kk.at 8))
            ·refine fvr fun x hR kk rr _ => ?_
             have := rho rr 128 (kk.at 15);clear rr;obtain ⟨g1, g2, g3⟩ := HCX.out x (hbx.next hR nL);exact ev0 (wat (kk.at 8))
            ·refine fvr fun x hR kk rr _ => ?_
             have := rho0 rr 17;clear rr;exact ev0 (wat (kk.at 8))
            ·refine fvr fun x hR kk rr _ => ?_
             have := rho rr 130 (kk.at 17);clear rr;exact ev0 (wat (kk.at 8))
            ·refine fvr fun x hR kk rr _ => ?_
             have := rho0 rr 9;have := rho rr 131 (kk.at 18);clear rr;have g1 := (HBX.out x (hbx.next hR nL)).2.2;exact ev0 (wat (kk.at 8))
            ·refine fvr fun x hR kk rr _ => ?_
             have := rho rr 132 (kk.at 19);clear rr;have g1 := (HBX.out x (hbx.next hR nL)).2.1;exact ev0 (wat (kk.at 8))
            ·refine fvr fun x hR kk rr _ => ?_
             have := rho0 rr 18;clear rr;exact ev0 (wat (kk.at 8))
            ·refine fvr fun x hR kk rr _ => ?_
             have := rho rr 133 (kk.at 20);have := rho rr 134 (kk.at 21);clear rr;exact ev0 (wat (kk.at 8))
            ·refine fvr fun x hR kk rr _ => ?_
             have := rho rr 135 (kk.at 22);clear rr;obtain ⟨g1, g2, g3⟩ := HCY.out x (hbx.next hR nL);exact ev0 (wat (kk.at 8))
            ·refine fvr fun x hR kk rr _ => ?_
             have := rho rr 129 (kk.at 16);have := rho rr 136 (kk.at 23);clear rr;exact ec (hc := HMT.out x) (hw := (wat (kk.at 8)))
            ·refine fvr fun x hR kk rr _ => ?_
             have := rho rr 121 (kk.at 8);have := rho rr 137 (kk.at 24);clear rr kk;exact ev0
            ·trivial
           ·intro v nR x1 hnR hR hall;have h25 : v 25 = .bool mt := hall 25 (by decide);clear hall hnR;simp only [List.drop_succ_cons, List.drop_zero, List.take_succ_cons, List.take_zero, frameF, Act.put, List.setIfInBounds_toArray, List.set_cons_zero, List.set_cons_succ, Nat.zero_add, Nat.reduceAdd, h25];have hbx2 := hbx.next hR nL;have HB2 := lH (HB.out.under hR);clear hR HBB hbx HB
            cases mt
            ·have HFF2 : Hid (zz = false → z = false ∧ n = jx ∧ File.Calm (vX.map EdV.ed) (vY.map EdV.ed) ky jx (m + 1)) := lH fun h => by
              obtain ⟨e1, e2, e3⟩ := HFF.out h;refine ⟨e1, e2, fun x hx m' y' h1 h2 hy' => ?_⟩
              by_cases hmm : m' = m
              ·subst hmm;rw [HYD.out] at hy';rw [← e2, HXD.out] at hx;rw [← Option.some.inj hx, ← Option.some.inj hy', ← HMM.out]
              ·exact e3 x hx m' y' h1 (by omega) hy'
             (go_wp2_with fail);go_roundw
             case rel => exact ⟨m + 1, n, zz, by omega, by omega, by go_num, rfl, hn1', hn2', HG, HB2, HTT, HFF2, hbx2⟩
             case measure => simp [intOf]; omega
            ·have HG2 : Hid (File.Grows C D k0 k1 bk (File.at2 t (n + 1) j0 j1).1 (File.at2 t (n + 1) j0 j1).2) := lH (HAL.out.grow n m x0.ed y.ed HG.out HXD.out hm1 hmj HYD.out HMM.out.symm);have hB2 := HB2.out;have c1 := hB2.cell t;rw [(HAL.out.place n).1] at c1;have cf := hB2.frozen t;have cl := hB2.lt;have ewn : IntKind.i64.wrap ((n : Int) + 1) = (n : Int) + 1 := IntWalk.i64_in _ (by omega);have HB3 : Hid (Blk (x1.setCell ⟨wR.heap.size, t, none⟩ (iv ((n : Int) + 1))) wR.heap.size 75 #[iv ((File.at2 t (n + 1) j0 j1).1 : Int), iv ((File.at2 t (n + 1) j0 j1).2 : Int)]) := lH (by rw [← HAL.out.set_ n]; exact hB2.set_ _ _);have hbx3 : Below wR.heap.size wR (x1.setCell ⟨wR.heap.size, t, none⟩ (iv ((n : Int) + 1))) := hbx2.setCell (p := ⟨wR.heap.size, t, none⟩) nL _;have HT6 : Hid (true = true → z = true ∨ jx < n + 1) := lH fun _ => .inr (by omega)
             have HF6 : Hid (true = false → z = false ∧ n + 1 = jx ∧ File.Calm (vX.map EdV.ed) (vY.map EdV.ed) ky jx (m + 1)) := lH fun h => by cases h
             clear hB2 HB2 HG HTT HFF;(go_wp2_with fail);go_roundw
             case rel => exact ⟨m + 1, n + 1, true, by omega, by omega, by go_num, rfl, by omega, by omega, HG2, HB3, HT6, HF6, hbx3⟩
             case measure => simp [intOf]; omega
          ·have hni : ¬ (n : Int) < (vX.length : Int) := (by omega)
           have HFF2 : Hid (zz = false → z = false ∧ n = jx ∧ File.Calm (vX.map EdV.ed) (vY.map EdV.ed) ky jx (m + 1)) := lH fun h => by
            obtain ⟨e1, e2, e3⟩ := HFF.out h;refine ⟨e1, e2, fun x hx => ?_⟩;rw [← e2, List.getElem?_eq_none (by rw [List.length_map]; omega)] at hx
            cases hx
           have g1 := (HBX.out wr hbx).1;have g2 := (HBX.out wr hbx).2.2;have g3 := (HBB.out wr rB).1;have g4 := (HBB.out wr rB).2;clear hy hbY
           go_upto_region 22 with fail
           go_quiet (fail)
           have hqd : Below wR.heap.size wR (wr.drewN nq) := ⟨hbx.os, hbx.tape, hbx.output, hbx.size, hbx.block⟩;have HBq : Hid (Blk (wr.drewN nq) wR.heap.size 75 #[iv ((File.at2 t n j0 j1).1 : Int), iv ((File.at2 t n j0 j1).2 : Int)]) := lH HB.out;generalize wr.drewN nq = wq at *;(go_wp2_with fail);go_roundw
           case rel => exact ⟨m + 1, n, zz, by omega, by omega, by go_num, rfl, hn1', hn2', HG, HBq, HTT, HFF2, hqd⟩
           case measure => simp [intOf]; omega
         ·have hmi : ¬ (m : Int) < (jy : Int) := (by omega);have hmm : m = jy := (by omega);obtain ⟨p0, hp0⟩ : ∃ p0, p0 = (File.at2 t n j0 j1).1 := ⟨_, rfl⟩;obtain ⟨p1', hp1⟩ : ∃ p1', p1' = (File.at2 t n j0 j1).2 := ⟨_, rfl⟩;have hpl := (HAL.out.place n).2.2
          have HT5 : Hid (zz = true → i0 + i1 < p0 + p1') := lH fun h => by
           rw [hp0, hp1]
           rcases HTT.out h with h | h
           ·have := HT.out h; omega
           ·cases hz : z
            ·obtain ⟨e1, e2, _, _⟩ := HF3.out hz;omega
            ·have := HT.out hz; omega
          have HF5 : Hid (File.Idle C D k0 k1 i0 i1 (t + 1) p0 p1' zz) := lH fun h => by
           obtain ⟨hz, hnj, hcm⟩ := HFF.out h;obtain ⟨e1, e2, e3, e4⟩ := HF3.out hz;rw [hmm] at hcm;obtain ⟨c1, c2⟩ := HAL.out.calm hcm;rw [hp0, hp1, hnj, HP0.out];rw [e1, e2] at c1 c2;refine ⟨e1, e2, fun _ => ?_, fun h => c2 (by omega)⟩
           by_cases h0 : t = 0
           ·exact c1 h0
           ·exact e3 (by omega)
          rw [← hp0, ← hp1] at HG HB;clear hmm hpl hp0 hp1 hBr HTT HFF HT HF3;(go_wp2_with fail);go_roundw
          case rel => exact ⟨t + 1, p0, p1', zz, by omega, by go_num, rfl, HG, HB, HT5, HF5, hbx⟩
          case measure => simp [intOf]; omega
      ·have hti : ¬ (t : Int) < 2 := (by omega)
       have HZ2 : Hid (z = false → File.Calm C D k1 j0 j1 ∧ File.Calm D C k0 j1 j0) := lH fun hz => by
        obtain ⟨e1, e2, e3, e4⟩ := HF3.out hz;rw [e1, e2];exact ⟨e3 (by omega), e4 (by omega)⟩
       have hgr := HG.out;have g1 := hgr.hi0;have g2 := hgr.hi1
       have hmn : (k0 + bk.e0.length + k1 + bk.e1.length) - cellN wr wR.heap.size 0 - cellN wr wR.heap.size 1 + boolN (.bool z) < (k0 + bk.e0.length + k1 + bk.e1.length) - i0 - i1 + boolN (.bool true) := by
        rw [Blk.cellN HB.out (n := j0) rfl, Blk.cellN HB.out (n := j1) rfl]
        cases z
        ·obtain ⟨e1, e2, _, _⟩ := HF3.out rfl;rw [e1, e2]
         show _ + 0 < _ + 1
         omega
        ·have := HT.out rfl
         show _ + 1 < _ + 1
         omega
       have HMN := lH hmn;clear hgr g1 g2 hmn HF3 HT;(go_wp2_with fail);go_roundw
       case rel => exact ⟨j0, j1, z, rfl, HG, HB, HZ2, hbx⟩
       case measure =>
        refine Nat.lt_of_lt_of_le HMN.out ?_;exact Nat.le_of_eq HM2.out.symm
end Fl
end
section
namespace Fl
open Go.RowKit
def SinceOk (n : Nat) : Prop := ∀ (A : Option Addr) (rs : List (Rw ByteArray)) (c : Nat) (w : World), rs.length = n + 1 → n ≤ 100 → rs.length ≤ c → Sl (rwE ByteArray) w A rs → RowsR strE w rs → (∀ r ∈ rs, Good r.xs) →
  Calls Tryz.prog 62 #[.slice A rs.length c] w fun e w' => ∃ v, e = .returned v ∧ Own intE 3 w.heap.size w' v (File.sinceAt (rs.map Rw.xs) n) ∧ Below w.heap.size w w'
theorem fill_set {N k : Nat} (hk : k < N) (z : Int) : (List.replicate k z ++ List.replicate (N - k) 0).set k z = List.replicate (k + 1) z ++ List.replicate (N - (k + 1)) 0 := by
 rw [List.set_append_right k z (by simp)];rw [List.length_replicate, Nat.sub_self, show N - k = (N - (k + 1)) + 1 by omega, List.replicate_succ, List.set_cons_zero, List.replicate_succ', List.append_assoc];rfl
theorem tyStrss : SlTy Tryz.prog 42 23 1 := slTy_of (z := .slice none 0 0) (bytes := 24) Tryz.underlying42 (by kernel_rfl) rfl (by decide)
set_option maxHeartbeats 8000000 in
theorem rsince_step (n : Nat) (IH : ∀ m, n = m + 1 → SinceOk m) : SinceOk n := by
 intro A rs c w hn hm hc hs hr hg;obtain ⟨V, hV⟩ : ∃ V, V = rs.map Rw.xs := ⟨_, rfl⟩;rw [← hV];obtain ⟨bv, ov, fr, eA, hbv, hfr, hc0⟩ := Sl.atRw hs (show n < rs.length by omega);have hfg := hg fr (mem_at hfr);have hf24 : fr.xs.length ≤ 24 := hfg.many;have hVn : V.getD n [] = fr.xs := by rw [hV, List.getD_eq_getElem?_getD, List.getElem?_map, hfr]; rfl
 have ew1 : IntKind.i64.wrap ((rs.length : Int) - 1) = (n : Int) := by rw [show (rs.length : Int) - 1 = (n : Int) by omega]; exact IntWalk.i64_in _ (by omega)
 have hni : (n : Int) < (rs.length : Int) := (by omega);have HN := lH hn;have HRR := lH hr;have HGG := lH hg;have HFR := lH hfr;have HV := lH hV;have HVN := lH hVn;have HFG := lH hfg;have HS := lH hs;have HIH := lH IH;subst eA;clear hn hr hg hfr hV hVn hfg hs IH
 go_enter Tryz.func62, Tryz.ntmps62
 go_wp2_with (at_make; refine wpMakeN intE tyInts 0 zero_int rfl _ _ rfl fr.xs.length rfl rfl (by unfold big; omega) ?_; intro w1 hown1 hb1)
 have HO1 : Hid (Own intE 3 w.heap.size w1 (.slice (some ⟨w.heap.size, 0, none⟩) fr.xs.length fr.xs.length) (List.replicate 0 (n : Int) ++ List.replicate (fr.xs.length - 0) 0)) := lH (by simpa using hown1);have hgO := (Own.lt hown1 w.heap.size rfl).2;clear hown1
 go_loopw [5] (fun v wr => ∃ k : Nat, k ≤ fr.xs.length ∧ v = iv (k : Int) ∧ Hid (Own intE 3 w.heap.size wr (.slice (some ⟨w.heap.size, 0, none⟩) fr.xs.length fr.xs.length) (List.replicate k (n : Int) ++ List.replicate (fr.xs.length - k) 0)) ∧ Below w.heap.size w wr) (fun v _ => fr.xs.length - (intOf v).toNat)
 case atStart => exact ⟨0, Nat.zero_le _, rfl, HO1, hb1⟩
 case round =>
  clear HO1 hgO hb1;obtain ⟨k, hk, rfl, HO, hbr⟩ := hrel
  by_cases hlt : k < fr.xs.length
  ·have hki : (k : Int) < (fr.xs.length : Int) := (by omega);have hln : (List.replicate k (n : Int) ++ List.replicate (fr.xs.length - k) 0).length = fr.xs.length := by simp; omega
   obtain ⟨g, cc, x0, e1, hgB, hgl, hx0, hcx, hfz⟩ := ownI HO.out (k := k) (by rw [hln]; exact hlt);injection e1 with e1 e2 e3;injection e1 with e1;injection e1 with e1 _ _;clear e2;subst e1;have hset := setI HO.out (k := k) (by rw [hln]; exact hlt) (n : Int);rw [fill_set hlt] at hset;have HO2 := lH hset;have hfk := hfz k;have hb2 : Below w.heap.size w (wr.setCell ⟨w.heap.size, k, none⟩ (iv (n : Int))) := hbr.setCell (p := ⟨w.heap.size, k, none⟩) nL _;clear hset hln HO hfz e3 hx0 hgB;(go_wp2_with fail);go_roundw
   case rel => exact ⟨k + 1, by omega, by go_num, HO2, hb2⟩
   case measure => simp [intOf]; omega
  ·have hki : ¬ (k : Int) < (fr.xs.length : Int) := (by omega)
   have HO2 : Hid (Own intE 3 w.heap.size wr (.slice (some ⟨w.heap.size, 0, none⟩) fr.xs.length fr.xs.length) (List.replicate fr.xs.length (n : Int))) := lH (by
    have := HO.out;rw [show k = fr.xs.length by omega, Nat.sub_self] at this
    simpa using this)
   clear HO;generalize wr = w2 at *
   by_cases hn0 : n = 0
   ·have ht0 : ((n : Int) == 0) = true := by simp [hn0]
    have HSN : Hid (List.replicate fr.xs.length (n : Int) = File.sinceAt V n) := lH (by have h := HVN.out; rw [hn0] at h ⊢; unfold File.sinceAt; rw [h]; rfl);clear hn0;(go_wp2_with fail);go_ret;exact ⟨_, rfl, by rw [← HSN.out]; exact HO2.out, hbr⟩
   ·have ht0 : ((n : Int) == 0) = false := by simp; omega
    obtain ⟨m, hnm⟩ : ∃ m, n = m + 1 := ⟨n - 1, by omega⟩;have hgO := (Own.lt HO2.out w.heap.size rfl).2;have hfl : (rs.take n).length = n := by rw [List.length_take]; have := HN.out; omega
    have hrl := HN.out
    have HIH2 : Hid (Calls Tryz.prog 62 #[.slice (some ⟨bv, ov, none⟩) n c] w2 fun e w' => ∃ v, e = .returned v ∧ Own intE 3 w2.heap.size w' v (File.sinceAt V m) ∧ Below w2.heap.size w2 w') := lH (by
     have h := HIH.out m hnm (some ⟨bv, ov, none⟩) (rs.take n) c w2 (by rw [hfl]; exact hnm) (by omega) (by omega) (Sl.take (HS.out.below hbr) n) (fun r hr => ⟨((HRR.out r (List.mem_of_mem_take hr)).1).below hbr, (HRR.out r (List.mem_of_mem_take hr)).2⟩) (fun r hr => HGG.out r (List.mem_of_mem_take hr));rw [hfl, List.map_take, ← HV.out, File.since_take V n m (by omega)] at h;exact h)
    have RT := run_cutTo (rwE ByteArray) tyStrss (some ⟨bv, ov, none⟩) rs.length c n (by omega);obtain ⟨b', o', fq, eQ, hbq, hfq, hcq⟩ := Sl.atRw (HS.out.below hbr) (show m < rs.length by omega);injection eQ with eQ;injection eQ with e1 e2 _;subst e1 e2;have HCQ : Hid (∀ W, Below w2.heap.size w2 W → W.cell? ⟨bv, ov + m, none⟩ = some (.slice fq.A fq.xs.length fq.c) ∧ W.cell? ⟨bv, ov + n, none⟩ = some (.slice fr.A fr.xs.length fr.c) ∧ bv < W.heap.size) := lH fun W h => ⟨(h.cell (p := ⟨bv, ov + m, none⟩) hbq).trans hcq, ((hbr.next h nL).cell (p := ⟨bv, ov + n, none⟩) hbv).trans hc0, Nat.lt_of_lt_of_le hbq h.size⟩
    have hgq := HGG.out fq (mem_at hfq);have HVQ : Hid (V.getD m [] = fq.xs) := lH (by rw [HV.out, List.getD_eq_getElem?_getD, List.getElem?_map, hfq]; rfl)
    have HRC : Hid (∀ W, Below w2.heap.size w2 W → Calls Tryz.prog 39 #[.slice fq.A fq.xs.length fq.c, .slice fr.A fr.xs.length fr.c] W fun e w' => ∃ v, e = .returned v ∧ Own pairE 75 W.heap.size w' v (File.common fq.xs fr.xs) ∧ Below W.heap.size W w') := lH fun W h =>
     rcommon_spec fq.A fq.xs fq.c fr.A fr.xs fr.c W hgq.many hf24 (HRR.out fq (mem_at hfq)).2 (HRR.out fr (mem_at HFR.out)).2 ((HRR.out fq (mem_at hfq)).1.below (hbr.next h nL)) ((HRR.out fr (mem_at HFR.out)).1.below (hbr.next h nL))
    have hpr := File.common_pairs fq.xs fr.xs;obtain ⟨L, hL⟩ : ∃ L, L = File.common fq.xs fr.xs := ⟨_, rfl⟩;have hLl : L.length ≤ 24 := by rw [hL, File.common_length]; exact Nat.le_trans (File.lcs_most _ _) hgq.many
    rw [← hL] at HRC hpr
    have HPR : Hid (∀ p ∈ L, p.1 < fq.xs.length ∧ p.2 < fr.xs.length) := lH fun p hp => by
     obtain ⟨k, hk⟩ := List.getElem?_of_mem hp;obtain ⟨_, _, h1, h2, _⟩ := File.pairs_at hpr hk;exact ⟨h1, h2⟩
    obtain ⟨S0, hS0⟩ : ∃ S0, S0 = File.sinceAt V m := ⟨_, rfl⟩;have hSl : S0.length = fq.xs.length := by rw [hS0, File.since_len, HVQ.out]
    have HSS : Hid (File.sinceAt V n = File.putGo S0 (List.replicate fr.xs.length (n : Int)) L) := lH (by
     have h := HVN.out;rw [hnm] at h ⊢;rw [hS0, hL, ← HVQ.out, ← h]; rfl)
    rw [← hS0] at HIH2;have HSL := lH hSl;have ewm : IntKind.i64.wrap ((n : Int) - 1) = (m : Int) := by rw [show (n : Int) - 1 = (m : Int) by omega]; exact IntWalk.i64_in _ (by omega)
    have hmi : (m : Int) < (rs.length : Int) := (by omega);have hq24 : fq.xs.length ≤ 24 := hgq.many;clear hS0 hL hgq hfq hpr hfl hcq hc0 HVQ HVN HFG HIH hSl hrl hnm hn0;(go_wp2_with fail);refine HIH2.out.mono ?_;rintro e w3 ⟨v, rfl, ho3, hb3⟩;obtain ⟨A3, c3, rfl, _, _⟩ := ho3.form;have hb03 := hbr.next hb3 nL;have HO3 := lH (HO2.out.below hb3);have HS3 := lH ho3;have hz23 := hb3.size;clear ho3 HO2 HIH2 RT
    go_upto_region 10 with fail
    refine wfl 10 (fun nR x => Below w3.heap.size w3 x) (fun x x' => Below x.heap.size x x')
     [eqv (.slice (some ⟨bv, ov, none⟩) rs.length c),
      eqv (iv (n : Int)),
      eqv (iv (m : Int)),
      eqv (.pointer (some ⟨bv, ov + m, none⟩)),
      eqv (.slice fq.A fq.xs.length fq.c),
      eqv (.slice (some ⟨bv, ov, none⟩) rs.length c),
      eqv (iv (n : Int)),
      eqv (.pointer (some ⟨bv, ov + n, none⟩)),
      eqv (.slice fr.A fr.xs.length fr.c),
      fun _ u x => ∃ A1 c1, u = .slice A1 L.length c1 ∧ Own pairE 75 w3.heap.size x (.slice A1 L.length c1) L]
     (Below.refl _ w3).drew ?_ ?_
    ·simp only [List.take_succ_cons, List.take_zero, HopL]
     repeat' apply And.intro
     ·refine fvr fun x hR kk rr _ => ?_
      have := rho0 rr 0;clear rr kk;exact ev0
     ·refine fvr fun x hR kk rr _ => ?_
      have := rho0 rr 3;clear rr kk;exact ev0
     ·refine fvr fun x hR kk rr _ => ?_
      have := rho rr 36 (kk.at 1);clear rr kk;exact ev0
     ·refine fvr fun x hR kk rr _ => ?_
      have := rho rr 35 (kk.at 0);have := rho rr 37 (kk.at 2);clear rr kk;have g1 := (HCQ.out x (hb3.next hR nL)).2.2;exact ev0
     ·refine fvr fun x hR kk rr _ => ?_
      have := rho rr 38 (kk.at 3);clear rr kk;have g1 := (HCQ.out x (hb3.next hR nL)).1;exact ev0
     ·refine fvr fun x hR kk rr _ => ?_
      have := rho0 rr 0;clear rr kk;exact ev0
     ·refine fvr fun x hR kk rr _ => ?_
      have := rho0 rr 3;clear rr kk;exact ev0
     ·refine fvr fun x hR kk rr _ => ?_
      have := rho rr 40 (kk.at 5);have := rho rr 41 (kk.at 6);clear rr kk;have g1 := (HCQ.out x (hb3.next hR nL)).2.2;exact ev0
     ·refine fvr fun x hR kk rr _ => ?_
      have := rho rr 42 (kk.at 7);clear rr kk;have g1 := (HCQ.out x (hb3.next hR nL)).2.1;exact ev0
     ·refine fvr (hs := fun _ _ _ _ h hS => (by obtain ⟨A4, c4, e0, o4⟩ := h; exact ⟨A4, c4, e0, o4.below hS⟩)) fun x hR kk rr _ => ?_
      have e39 := rho rr 39 (kk.at 4);have e43 := rho rr 43 (kk.at 8);clear rr kk;refine stepE_call (wanted_none rfl) (by go_simp) (HRC.out x (hb3.next hR nL)) ?_;rintro e x' ⟨u, rfl, ho, hb⟩;obtain ⟨A1, c1, rfl, _, _⟩ := ho.form;exact ⟨_, rfl, ⟨A1, c1, rfl, ho.base hR.size⟩, hb, hR.next hb nL⟩
     ·trivial
    ·intro v nR x4 hnR hR hall;obtain ⟨A4, c4, h9, o4⟩ := hall 9 (by decide);clear hall hnR;simp only [List.drop_succ_cons, List.drop_zero, List.take_succ_cons, List.take_zero, frameF, Act.put, List.setIfInBounds_toArray, List.set_cons_zero, List.set_cons_succ, Nat.zero_add, Nat.reduceAdd, h9];have hb34 := hR;have hb04 := hb03.next hR nL;have HO4 : Hid (Own intE 3 w.heap.size x4 (.slice (some ⟨w.heap.size, 0, none⟩) fr.xs.length fr.xs.length) (File.putGo S0 (List.replicate fr.xs.length (n : Int)) (L.take 0))) := lH (HO3.out.below hR);have HS4 := lH (HS3.out.below hR);have HL4 := lH o4;clear o4 HO3 HS3 hR HCQ HRC;(go_wp2_with fail)
     go_loopw [8] (fun v wr => ∃ k : Nat, k ≤ L.length ∧ v = iv (k : Int) ∧ Hid (Own intE 3 w.heap.size wr (.slice (some ⟨w.heap.size, 0, none⟩) fr.xs.length fr.xs.length) (File.putGo S0 (List.replicate fr.xs.length (n : Int)) (L.take k))) ∧ Hid (Own intE 3 w2.heap.size wr (.slice A3 S0.length c3) S0) ∧ Hid (Own pairE 75 w3.heap.size wr (.slice A4 L.length c4) L) ∧ Below w.heap.size w wr) (fun v _ => L.length - (intOf v).toNat)
     case atStart => exact ⟨0, Nat.zero_le _, rfl, HO4, HS4, HL4, hb04⟩
     case round =>
      clear HO4 HS4 HL4 hb04 hb34;obtain ⟨k, hk, rfl, HO, HS5, HL, hbx⟩ := hrel
      by_cases hlt2 : k < L.length
      ·have hkL : (k : Int) < (L.length : Int) := (by omega);obtain ⟨bp, op_, pp, eA4, hbp, hpx, _, _⟩ := Sl.atPr HL.out.sl hlt2;subst eA4;have HCP := lH (Sl.cellPr HL.out.sl hpx);obtain ⟨hp1, hp2⟩ := HPR.out pp (mem_at hpx);have HTK := lH (take_at hpx);obtain ⟨p1, p2⟩ := pp;simp only at hp1 hp2 HCP;have hol : (File.putGo S0 (List.replicate fr.xs.length (n : Int)) (L.take k)).length = fr.xs.length := by rw [File.put_len, List.length_replicate]
       obtain ⟨go_, co, ov0, eo, hgoB, hgol, hov, hcov, hfov⟩ := ownI HS5.out (k := p1) (by rw [HSL.out]; exact hp1);injection eo with eo1 eo2 eo3;subst eo1;obtain ⟨gn, cn, x0, en, hgnB, hgnl, hx0, hcx, hfz⟩ := ownI HO.out (k := p2) (by rw [hol]; exact hp2);injection en with en1 en2 en3;injection en1 with en1;injection en1 with en1 _ _;clear eo2 en2 en3 eo3;subst en1;have hset := setI HO.out (k := p2) (by rw [hol]; exact hp2) ov0
       have hput : (File.putGo S0 (List.replicate fr.xs.length (n : Int)) (L.take k)).set p2 ov0 = File.putGo S0 (List.replicate fr.xs.length (n : Int)) (L.take (k + 1)) := by
        rw [HTK.out];unfold File.putGo;rw [List.foldl_append]
        show _ = List.set _ p2 (S0.getD p1 0)
        rw [List.getD_eq_getElem?_getD, hov];rfl
       have HPUT := lH hput;have hfp := hfz p2;have hp1i : (p1 : Int) < (S0.length : Int) := by have := HSL.out; omega
       have hp2i : (p2 : Int) < (fr.xs.length : Int) := (by omega);have hne : go_ ≠ w.heap.size := (by omega)
       have HX : Hid (∀ x, Below wr.heap.size wr x → x.cell? ⟨go_, p1, none⟩ = some (iv ov0) ∧ x.cell? ⟨w.heap.size, p2, none⟩ = some (iv x0) ∧ x.frozen? ⟨w.heap.size, p2, none⟩ = false ∧ go_ < x.heap.size ∧ w.heap.size < x.heap.size) := lH fun x h => by
        refine ⟨(h.cell (p := ⟨go_, p1, none⟩) hgol).trans hcov, (h.cell (p := ⟨w.heap.size, p2, none⟩) hgnl).trans hcx, ?_, Nat.lt_of_lt_of_le hgol h.size, Nat.lt_of_lt_of_le hgnl h.size⟩;have := h.block w.heap.size hgnl;have h2 := hfp;unfold World.frozen? at h2 ⊢;simp only [this];exact h2
       have HNB := lH hne;clear hset hput hol hov hx0 hcov hcx hfov hfz hpx hne hfp
       go_upto_region 14 with fail
       refine wfl 14 (fun nR x => Below wr.heap.size wr x) (fun x x' => Below x.heap.size x x')
        [eqv (.slice (some ⟨w.heap.size, 0, none⟩) fr.xs.length fr.xs.length),
         eqv (.slice (some ⟨bp, op_, none⟩) L.length c4),
         eqv (iv (k : Int)),
         eqv (.pointer (some ⟨bp, op_ + k * 2, none⟩)),
         eqv (.pointer (some ⟨bp, op_ + k * 2 + 1, none⟩)),
         eqv (iv (p2 : Int)),
         eqv (.slice (some ⟨go_, 0, none⟩) S0.length c3),
         eqv (.slice (some ⟨bp, op_, none⟩) L.length c4),
         eqv (iv (k : Int)),
         eqv (.pointer (some ⟨bp, op_ + k * 2, none⟩)),
         eqv (.pointer (some ⟨bp, op_ + k * 2, none⟩)),
         eqv (iv (p1 : Int)),
         eqv (.pointer (some ⟨go_, p1, none⟩)),
         eqv (iv ov0)]
        (Below.refl _ wr).drew ?_ ?_
       ·simp only [List.take_succ_cons, List.take_zero, HopL]
        repeat' apply And.intro
        ·refine fvr fun x hR kk rr _ => ?_
         have := rho0 rr 4;clear rr kk;exact ev0
        ·refine fvr fun x hR kk rr _ => ?_
         have := rho0 rr 7;clear rr kk;exact ev0
        ·refine fvr fun x hR kk rr _ => ?_
         have := rho0 rr 8;clear rr kk;exact ev0
        ·refine fvr fun x hR kk rr _ => ?_
         have := rho rr 52 (kk.at 1);have := rho rr 53 (kk.at 2);clear rr kk;exact ev0
        ·refine fvr fun x hR kk rr _ => ?_
         have := rho rr 54 (kk.at 3);clear rr kk;exact ev0
        ·refine fvr fun x hR kk rr _ => ?_
         have := rho rr 55 (kk.at 4);clear rr kk;have g1 := (HCP.out x hR).2;exact ev0
        ·refine fvr fun x hR kk rr _ => ?_
         have := rho0 rr 6;clear rr kk;exact ev0
        ·refine fvr fun x hR kk rr _ => ?_
         have := rho0 rr 7;clear rr kk;exact ev0
        ·refine fvr fun x hR kk rr _ => ?_
         have := rho0 rr 8;clear rr kk;exact ev0
        ·refine fvr fun x hR kk rr _ => ?_
         have := rho rr 58 (kk.at 7);have := rho rr 59 (kk.at 8);clear rr kk;exact ev0
        ·refine fvr fun x hR kk rr _ => ?_
         have := rho rr 60 (kk.at 9);clear rr kk;exact ev0
        ·refine fvr fun x hR kk rr _ => ?_
         have := rho rr 61 (kk.at 10);clear rr kk;have g1 := (HCP.out x hR).1;exact ev0
        ·refine fvr fun x hR kk rr _ => ?_
         have := rho rr 57 (kk.at 6);have := rho rr 62 (kk.at 11);clear rr kk;exact ev0
        ·refine fvr fun x hR kk rr _ => ?_
         have := rho rr 63 (kk.at 12);clear rr kk;have g1 := (HX.out x hR).1;exact ev0
        ·trivial
       ·intro v nR x5 hnR hR hall;have h0 : v 0 = .slice (some ⟨w.heap.size, 0, none⟩) fr.xs.length fr.xs.length := hall 0 (by decide);have h5 : v 5 = iv (p2 : Int) := hall 5 (by decide);have h13 : v 13 = iv ov0 := hall 13 (by decide);clear hall hnR;simp only [List.drop_succ_cons, List.drop_zero, List.take_succ_cons, List.take_zero, frameF, Act.put, List.setIfInBounds_toArray, List.set_cons_zero, List.set_cons_succ, Nat.zero_add, Nat.reduceAdd, h0, h5, h13];obtain ⟨y1, y2, y3, y4, y5⟩ := HX.out x5 hR;have hO5 := HO.out.below hR
        have HO6 : Hid (Own intE 3 w.heap.size (x5.setCell ⟨w.heap.size, p2, none⟩ (iv ov0)) (.slice (some ⟨w.heap.size, 0, none⟩) fr.xs.length fr.xs.length) (File.putGo S0 (List.replicate fr.xs.length (n : Int)) (L.take (k + 1)))) := lH (by
         have hol : (File.putGo S0 (List.replicate fr.xs.length (n : Int)) (L.take k)).length = fr.xs.length := by rw [File.put_len, List.length_replicate]
         have h1 := setI hO5 (k := p2) (by rw [hol]; exact hp2) ov0;have h3 : (File.putGo S0 (List.replicate fr.xs.length (n : Int)) (L.take k)).set p2 ov0 = File.putGo S0 (List.replicate fr.xs.length (n : Int)) (L.take (k + 1)) := HPUT.out;rw [h3] at h1;exact h1)
        have HS6 : Hid (Own intE 3 w2.heap.size (x5.setCell ⟨w.heap.size, p2, none⟩ (iv ov0)) (.slice (some ⟨go_, 0, none⟩) S0.length c3) S0) := lH ((HS5.out.below hR).setCell (p := ⟨w.heap.size, p2, none⟩) hgO _);have HL6 : Hid (Own pairE 75 w3.heap.size (x5.setCell ⟨w.heap.size, p2, none⟩ (iv ov0)) (.slice (some ⟨bp, op_, none⟩) L.length c4) L) := lH ((HL.out.below hR).setCell (p := ⟨w.heap.size, p2, none⟩) (Nat.lt_of_lt_of_le hgO hz23) _);have hb06 : Below w.heap.size w (x5.setCell ⟨w.heap.size, p2, none⟩ (iv ov0)) := (hbx.next hR nL).setCell (p := ⟨w.heap.size, p2, none⟩) nL _;clear hO5 HO HS5 HL hR hbx;(go_wp2_with fail);go_roundw
        case rel => exact ⟨k + 1, by omega, by go_num, HO6, HS6, HL6, hb06⟩
        case measure => simp [intOf]; omega
      ·have hkL : ¬ (k : Int) < (L.length : Int) := (by omega)
       have HO7 : Hid (Own intE 3 w.heap.size wr (.slice (some ⟨w.heap.size, 0, none⟩) fr.xs.length fr.xs.length) (File.sinceAt V n)) := lH (by
        have := HO.out;rw [List.take_of_length_le (by omega), ← HSS.out] at this;exact this)
       clear HO;(go_wp2_with fail);go_ret;exact ⟨_, rfl, HO7.out, hbx⟩
theorem rsince_spec : ∀ n, SinceOk n
 | 0 => rsince_step 0 fun m h => by cases h
 | n + 1 => rsince_step (n + 1) fun m h => by injection h with h; subst h; exact rsince_spec n
end Fl
end
section
namespace File
def firstErr : List (List ByteArray) → Int
 | [] => 0
 | f :: r => if check f = 0 then firstErr r else check f
def sinceAns (V : List (List ByteArray)) : List Int × Int := if firstErr V = 0 then (if V = [] then ([], 6) else (sinceAt V (V.length - 1), 0)) else ([], firstErr V)
theorem first_good : ∀ {V : List (List ByteArray)}, firstErr V = 0 → ∀ f ∈ V, check f = 0
 | [], _, _, h => by cases h
 | g :: r, h, f, hf => by
  unfold firstErr at h
  by_cases hg : check g = 0
  ·rw [if_pos hg] at h
   rcases List.mem_cons.1 hf with rfl | hf
   ·exact hg
   ·exact first_good h f hf
  ·rw [if_neg hg] at h; exact absurd h hg
end File
namespace Fl
open Go.RowKit
set_option maxHeartbeats 2000000 in
theorem since_bad (A : Option Addr) (rs : List (Rw ByteArray)) (c : Nat) (w : World) (hm : rs.length ≤ 1000) (hs : Sl (rwE ByteArray) w A rs) (hr : RowsR strE w rs) (hb : ∀ r ∈ rs, r.xs.length ≤ big) (hne : File.firstErr (rs.map Rw.xs) ≠ 0) :
  Calls Tryz.prog 64 #[.slice A rs.length c] w fun e w' => e = .returned (.tuple #[.slice none 0 0, iv (File.firstErr (rs.map Rw.xs))]) ∧ Below w.heap.size w w' := by
 obtain ⟨U, hU⟩ : ∃ U, U = File.firstErr (rs.map Rw.xs) := ⟨_, rfl⟩;rw [← hU] at hne;rw [← hU];have HU : Hid (File.firstErr ((rs.map Rw.xs).drop 0) = U) := lH (by rw [hU, List.drop_zero]);have HNE := lH hne;have HR := lH hr;have HB := lH hb;clear hU hne hr hb
 go_enter Tryz.func64, Tryz.ntmps64
 (go_wp2_with fail)
 go_loopw [5, 6, 15] (fun _ _ i wr => ∃ k : Nat, k ≤ rs.length ∧ i = iv (k : Int) ∧ Hid (File.firstErr ((rs.map Rw.xs).drop k) = U) ∧ Below w.heap.size w wr) (fun _ _ i _ => rs.length - (intOf i).toNat)
 case atStart => exact ⟨0, Nat.zero_le _, rfl, HU, rB⟩
 case round =>
  clear HU;obtain ⟨k, hk, rfl, HK, hbr⟩ := hrel
  by_cases hlt : k < rs.length
  ·have hki : (k : Int) < (rs.length : Int) := (by omega);obtain ⟨bv, ov, f, eA, hbv, hf, hc0⟩ := Sl.atRw (hs.below hbr) hlt;have HCK := lH (check_spec f.A f.xs f.c wr (HB.out f (mem_at hf)) ((HR.out f (mem_at hf)).1.below hbr));have hd := HK.out;rw [drop_at (show (rs.map Rw.xs)[k]? = some f.xs by rw [List.getElem?_map, hf]; rfl), File.firstErr] at hd;obtain ⟨e, he⟩ : ∃ e, e = File.check f.xs := ⟨_, rfl⟩;rw [← he] at hd HCK;subst eA;clear he hf HK
   by_cases h0 : e = 0
   ·rw [if_pos h0] at hd;have HD := lH hd;have hn : (e != 0) = false := by simp [h0]
    clear hd h0;(go_wp2_with fail);refine HCK.out.mono ?_;rintro _ w2 ⟨rfl, hb2⟩;(go_wp2_with fail);go_roundw
    case rel => exact ⟨k + 1, by omega, by go_num, HD, hbr.next hb2 nL⟩
    case measure => simp [intOf]; omega
   ·rw [if_neg h0] at hd;have HD := lH hd;have hn : (e != 0) = true := by simpa using h0
    clear hd h0;(go_wp2_with fail);refine HCK.out.mono ?_;rintro _ w2 ⟨rfl, hb2⟩;(go_wp2_with fail);go_ret2;exact ⟨by rw [← HD.out]; rfl, hbr.next hb2 nL⟩
  ·exfalso
   have := HK.out;rw [List.drop_eq_nil_of_le (by rw [List.length_map]; omega)] at this;exact HNE.out this.symm
set_option maxHeartbeats 2000000 in
theorem since_none (A : Option Addr) (c : Nat) (w : World) : Calls Tryz.prog 64 #[.slice A 0 c] w fun e w' => e = .returned (.tuple #[.slice none 0 0, iv 6]) ∧ Below w.heap.size w w' := by
 go_enter Tryz.func64, Tryz.ntmps64
 (go_wp2_with fail)
 go_loopw [5, 6, 15] (fun _ _ i wr => i = iv 0 ∧ wr = w) (fun _ _ _ _ => 0)
 case atStart => exact ⟨rfl, rfl⟩
 case round =>
  obtain ⟨rfl, rfl⟩ := hrel;(go_wp2_with fail);go_ret2;exact ⟨rfl, rB⟩
theorem since_any (A : Option Addr) (rs : List (Rw ByteArray)) (c : Nat) (w : World) (hm : rs.length ≤ 100) (hs : Sl (rwE ByteArray) w A rs) (hr : RowsR strE w rs) (hb : ∀ r ∈ rs, r.xs.length ≤ big) :
  Calls Tryz.prog 64 #[.slice A rs.length c] w fun e w' => ∃ v, e = .returned (.tuple #[v, iv (File.sinceAns (rs.map Rw.xs)).2]) ∧ Own intE 3 w.heap.size w' v (File.sinceAns (rs.map Rw.xs)).1 ∧ Below w.heap.size w w' := by
 unfold File.sinceAns
 by_cases h0 : File.firstErr (rs.map Rw.xs) = 0
 ·rw [if_pos h0]
  by_cases hn : rs = []
  ·subst hn;refine (since_none A c w).mono ?_;rintro _ w' ⟨rfl, hb⟩;exact ⟨.slice none 0 0, rfl, Own.nil, hb⟩
  ·rw [if_neg (by simpa using hn)];have hl := List.length_pos_iff.2 hn;have := since_spec A rs c w (rs.length - 1) (by omega) (by omega) hs hr (fun r hr => good_of_check (File.first_good h0 _ (List.mem_map_of_mem hr)));rw [List.length_map];exact this
 ·rw [if_neg h0];refine (since_bad A rs c w (by omega) hs hr hb h0).mono ?_;rintro _ w' ⟨rfl, hb⟩;exact ⟨_, rfl, Own.nil, hb⟩
end Fl
end
end Go.Proofs.YtblgkmdadholmabGreatDoor
section
namespace Go.Proofs.YtblgkmdadholmabGreatDoor
namespace Fl
open Go.RowKit Go.Shelf
theorem great3row (A : Option Addr) (f : List ByteArray) (c : Nat) (A' : Option Addr) (g : List ByteArray) (c' : Nat) (A2 : Option Addr) (h : List ByteArray) (c2 : Nat) (w : World) (hfc : f.length ≤ c) (hgc : g.length ≤ c') (hhc : h.length ≤ c2) (hs : Sl strE w A f) (hs' : Sl strE w A' g) (hs2 : Sl strE w A2 h) :
  Calls Tryz.prog 31 #[.slice (some ⟨w.heap.size, 0, none⟩) 3 3] (w.alloc (.cells #[.slice A f.length c, .slice A' g.length c', .slice A2 h.length c2] 23)) fun e w' => e = .returned (.bool (G.greatF f || (G.greatF g || G.greatF h))) ∧ Below w.heap.size w w' := by
 have hb : Below w.heap.size w (w.alloc (.cells #[.slice A f.length c, .slice A' g.length c', .slice A2 h.length c2] 23)) := rB.alloc nL _;have h1 := Sl.fresh (rwE ByteArray) w 23 #[.slice A f.length c, .slice A' g.length c', .slice A2 h.length c2] [⟨A, c, f⟩, ⟨A', c', g⟩, ⟨A2, c2, h⟩] rfl (by simp [maxLen])
 have := great_spec (some ⟨w.heap.size, 0, none⟩) [⟨A, c, f⟩, ⟨A', c', g⟩, ⟨A2, c2, h⟩] 3 (w.alloc (.cells #[.slice A f.length c, .slice A' g.length c', .slice A2 h.length c2] 23)) (by simp [big]) h1 (fun r hr => by
  simp only [List.mem_cons, List.not_mem_nil, or_false] at hr
  rcases hr with rfl | rfl | rfl
  ·exact ⟨hs.below hb, hfc⟩
  ·exact ⟨hs'.below hb, hgc⟩
  ·exact ⟨hs2.below hb, hhc⟩)
 refine this.mono ?_;rintro e w' ⟨rfl, hb'⟩;exact ⟨by simp, hb.next hb' nL⟩
theorem joinAns_bnd (base a b : List ByteArray) : (File.joinAns base a b).2.1.length ≤ 24 ∧ (File.joinAns base a b).2.2.length ≤ 25 := by
 by_cases h : File.check base = 0
 ·by_cases h2 : errOf a b = 0
  ·obtain ⟨e1, e2⟩ := err_good h2;exact File.joinAns_small (good_of_check h) (good_of_check e1) (good_of_check e2)
  ·unfold File.joinAns; rw [if_neg (by simp [h]), if_pos h2]; simp
 ·unfold File.joinAns; rw [if_pos h]; simp
theorem sinceAns_bnd {V : List (List ByteArray)} {K : Nat} (h : ∀ f ∈ V, f.length ≤ K) : (File.sinceAns V).1.length ≤ K := by
 unfold File.sinceAns
 split
 ·split
  ·simp
  ·show (File.sinceAt V (V.length - 1)).length ≤ K
   rw [File.since_len, List.getD_eq_getElem?_getD]
   cases hv : V[V.length - 1]? with
   | none => simp
   | some f => exact h f (List.mem_of_getElem? hv)
 ·simp
set_option maxHeartbeats 16000000 in
theorem copies_law (A : Option Addr) (base : List ByteArray) (c : Nat) (A1 : Option Addr) (a : List ByteArray) (c1 : Nat) (A2 : Option Addr) (b : List ByteArray) (c2 : Nat) (V : Option Addr) (rs : List (Rw ByteArray)) (d : Nat) (w : World) (hc : base.length ≤ c) (hc1 : a.length ≤ c1) (hc2 : b.length ≤ c2) (hrd : rs.length ≤ d)
  (hs : Sl strE w A base) (hs1 : Sl strE w A1 a) (hs2 : Sl strE w A2 b) (hsr : Sl (rwE ByteArray) w V rs) (hrr : RowsR strE w rs) (ht : Tab w) :
  Calls Tryz.prog 14 #[.slice A base.length c, .slice A1 a.length c1, .slice A2 b.length c2, .slice V rs.length d] w fun e w' => e = .returned (.bool true) ∧ Below w.heap.size w w' := by
 have HT := lH ht;have HAW : Hid (∀ W, Below w.heap.size w W → Calls Tryz.prog 20 #[] W fun e w' => e = .returned (.bool true) ∧ Below W.heap.size W w') := lH fun W h => awake_spec W (HT.out.below h)
 have HGR := lH (great3row A base c A1 a c1 A2 b c2 w hc hc1 hc2 hs hs1 hs2);clear ht;obtain ⟨gr, hgr⟩ : ∃ gr, gr = (G.greatF base || (G.greatF a || G.greatF b)) := ⟨_, rfl⟩;rw [← hgr] at HGR
 cases gr
 rotate_left
 ·clear hgr
  go_enter Tryz.func14, Tryz.ntmps14
  (go_wp2_with fail);refine HGR.out.mono ?_;rintro e w1 ⟨rfl, hb1⟩;(go_wp2_with fail);refine (HAW.out _ hb1).mono ?_;rintro _ wz ⟨rfl, hbz⟩;(go_wp2_with fail);go_ret;exact ⟨rfl, (hb1).next hbz nL⟩
 by_cases h6 : 6 < rs.length
 ·have h6i : (rs.length : Int) > 6 := (by omega);clear hgr h6
  go_enter Tryz.func14, Tryz.ntmps14
  (go_wp2_with fail);refine HGR.out.mono ?_;rintro e w1 ⟨rfl, hb1⟩;(go_wp2_with fail);refine (HAW.out _ hb1).mono ?_;rintro _ wz ⟨rfl, hbz⟩;(go_wp2_with fail);go_ret;exact ⟨rfl, (hb1).next hbz nL⟩
 have h6i : ¬ (rs.length : Int) > 6 := (by omega);have HLG := lH fun W (h : Below w.heap.size w W) => great_spec V rs d W (by unfold big; omega) (hsr.below h) (hrr.below h)
 obtain ⟨lg, hlg⟩ : ∃ lg, lg = (rs.any fun r => G.greatF r.xs) := ⟨_, rfl⟩;rw [← hlg] at HLG
 cases lg
 rotate_left
 ·clear hgr hlg h6
  go_enter Tryz.func14, Tryz.ntmps14
  (go_wp2_with fail);refine HGR.out.mono ?_;rintro e w1 ⟨rfl, hb1⟩;(go_wp2_with fail);refine (HLG.out w1 hb1).mono ?_;rintro e w2 ⟨rfl, hb2⟩;have hb02 := hb1.next hb2 nL;(go_wp2_with fail);refine (HAW.out _ hb02).mono ?_;rintro _ wz ⟨rfl, hbz⟩;(go_wp2_with fail);go_ret;exact ⟨rfl, (hb02).next hbz nL⟩
 obtain ⟨hgB, hg2⟩ := Bool.or_eq_false_iff.1 hgr.symm;obtain ⟨hga, hgb⟩ := Bool.or_eq_false_iff.1 hg2;have hB30 := (great_no hgB).1;have ha30 := (great_no hga).1;have hb30 := (great_no hgb).1
 have hv30 : ∀ r ∈ rs, r.xs.length ≤ 30 := fun r hr => by
  have h := List.any_eq_false.1 hlg.symm r hr;exact (great_no (by simpa using h)).1
 have hBb : base.length ≤ big := by unfold big; omega
 have hba : a.length ≤ big := by unfold big; omega
 have hbb : b.length ≤ big := by unfold big; omega
 have hvb : ∀ r ∈ rs, r.xs.length ≤ big := fun r hr => by have := hv30 r hr; unfold big; omega
 clear hgr hlg hgB hg2 hga hgb
 go_enter Tryz.func14, Tryz.ntmps14
 (go_wp2_with fail);refine HGR.out.mono ?_;rintro e w1 ⟨rfl, hb1⟩;(go_wp2_with fail);refine (HLG.out w1 hb1).mono ?_;rintro e w2 ⟨rfl, hb2⟩;have hb02 := hb1.next hb2 nL;clear HGR HLG;(go_wp2_with fail);refine (dupS A base c w2 hBb (hs.below hb02)).mono ?_;rintro e w3 ⟨v, rfl, ho0, hb3⟩;obtain ⟨M0, m0, rfl, hm0, _⟩ := ho0.form;have hb03 := hb02.next hb3 nL;(go_wp2_with fail);refine (dupS A1 a c1 w3 hba (hs1.below hb03)).mono ?_;rintro e w4 ⟨v, rfl, ho1, hb4⟩;obtain ⟨M1, m1, rfl, hm1, _⟩ := ho1.form;have hb04 := hb03.next hb4 nL;(go_wp2_with fail);refine (dupS A2 b c2 w4 hbb (hs2.below hb04)).mono ?_;rintro e w5' ⟨v, rfl, ho2, hb5'⟩;obtain ⟨M2, m2, rfl, hm2, _⟩ := ho2.form;have hb05' := hb04.next hb5' nL;(go_wp2_with fail);refine (dupRowsS V rs d w5' (by unfold big; omega) (hsr.below hb05') (fun r hr => ⟨(hrr r hr).1.below hb05', hvb r hr⟩)).mono ?_
 rintro e w5 ⟨v, us, rfl, ho3, hus, hur, hb5⟩;obtain ⟨M3, m3, rfl, hm3, _⟩ := ho3.form;have hb05 := hb05'.next hb5 nL;have hul6 : us.length ≤ 6 := by have := congrArg List.length hus; rw [List.length_map, List.length_map] at this; omega
 have hub : ∀ r ∈ us, r.xs.length ≤ big := fun r hr => by
  have h1 : r.xs ∈ rs.map Rw.xs := by rw [← hus]; exact List.mem_map_of_mem hr
  obtain ⟨z, hz, he⟩ := List.mem_map.1 h1;rw [← he]; exact hvb z hz
 have HS0 := lH fun W (h : Below w5.heap.size w5 W) => ho0.sl.below (hb4.next (hb5'.next (hb5.next h nL) nL) nL)
 have HS1 := lH fun W (h : Below w5.heap.size w5 W) => ho1.sl.below (hb5'.next (hb5.next h nL) nL)
 have HS2 := lH fun W (h : Below w5.heap.size w5 W) => ho2.sl.below (hb5.next h nL)
 have HS3 := lH fun W (h : Below w5.heap.size w5 W) => ho3.sl.below h
 have HR3 : Hid (∀ W, Below w5.heap.size w5 W → RowsR strE W us) := lH fun W h r hr => ⟨(hur r hr).1.sl.below h, (hur r hr).2⟩
 have HSB := lH fun W (h : Below w5.heap.size w5 W) => hs.below (hb05.next h nL)
 have HSA := lH fun W (h : Below w5.heap.size w5 W) => hs1.below (hb05.next h nL)
 have HSC := lH fun W (h : Below w5.heap.size w5 W) => hs2.below (hb05.next h nL)
 have HSV := lH fun W (h : Below w5.heap.size w5 W) => hsr.below (hb05.next h nL)
 have HRV : Hid (∀ W, Below w5.heap.size w5 W → RowsR strE W rs) := lH fun W h => hrr.below (hb05.next h nL)
 have HE0 : Hid (∀ W, Below w5.heap.size w5 W → Calls Tryz.prog 26 #[.slice M0 base.length m0, .slice A base.length c] W fun e w' => e = .returned (.bool true) ∧ Below W.heap.size W w') := lH fun W h => by
  have := equalS M0 base m0 A base c W hBb (HS0.out W h) hBb (HSB.out W h)
  rwa [decide_eq_true rfl] at this
 have HE1 : Hid (∀ W, Below w5.heap.size w5 W → Calls Tryz.prog 26 #[.slice M1 a.length m1, .slice A1 a.length c1] W fun e w' => e = .returned (.bool true) ∧ Below W.heap.size W w') := lH fun W h => by
  have := equalS M1 a m1 A1 a c1 W hba (HS1.out W h) hba (HSA.out W h)
  rwa [decide_eq_true rfl] at this
 have HE2 : Hid (∀ W, Below w5.heap.size w5 W → Calls Tryz.prog 26 #[.slice M2 b.length m2, .slice A2 b.length c2] W fun e w' => e = .returned (.bool true) ∧ Below W.heap.size W w') := lH fun W h => by
  have := equalS M2 b m2 A2 b c2 W hbb (HS2.out W h) hbb (HSC.out W h)
  rwa [decide_eq_true rfl] at this
 have HE3 : Hid (∀ W, Below w5.heap.size w5 W → Calls Tryz.prog 67 #[.slice M3 us.length m3, .slice V rs.length d] W fun e w' => e = .returned (.bool true) ∧ Below W.heap.size W w') := lH fun W h => by
  have := eqRowsS M3 us m3 V rs d W (by unfold big; omega) (HS3.out W h) (by unfold big; omega) (HSV.out W h) (fun r hr => ⟨(HR3.out W h r hr).1, hub r hr⟩) (fun r hr => ⟨(HRV.out W h r hr).1, hvb r hr⟩)
  rwa [decide_eq_true hus] at this
 have HCB := lH fun W (h : Below w5.heap.size w5 W) => rcheck_spec A base c W hBb (HSB.out W h)
 have HCA := lH fun W (h : Below w5.heap.size w5 W) => rcheck_spec A1 a c1 W hba (HSA.out W h)
 have HCC := lH fun W (h : Below w5.heap.size w5 W) => rcheck_spec A2 b c2 W hbb (HSC.out W h)
 have HCV := lH fun W (h : Below w5.heap.size w5 W) (r : Rw ByteArray) (hr : r ∈ rs) => rcheck_spec r.A r.xs r.c W (hvb r hr) (HRV.out W h r hr).1
 have HJN := lH fun W (h : Below w5.heap.size w5 W) => Join_spec M0 base m0 M1 a m1 M2 b m2 W hBb hba hbb hm0 hm1 hm2 (HS0.out W h) (HS1.out W h) (HS2.out W h)
 have HSN := lH fun W (h : Below w5.heap.size w5 W) => since_any M3 us m3 W (by omega) (HS3.out W h) (HR3.out W h) hub
 rw [hus] at HSN;clear hs hs1 hs2 hsr hrr ho0 ho1 ho2 ho3 hur hb1 hb2 hb3 hb4 hb5 hb5' hb02 hb03 hb04 hb05' hub hus;obtain ⟨cB, hcB⟩ : ∃ cB, cB = File.check base := ⟨_, rfl⟩;obtain ⟨cA, hcA⟩ : ∃ cA, cA = File.check a := ⟨_, rfl⟩;obtain ⟨cC, hcC⟩ : ∃ cC, cC = File.check b := ⟨_, rfl⟩;rw [← hcB] at HCB;rw [← hcA] at HCA;rw [← hcC] at HCC;have HcB := lH hcB;have HcA := lH hcA;have HcC := lH hcC;clear hcB hcA hcC;(go_wp2_with fail);refine (HCB.out w5 rB).mono ?_;rintro e w6 ⟨rfl, hb6⟩;have hbL : Below w6.heap.size w6 (w6.alloc (.cells #[.slice A1 a.length c1, .slice A2 b.length c2] 23)) := rB.alloc nL _;have hL : Blk (w6.alloc (.cells #[.slice A1 a.length c1, .slice A2 b.length c2] 23)) w6.heap.size 23 #[.slice A1 a.length c1, .slice A2 b.length c2] := Blk.new _ _ _;have hb57 := hb6.next hbL nL;(go_wp2_with fail);generalize w6.alloc (.cells #[.slice A1 a.length c1, .slice A2 b.length c2] 23) = w7 at *
 generalize w6.heap.size = gL at *;clear hbL hb6
 go_loopw [13, 15, 56] (fun e _ i wr => ∃ (t : Nat) (x : Int), t ≤ 2 ∧ i = iv (t : Int) ∧ e = iv x ∧ Hid ((t = 0 → x = cB) ∧ (t = 1 → x = if cB = 0 then cA else cB) ∧ (t = 2 → x = if cB = 0 then (if cA = 0 then cC else cA) else cB)) ∧ Below w5.heap.size w5 wr ∧ Blk wr gL 23 #[.slice A1 a.length c1, .slice A2 b.length c2]) (fun _ _ i _ => 2 - (intOf i).toNat)
 case atStart => exact ⟨0, cB, by omega, rfl, rfl, lH ⟨fun _ => rfl, fun h => by omega, fun h => by omega⟩, hb57, hL⟩
 case round =>
  clear hL hb57;obtain ⟨t, x, ht, rfl, rfl, HX, hbr, hL⟩ := hrel;have ll := hL.lt
  by_cases h0 : t = 0
  ·have l0 : wr.cell? ⟨gL, t, none⟩ = some (.slice A1 a.length c1) := by rw [hL.cell t, h0]; rfl
   have ti : (t : Int) < 2 := (by omega);have HT1 : Hid (t + 1 = 1) := lH (by omega);have ht2 : t + 1 ≤ 2 := (by omega);clear h0
   by_cases hx0 : x = 0
   ·have hq : (x == 0) = true := by simp [hx0]
    have HX2 : Hid ((t + 1 = 0 → cA = cB) ∧ (t + 1 = 1 → cA = if cB = 0 then cA else cB) ∧ (t + 1 = 2 → cA = if cB = 0 then (if cA = 0 then cC else cA) else cB)) := lH (by
     have h := HX.out;have ht1 := HT1.out;rw [hx0] at h;obtain ⟨h1, h2, h3⟩ := h;refine ⟨fun h => by omega, fun h => ?_, fun h => ?_⟩
     all_goals first
      | (rw [if_pos (h1 (by omega)).symm]; done)
      | (have e := h2 (by omega); by_cases hc : cB = 0 <;> simp_all)
      | omega)
    clear hx0;(go_wp2_with fail);refine ((HCA).out wr hbr).mono ?_;rintro _ wn ⟨rfl, hbn⟩;(go_wp2_with fail);go_roundw
    case rel => exact ⟨t + 1, cA, ht2, by go_num, rfl, HX2, hbr.next hbn nL, hL.under hbn⟩
    case measure => simp [intOf]; omega
   ·have hq : (x == 0) = false := by simpa using hx0
    have HX2 : Hid ((t + 1 = 0 → x = cB) ∧ (t + 1 = 1 → x = if cB = 0 then cA else cB) ∧ (t + 1 = 2 → x = if cB = 0 then (if cA = 0 then cC else cA) else cB)) := lH (by
     obtain ⟨h1, h2, h3⟩ := HX.out;have ht1 := HT1.out;refine ⟨fun h => by omega, fun h => ?_, fun h => ?_⟩
     all_goals first
      | (have e := h1 (by omega); rw [if_neg (by rw [← e]; exact hx0)]; exact e)
      | (have e := h2 (by omega); by_cases hc : cB = 0 <;> simp_all)
      | omega)
    clear hx0;(go_wp2_with fail);go_roundw
    case rel => exact ⟨t + 1, x, ht2, by go_num, rfl, HX2, hbr, hL⟩
    case measure => simp [intOf]; omega
  ·by_cases h1 : t = 1
   ·have l0 : wr.cell? ⟨gL, t, none⟩ = some (.slice A2 b.length c2) := by rw [hL.cell t, h1]; rfl
    have ti : (t : Int) < 2 := (by omega);have HT1 : Hid (t + 1 = 2) := lH (by omega);have ht2 : t + 1 ≤ 2 := (by omega);clear h0 h1
    by_cases hx0 : x = 0
    ·have hq : (x == 0) = true := by simp [hx0]
     have HX2 : Hid ((t + 1 = 0 → cC = cB) ∧ (t + 1 = 1 → cC = if cB = 0 then cA else cB) ∧ (t + 1 = 2 → cC = if cB = 0 then (if cA = 0 then cC else cA) else cB)) := lH (by
      have h := HX.out;have ht1 := HT1.out;rw [hx0] at h;obtain ⟨h1, h2, h3⟩ := h;refine ⟨fun h => by omega, fun h => ?_, fun h => ?_⟩
      all_goals first
       | (rw [if_pos (h1 (by omega)).symm]; done)
       | (have e := h2 (by omega); by_cases hc : cB = 0 <;> simp_all)
       | omega)
     clear hx0;(go_wp2_with fail);refine ((HCC).out wr hbr).mono ?_;rintro _ wn ⟨rfl, hbn⟩;(go_wp2_with fail);go_roundw
     case rel => exact ⟨t + 1, cC, ht2, by go_num, rfl, HX2, hbr.next hbn nL, hL.under hbn⟩
     case measure => simp [intOf]; omega
    ·have hq : (x == 0) = false := by simpa using hx0
     have HX2 : Hid ((t + 1 = 0 → x = cB) ∧ (t + 1 = 1 → x = if cB = 0 then cA else cB) ∧ (t + 1 = 2 → x = if cB = 0 then (if cA = 0 then cC else cA) else cB)) := lH (by
      obtain ⟨h1, h2, h3⟩ := HX.out;have ht1 := HT1.out;refine ⟨fun h => by omega, fun h => ?_, fun h => ?_⟩
      all_goals first
       | (have e := h1 (by omega); rw [if_neg (by rw [← e]; exact hx0)]; exact e)
       | (have e := h2 (by omega); by_cases hc : cB = 0 <;> simp_all)
       | omega)
     clear hx0;(go_wp2_with fail);go_roundw
     case rel => exact ⟨t + 1, x, ht2, by go_num, rfl, HX2, hbr, hL⟩
     case measure => simp [intOf]; omega
   ·have ti : ¬ (t : Int) < 2 := (by omega);have hxe := HX.out.2.2 (by omega);have HXE := lH hxe;clear hL ll h0 h1 HX hxe;generalize wr = w8 at *;obtain ⟨JA, hJA⟩ : ∃ JA, JA = File.joinAns base a b := ⟨_, rfl⟩;have HJA := lH hJA;rw [← hJA] at HJN;clear hJA
    go_upto_if 66 with fail
    go_cut [13, 16, 17] (fun v13 v16 v17 wx => v13 = iv JA.1 ∧ (∃ (D : Option Addr) (n : Nat), v16 = .slice D JA.2.1.length n ∧ Hid (Sl strE wx D JA.2.1)) ∧ (∃ (D : Option Addr) (n : Nat), v17 = .slice D JA.2.2.length n ∧ Hid (Sl pairE wx D JA.2.2)) ∧ Below w8.heap.size w8 wx)
    case first =>
     by_cases hx0 : x = 0
     ·have hq : (x == 0) = true := by simp [hx0]
      have hall : cB = 0 ∧ cA = 0 ∧ cC = 0 := by
       have h := HXE.out;rw [hx0] at h
       by_cases h1 : cB = 0
       ·rw [if_pos h1] at h
        by_cases h2 : cA = 0
        ·rw [if_pos h2] at h; exact ⟨h1, h2, h.symm⟩
        ·rw [if_neg h2] at h; exact absurd h.symm h2
       ·rw [if_neg h1] at h; exact absurd h.symm h1
      have HRJ := lH (rjoin_spec A base c A1 a c1 A2 b c2 w8 (good_of_check (HcB.out.symm.trans hall.1)) (good_of_check (HcA.out.symm.trans hall.2.1)) (good_of_check (HcC.out.symm.trans hall.2.2)) hc hc1 hc2 (HSB.out w8 hbr) (HSA.out w8 hbr) (HSC.out w8 hbr));rw [← HJA.out] at HRJ;clear hall hx0;(go_wp2_with fail);refine HRJ.out.mono ?_;rintro e w9 ⟨v0, v1, rfl, ho0, ho1, hb9⟩;obtain ⟨D0, n0, rfl, _, _⟩ := ho0.form;obtain ⟨D1, n1, rfl, _, _⟩ := ho1.form;(go_wp2_with fail);go_meet;exact ⟨rfl, ⟨D0, n0, rfl, lH ho0.sl⟩, ⟨D1, n1, rfl, lH ho1.sl⟩, hb9⟩
     ·have hq : (x == 0) = false := by simpa using hx0
      have HJE : Hid (JA = (x, [], [])) := lH (by
       rw [HJA.out];unfold File.joinAns errOf;rw [← HcB.out, ← HcA.out, ← HcC.out];have h := HXE.out
       by_cases h1 : cB = 0
       ·rw [if_pos h1] at h;rw [if_neg (by simp [h1]), ← h, if_pos hx0]
       ·rw [if_neg h1] at h;rw [if_pos h1, h])
      clear hx0;(go_wp2_with fail);go_meet;exact ⟨by rw [HJE.out], ⟨none, 0, by rw [HJE.out]; rfl, lH (by rw [HJE.out]; exact Sl.nil)⟩, ⟨none, 0, by rw [HJE.out]; rfl, lH (by rw [HJE.out]; exact Sl.nil)⟩, rB⟩
    case rest =>
    obtain ⟨rfl, ⟨D16, n16, rfl, HP16⟩, ⟨D17, n17, rfl, HP17⟩, hb89⟩ := hcut;generalize wc = w9 at *;have hb59 := hbr.next hb89 nL;clear hbr hb89 HXE;obtain ⟨W0, hW0⟩ : ∃ W0, W0 = rs.map Rw.xs := ⟨_, rfl⟩;rw [← hW0] at HSN;have HW0 := lH hW0;obtain ⟨U, hU⟩ : ∃ U, U = File.firstErr W0 := ⟨_, rfl⟩;have HU := lH hU;obtain ⟨SA, hSA⟩ : ∃ SA, SA = File.sinceAns W0 := ⟨_, rfl⟩;have HSA2 := lH hSA;rw [← hSA] at HSN;clear hW0 hU hSA;(go_wp2_with fail)
    go_loopw [18, 21, 77] (fun e _ i wr => ∃ (k : Nat) (x : Int), k ≤ rs.length ∧ i = iv (k : Int) ∧ e = iv x ∧ Hid ((x = 0 → File.firstErr (W0.drop k) = U) ∧ (x ≠ 0 → x = U)) ∧ Below w9.heap.size w9 wr) (fun _ _ i _ => rs.length - (intOf i).toNat)
    case atStart => exact ⟨0, 0, Nat.zero_le _, rfl, rfl, lH ⟨fun _ => by rw [List.drop_zero, HU.out], fun h => absurd rfl h⟩, rB⟩
    case round =>
     obtain ⟨k, x, hk, rfl, rfl, HX, hbr⟩ := hrel;have hb5r := hb59.next hbr nL
     by_cases hlt : k < rs.length
     ·have hki : (k : Int) < (rs.length : Int) := (by omega);obtain ⟨bv, ov, f, eA, hbv, hf, hc0⟩ := Sl.atRw (HSV.out wr hb5r) hlt;have HCF := lH (HCV.out wr hb5r f (mem_at hf));have hdr : W0.drop k = f.xs :: W0.drop (k + 1) := by rw [HW0.out]; exact drop_at (by rw [List.getElem?_map, hf]; rfl)
      have HDR := lH hdr;obtain ⟨cf, hcf⟩ : ∃ cf, cf = File.check f.xs := ⟨_, rfl⟩;rw [← hcf] at HCF;have HcF := lH hcf;subst eA;clear hf hdr hcf
      by_cases hx0 : x = 0
      ·have hq : (x == 0) = true := by simp [hx0]
       have HX2 : Hid ((cf = 0 → File.firstErr (W0.drop (k + 1)) = U) ∧ (cf ≠ 0 → cf = U)) := lH (by
        have h := HX.out.1 hx0;rw [HDR.out, File.firstErr, ← HcF.out] at h;refine ⟨fun h0 => ?_, fun h0 => ?_⟩
        ·rw [if_pos h0] at h; exact h
        ·rw [if_neg h0] at h; exact h)
       clear hx0 HX;(go_wp2_with fail);refine HCF.out.mono ?_;rintro _ wn ⟨rfl, hbn⟩;(go_wp2_with fail);go_roundw
       case rel => exact ⟨k + 1, cf, by omega, by go_num, rfl, HX2, hbr.next hbn nL⟩
       case measure => simp [intOf]; omega
      ·have hq : (x == 0) = false := by simpa using hx0
       have HX2 : Hid ((x = 0 → File.firstErr (W0.drop (k + 1)) = U) ∧ (x ≠ 0 → x = U)) := lH ⟨fun h => absurd h hx0, HX.out.2⟩;clear hx0 HX;(go_wp2_with fail);go_roundw
       case rel => exact ⟨k + 1, x, by omega, by go_num, rfl, HX2, hbr⟩
       case measure => simp [intOf]; omega
     ·have hki : ¬ (k : Int) < (rs.length : Int) := (by omega)
      have hxU : x = U := by
       by_cases hx0 : x = 0
       ·have h := HX.out.1 hx0;rw [List.drop_eq_nil_of_le (by rw [HW0.out, List.length_map]; omega)] at h;rw [hx0]; exact h
       ·exact HX.out.2 hx0
      subst hxU;clear HX hk hlt;generalize wr = w10 at *
      go_upto_if 87 with fail
      go_cut [18, 19] (fun v18 v19 wx => v18 = iv SA.2 ∧ (∃ (D : Option Addr) (n : Nat), v19 = .slice D SA.1.length n ∧ Hid (Sl intE wx D SA.1)) ∧ Below w10.heap.size w10 wx)
      case first =>
       by_cases hx0 : x = 0
       ·have hq : (x == 0) = true := by simp [hx0]
        have HFE : Hid (File.firstErr W0 = 0) := lH (by rw [← HU.out]; exact hx0)
        by_cases hrl : 0 < rs.length
        ·have hri : (rs.length : Int) > 0 := (by omega);have HRS := lH (rsince_spec (rs.length - 1) V rs d w10 (by omega) (by omega) hrd (HSV.out w10 hb5r) (HRV.out w10 hb5r) (fun r hr => good_of_check (File.first_good HFE.out _ (by rw [HW0.out]; exact List.mem_map_of_mem hr))))
         have HSE : Hid (SA = (File.sinceAt (rs.map Rw.xs) (rs.length - 1), 0)) := lH (by
          rw [HSA2.out];unfold File.sinceAns;rw [if_pos HFE.out, if_neg (by rw [HW0.out]; intro h; have := congrArg List.length h; rw [List.length_map, List.length_nil] at this; omega), HW0.out, List.length_map])
         clear hx0 hrl;(go_wp2_with fail);refine HRS.out.mono ?_;rintro e w11 ⟨v, rfl, ho, hb11⟩;obtain ⟨D1, n1, rfl, _, _⟩ := ho.form;(go_wp2_with fail);go_meet;exact ⟨by rw [HSE.out], ⟨D1, n1, by rw [HSE.out], lH (by rw [HSE.out]; exact ho.sl)⟩, hb11⟩
        ·have hri : ¬ (rs.length : Int) > 0 := (by omega)
         have HSE : Hid (SA = ([], 6)) := lH (by
          rw [HSA2.out];unfold File.sinceAns;rw [if_pos HFE.out, if_pos (by rw [HW0.out, List.eq_nil_of_length_eq_zero (show rs.length = 0 by omega)]; rfl)])
         clear hx0 hrl;(go_wp2_with fail);go_meet;exact ⟨by rw [HSE.out], ⟨none, 0, by rw [HSE.out]; rfl, lH (by rw [HSE.out]; exact Sl.nil)⟩, rB⟩
       ·have hq : (x == 0) = false := by simpa using hx0
        have HSE : Hid (SA = ([], x)) := lH (by
         rw [HSA2.out];unfold File.sinceAns;rw [if_neg (by rw [← HU.out]; exact hx0), ← HU.out])
        clear hx0;(go_wp2_with fail);go_meet;exact ⟨by rw [HSE.out], ⟨none, 0, by rw [HSE.out]; rfl, lH (by rw [HSE.out]; exact Sl.nil)⟩, rB⟩
      case rest =>
      obtain ⟨rfl, ⟨D19, n19, rfl, HP19⟩, hb1011⟩ := hcut;generalize wc = w11 at *;have hb511 := hb5r.next hb1011 nL;have hb911 := hbr.next hb1011 nL;have HJL : Hid (JA.2.1.length ≤ 24 ∧ JA.2.2.length ≤ 25) := lH (by rw [HJA.out]; exact joinAns_bnd _ _ _)
      have HSL : Hid (SA.1.length ≤ 30) := lH (by
       rw [HSA2.out]
       exact sinceAns_bnd fun f hf => by
        rw [HW0.out] at hf;obtain ⟨r, hr, rfl⟩ := List.mem_map.1 hf;exact hv30 r hr)
      have HQ16 := lH fun W (h : Below w11.heap.size w11 W) => HP16.out.below (hb911.next h nL)
      have HQ17 := lH fun W (h : Below w11.heap.size w11 W) => HP17.out.below (hb911.next h nL)
      have HQ19 := lH fun W (h : Below w11.heap.size w11 W) => HP19.out.below h
      have n1 : (JA.1 != JA.1) = false := by simp
      have n2 : (SA.2 != SA.2) = false := by simp
      clear hbr hb5r hb1011 hki hb911;(go_wp2_with fail);refine (HJN.out w11 hb511).mono ?_;rintro e w12 ⟨v0, v1, rfl, ho0, ho1, hb12⟩;obtain ⟨E0, g0, rfl, _, _⟩ := ho0.form;obtain ⟨E1, g1, rfl, _, _⟩ := ho1.form;have hb512 := hb511.next hb12 nL;(go_wp2_with fail);refine (HSN.out w12 hb512).mono ?_;rintro e w13 ⟨v, rfl, ho2, hb13⟩;obtain ⟨E2, g2, rfl, _, _⟩ := ho2.form;have hb1113 := hb12.next hb13 nL;have HX0 := lH fun W (h : Below w13.heap.size w13 W) => ho0.below (hb13.next h nL)
      have HEJ : Hid (∀ W, Below w13.heap.size w13 W → Calls Tryz.prog 26 #[.slice E0 JA.2.1.length g0, .slice D16 JA.2.1.length n16] W fun e w' => e = .returned (.bool true) ∧ Below W.heap.size W w') := lH fun W h => by
       have h24 := HJL.out;have := equalS E0 JA.2.1 g0 D16 JA.2.1 n16 W (by unfold big; omega) (HX0.out W h).sl (by unfold big; omega) (HQ16.out W (hb1113.next h nL))
       rwa [decide_eq_true rfl] at this
      have HEP : Hid (∀ W, Below w13.heap.size w13 W → Calls Tryz.prog 65 #[.slice E1 JA.2.2.length g1, .slice D17 JA.2.2.length n17] W fun e w' => e = .returned (.bool true) ∧ Below W.heap.size W w') := lH fun W h => by
       have h24 := HJL.out;have := eqSp E1 JA.2.2 g1 D17 JA.2.2 n17 W (by unfold big; omega) (ho1.below (hb13.next h nL)).sl (by unfold big; omega) (HQ17.out W (hb1113.next h nL))
       rwa [decide_eq_true rfl] at this
      have HEI : Hid (∀ W, Below w13.heap.size w13 W → Calls Tryz.prog 66 #[.slice E2 SA.1.length g2, .slice D19 SA.1.length n19] W fun e w' => e = .returned (.bool true) ∧ Below W.heap.size W w') := lH fun W h => by
       have h24 := HSL.out;have := eqI E2 SA.1 g2 D19 SA.1 n19 W (by unfold big; omega) (ho2.below h).sl (by unfold big; omega) (HQ19.out W (hb1113.next h nL))
       rwa [decide_eq_true rfl] at this
      clear ho0 ho1 ho2 hb12 hb13 hb512;(go_wp2_with fail);refine (HEJ.out w13 rB).mono ?_;rintro e w14 ⟨rfl, hb14⟩;(go_wp2_with fail);refine (HEP.out w14 hb14).mono ?_;rintro e w15 ⟨rfl, hb15⟩;have hb1315 := hb14.next hb15 nL;(go_wp2_with fail);refine (HEI.out w15 hb1315).mono ?_;rintro e w16 ⟨rfl, hb16⟩;have hb1316 := hb1315.next hb16 nL;have hcl := Own.cl (HX0.out w16 hb1316);have hb1116 := hb1113.next hb1316 nL;clear hb14 hb15 hb16 hb1315 hb1316 hb1113
      go_upto_region 32 with (refine wpClearS (o := ⟨none, _, _, _, _, _⟩) rfl (.tmp 132) rfl rfl hcl ?_; intro w17 hc17)
      have hb517 : Below w5.heap.size w5 w17 := hb511.trans ((hb1116.trans hc17.below).mono hb511.size);clear hcl hc17 hb1116 hb511;(go_wp2_with fail);refine (HE0.out w17 hb517).mono ?_;rintro e w18 ⟨rfl, hb18⟩;have hb518 := hb517.next hb18 nL;(go_wp2_with fail);refine (HE1.out w18 hb518).mono ?_;rintro e w19 ⟨rfl, hb19⟩;have hb519 := hb518.next hb19 nL;(go_wp2_with fail);refine (HE2.out w19 hb519).mono ?_;rintro e w20 ⟨rfl, hb20⟩;have hb520 := hb519.next hb20 nL;(go_wp2_with fail);refine (HE3.out w20 hb520).mono ?_;rintro e w21 ⟨rfl, hb21⟩;have hb021 := hb05.next (hb520.next hb21 nL) nL;(go_wp2_with fail);refine (HAW.out _ hb021).mono ?_;rintro _ wz ⟨rfl, hbz⟩;(go_wp2_with fail);go_ret;exact ⟨rfl, (hb021).next hbz nL⟩
end Fl
end Go.Proofs.YtblgkmdadholmabGreatDoor
namespace Go.Proofs.YtblgkmdadholmabGreatDoor.fcopies
open Go.ChangeShapes Go.WideShapes Go.ChangeAt Go.RowKit
theorem plain (f : FuncId) (fn : Func) (hf : Tryz.pinned.checked.prog.funcNamed "petersham/petershamlaw11.FileCopies" = some f) (hfn : Tryz.pinned.checked.prog.funcs[f]? = some fn) :
  false = Tryz.pinned.checked.prog.looks [] ∧ ∀ (j : Nat) t, fn.params[j]? = some t → Tryz.pinned.checked.prog.wantsStandIn t = false := by
 obtain rfl : f = 14 := Option.some.inj ((show Tryz.prog.funcNamed "petersham/petershamlaw11.FileCopies" = some 14 by kernel_rfl).symm.trans hf) |>.symm
 obtain rfl : fn = Tryz.f14 := (Option.some.inj (Tryz.func14.symm.trans hfn)).symm;refine ⟨by kernel_rfl, fun j t ht => ?_⟩;rw [Tryz.params14] at ht;have ht' := Array.mem_of_getElem? ht;simp at ht'
 rcases ht' with rfl | rfl
 ·exact (show Tryz.prog.wantsStandIn 23 = false by kernel_rfl)
 ·exact (show Tryz.prog.wantsStandIn 42 = false by kernel_rfl)
end Go.Proofs.YtblgkmdadholmabGreatDoor.fcopies
end
