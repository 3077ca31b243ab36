/- Package file: edits with what they hold; what a copy has in a block. Conditions: edits that lie one behind the other, within the block; files that are right. -/
import Derived.Test.YtekkhnjepcebkaaGreatDoorFlQ
set_option linter.unusedVariables false
set_option linter.unusedSimpArgs false
namespace Go.Proofs.YtekkhnjepcebkaaGreatDoor
namespace Fl
open Go.RowKit Go.ChangeShapes
set_option maxRecDepth 100000
/-- An edit: where its lists lie, and what they hold. -/
structure EdV where
  at_ : Int
  A : Option Addr
  c : Nat
  old : List ByteArray
  A' : Option Addr
  c' : Nat
  new : List ByteArray
def EdV.ed (r : EdV) : File.Edit ByteArray := ⟨r.at_, r.old, r.new⟩
def EdV.v (r : EdV) : Value := .agg #[iv r.at_, .slice r.A r.old.length r.c, .slice r.A' r.new.length r.c']
def edE : Enc EdV := ⟨fun r => [iv r.at_, .slice r.A r.old.length r.c, .slice r.A' r.new.length r.c'], 3, fun _ => rfl, fun _ u h => by simp at h; rcases h with rfl | rfl | rfl <;> rfl, by decide⟩
structure EdOk (w : World) (r : EdV) : Prop where
  old : Sl strE w r.A r.old
  new : Sl strE w r.A' r.new
  oc : r.old.length ≤ r.c
  nc : r.new.length ≤ r.c'
theorem EdOk.below {w w' : World} {r : EdV} (h : EdOk w r) (hb : Below w.heap.size w w') : EdOk w' r := ⟨h.old.below hb, h.new.below hb, h.oc, h.nc⟩
/-- Edits as Diff returns them are such edits. -/
theorem eds_of {B : Nat} {w : World} : ∀ {rs : List RawEd} {xs : List (File.Edit ByteArray)}, EdsR B w rs xs → ∃ vs : List EdV, vs.map EdV.ed = xs ∧ (∀ r ∈ vs, EdOk w r) ∧ vs.flatMap edE.cells = rs.flatMap rawE.cells ∧ vs.length = rs.length
  | [], [], _ => ⟨[], rfl, fun _ h => (by cases h), rfl, rfl⟩
  | r :: rs, x :: xs, ⟨h, h2⟩ => by
    obtain ⟨vs, k1, k2, k3, k4⟩ := eds_of h2
    obtain ⟨p1, p2, p3, p4, p5⟩ := h
    obtain ⟨a, A, n, c, A', n', c'⟩ := r
    obtain ⟨xa, xo, xn⟩ := x
    simp only at p1 p2 p3 p4 p5
    subst p1 p2 p3
    obtain ⟨_, _, e1, c1, _⟩ := p4.form
    obtain ⟨_, _, e2, c2, _⟩ := p5.form
    injection e1 with _ _ e1
    injection e2 with _ _ e2
    subst e1 e2
    refine ⟨⟨a, A, c, xo, A', c', xn⟩ :: vs, by simp [EdV.ed, k1], fun r hr => ?_, by rw [List.flatMap_cons, List.flatMap_cons, k3]; rfl, by simp [k4]⟩
    rcases List.mem_cons.1 hr with rfl | hr
    · exact ⟨p4.sl, p5.sl, c1, c2⟩
    · exact k2 r hr
theorem own_eds {e : TypeId} {B : Nat} {w : World} {v : Value} {rs : List RawEd} {vs : List EdV} (h : Own rawE e B w v rs) (hc : vs.flatMap edE.cells = rs.flatMap rawE.cells) (hl : vs.length = rs.length) : Own edE e B w v vs := by
  unfold Own at h ⊢
  rw [hc, hl]
  exact h
theorem tyEds : SlTy Tryz.prog 44 53 3 := tyEdits
theorem Sl.atEd {w : World} {A : Option Addr} {vs : List EdV} {k : Nat} (h : Sl edE w A vs) (hk : k < vs.length) :
    ∃ b off x, A = some ⟨b, off, none⟩ ∧ b < w.heap.size ∧ vs[k]? = some x ∧ w.cell? ⟨b, off + k * 3, none⟩ = some (iv x.at_) ∧ w.cell? ⟨b, off + k * 3 + 1, none⟩ = some (.slice x.A x.old.length x.c) ∧ w.cell? ⟨b, off + k * 3 + 2, none⟩ = some (.slice x.A' x.new.length x.c') := by
  obtain ⟨b, off, x, hA, hb, hx, hc⟩ := h.at_ hk
  exact ⟨b, off, x, hA, hb, hx, by simpa [edE] using hc 0 (iv x.at_) rfl, by simpa [edE] using hc 1 _ rfl, by simpa [edE] using hc 2 _ rfl⟩
/-- What is small of a change. -/
structure SmallC (xs : List (File.Edit ByteArray)) : Prop where
  many : xs.length ≤ 25
  old : ∀ x ∈ xs, x.old.length ≤ 24
  new : ∀ x ∈ xs, x.new.length ≤ 24
set_option maxHeartbeats 4000000 in
theorem has0_spec (lo hi : Nat) (A1 : Option Addr) (n1 c1 : Nat) (A : Option Addr) (base : List ByteArray) (c : Nat) (vs : List EdV) (C : Option Addr) (cc : Nat) (w : World) (hm : base.length ≤ 24) (hc : base.length ≤ c) (hlo : lo ≤ hi) (hhi : hi ≤ base.length)
    (hsm : SmallC (vs.map EdV.ed)) (hch : File.Chain lo (vs.map EdV.ed)) (hwi : File.Within hi (vs.map EdV.ed)) (hs : Sl strE w A base) (hv : Sl edE w C vs) (hok : ∀ r ∈ vs, EdOk w r) :
    Calls Tryz.prog 84 #[.agg #[iv (lo : Int), iv (hi : Int), .slice C vs.length cc, .slice A1 n1 c1], .slice A base.length c, iv 0] w fun e w' => ∃ v, e = .returned v ∧ Own strE 9 w.heap.size w' v (File.hasGo base hi lo (vs.map EdV.ed)) ∧ Below w.heap.size w w' := by
  have hb1 : Below w.heap.size w (w.alloc (.cells #[iv (lo : Int), iv (hi : Int), .slice C vs.length cc, .slice A1 n1 c1] 131)) := (Below.refl _ _).alloc (Nat.le_refl _) _
  have hM : Blk (w.alloc (.cells #[iv (lo : Int), iv (hi : Int), .slice C vs.length cc, .slice A1 n1 c1] 131)) w.heap.size 131 #[iv (lo : Int), iv (hi : Int), .slice C vs.length cc, .slice A1 n1 c1] := Blk.new _ _ _
  have HCL : Hid (∀ W, Below w.heap.size w W → Calls Tryz.prog 70 #[.slice (cutA A c lo 1) (hi - lo) (c - lo)] W fun e w' => ∃ v, e = .returned v ∧ Own strE 9 W.heap.size w' v (File.cut base lo hi) ∧ Below W.heap.size W w') := Lib.hid fun W hW => by
    have h1 : (File.cut base lo hi).length = hi - lo := File.cut_length hhi hlo
    have := cloneS (cutA A c lo 1) (File.cut base lo hi) (c - lo) W (by rw [h1]; unfold big; omega) (Sl.cut (hs.below hW) hc hlo hhi)
    rw [h1] at this
    exact this
  have RC : ∀ W : World, (Instr.slice 22 (.slice A base.length c) (some (iv (lo : Int))) (some (iv (hi : Int))) none).run Tryz.prog W = .ok (.slice (cutA A c lo 1) (hi - lo) (c - lo)) W := run_cut strE tyStrs A base.length c lo hi hlo (Nat.le_trans hhi hc)
  generalize cutA A c lo 1 = X1 at RC HCL
  generalize hi - lo = m3 at RC HCL
  generalize c - lo = n3 at RC HCL
  have hvl : vs.length ≤ 25 := by have := hsm.many; rwa [List.length_map] at this
  have e1 : IntKind.i64.wrap ((vs.length : Int) - 1) = (vs.length : Int) - 1 := IntWalk.i64_in _ (by omega)
  have HV := Lib.hid hv
  have m1 := hM.cell
  have l1 := hM.lt
  have HLB : Hid (∀ p, (File.hasGo base hi lo ((vs.map EdV.ed).drop p)).length ≤ 100000) := Lib.hid fun p => by
    have h1 := File.hasGo_len (base := base) (hi := hi) (M := 24) (c := (vs.map EdV.ed).drop p) (at_ := lo) fun x hx => hsm.new x (List.mem_of_mem_drop hx)
    have h2 : ((vs.map EdV.ed).drop p).length ≤ 25 := by rw [List.length_drop, List.length_map]; omega
    have h3 : ((vs.map EdV.ed).drop p).length * (base.length + 24) ≤ 25 * 48 := Nat.mul_le_mul h2 (by omega)
    omega
  go_enter Tryz.func84, Tryz.ntmps84
  go_upto_region 1 with fail
  generalize w.alloc (.cells #[iv (lo : Int), iv (hi : Int), .slice C vs.length cc, .slice A1 n1 c1] 131) = w1 at *
  go_wp2_with (go_at_call 70; refine (HCL.out _ hb1).mono ?_; rintro e w2 ⟨v, rfl, ho2, hb2⟩; have hM2 := hM.under hb2; have m2 := hM2.cell; have l2 := hM2.lt)
  have hb02 := hb1.next hb2 (Nat.le_refl _)
  go_loopw [7, 8] (fun u q wr => ∃ (p : Nat), p ≤ vs.length ∧ q = iv ((p : Int) - 1) ∧ Hid (Own strE 9 w.heap.size wr u (File.hasGo base hi lo ((vs.map EdV.ed).drop p))) ∧ Below w2.heap.size w2 wr) (fun _ q _ => (intOf q + 1).toNat)
  case atStart => exact ⟨vs.length, Nat.le_refl _, rfl, by rw [List.drop_of_length_le (by rw [List.length_map]; exact Nat.le_refl _)]; exact ho2.base hb1.size, Below.refl _ _⟩
  case round =>
    obtain ⟨p, hp, rfl, HO, hbr⟩ := hrel
    have hMr := hM2.under hbr
    have b0 := hMr.cell 0
    have b1 := hMr.cell 1
    have b2 := hMr.cell 2
    have b3 := hMr.cell 3
    have lr := hMr.lt
    by_cases hlt : 0 < p
    · obtain ⟨q, rfl⟩ : ∃ q, p = q + 1 := ⟨p - 1, by omega⟩
      have hqi : (0 : Int) ≤ (q : Int) := by omega
      have e2 : ((q + 1 : Nat) : Int) - 1 = (q : Int) := by omega
      have hql : (q : Int) < (vs.length : Int) := by omega
      rw [e2]
      obtain ⟨bx, ox, x, hC, hbx, hx, hc0, hc1, hc2⟩ := Sl.atEd (HV.out.below (hb02.next hbr (Nat.le_refl _))) (show q < vs.length by omega)
      subst hC
      have hxm := mem_at hx
      have hd : (vs.map EdV.ed).drop q = x.ed :: (vs.map EdV.ed).drop (q + 1) := drop_at (by rw [List.getElem?_map, hx]; rfl)
      have hsp : vs.map EdV.ed = (vs.map EdV.ed).take q ++ x.ed :: (vs.map EdV.ed).drop (q + 1) := by rw [← hd, List.take_append_drop]
      have hch2 := hch
      rw [hsp] at hch2
      obtain ⟨k1, k2⟩ := File.Chain.suf hch2
      have hmem : x.ed ∈ vs.map EdV.ed := List.mem_map_of_mem hxm
      have hmade := File.made_has (base := base) k1 k2.2 (fun y hy => hwi y (List.mem_of_mem_drop hy)) (hwi _ hmem) hhi
      have hlo2 : x.at_ - (lo : Int) = ((x.at_.toNat - lo : Nat) : Int) := by have : (lo : Int) ≤ x.at_ := k1; omega
      have hmd : File.hasGo base hi lo ((vs.map EdV.ed).drop q) = (File.hasGo base hi lo ((vs.map EdV.ed).drop (q + 1))).take (x.at_.toNat - lo) ++ (x.new ++ (File.hasGo base hi lo ((vs.map EdV.ed).drop (q + 1))).drop (x.at_.toNat - lo + x.old.length)) := by
        rw [hd, ← hmade.2]
        have e3 : (x.ed.at_ - (lo : Int)).toNat = x.at_.toNat - lo := by show (x.at_ - (lo : Int)).toNat = _; omega
        unfold File.made
        simp only [e3]
        rfl
      have hfit : x.at_.toNat - lo + x.old.length ≤ (File.hasGo base hi lo ((vs.map EdV.ed).drop (q + 1))).length := by
        have h1 := hmade.1
        have : x.ed.hi = x.at_.toNat + x.old.length := rfl
        have : (lo : Int) ≤ x.at_ := k1
        omega
      have hat : x.at_.toNat ≤ 24 := by
        have h1 : x.ed.hi ≤ hi := hwi _ hmem
        have : x.ed.hi = x.at_.toNat + x.old.length := rfl
        omega
      have hpos : 0 ≤ x.at_ := by have : (lo : Int) ≤ x.at_ := k1; omega
      have hnew : x.new.length ≤ 24 := hsm.new _ hmem
      have HOK := Lib.hid (hok x hxm)
      have HMD := Lib.hid hmd
      have HFIT := Lib.hid hfit
      have HOut := HO.out
      obtain ⟨Y, hY⟩ : ∃ Y, Y = File.hasGo base hi lo ((vs.map EdV.ed).drop (q + 1)) := ⟨_, rfl⟩
      rw [← hY] at HMD HFIT HOut
      have HYL : Y.length ≤ 100000 := by rw [hY]; exact HLB.out _
      obtain ⟨Yv, cy, rfl, hcy, _⟩ := HOut.form
      have e3 : IntKind.i64.wrap (x.at_ - (lo : Int)) = ((x.at_.toNat - lo : Nat) : Int) := by rw [← hlo2]; exact IntWalk.i64_in _ (by omega)
      have HOO := Lib.hid HOut
      have e4 : IntKind.i64.wrap ((q : Int) - 1) = (q : Int) - 1 := IntWalk.i64_in _ (by omega)
      generalize x.at_.toNat - lo = kk at e3 HMD HFIT
      clear hx hd hsp hch2 k1 k2 hmade hmd hfit HO HOut hmem hxm hY hlo2
      go_upto_region 6 with fail
      have hNb : Below wr.heap.size wr (wr.alloc (.cells #[iv x.at_, .slice x.A x.old.length x.c, .slice x.A' x.new.length x.c'] 53)) := (Below.refl _ _).alloc (Nat.le_refl _) _
      have hNx : Blk (wr.alloc (.cells #[iv x.at_, .slice x.A x.old.length x.c, .slice x.A' x.new.length x.c'] 53)) wr.heap.size 53 #[iv x.at_, .slice x.A x.old.length x.c, .slice x.A' x.new.length x.c'] := Blk.new _ _ _
      generalize wr.alloc (.cells #[iv x.at_, .slice x.A x.old.length x.c, .slice x.A' x.new.length x.c'] 53) = wN at *
      have n0 := hNx.cell 0
      have n1 := hNx.cell 1
      have n2 := hNx.cell 2
      have nl := hNx.lt
      have nf := hNx.frozen 0
      have hMN := hMr.under hNb
      have a0 := hMN.cell 0
      go_upto_region 7 with fail
      have hNs := hNx.set_ 0 (iv (kk : Int))
      have hbS : Below wr.heap.size wr (wN.setCell ⟨wr.heap.size, 0, none⟩ (iv (kk : Int))) := hNb.setCell (p := ⟨wr.heap.size, 0, none⟩) (Nat.le_refl _) _
      generalize wN.setCell ⟨wr.heap.size, 0, none⟩ (iv (kk : Int)) = wS at *
      have s0 := hNs.cell 0
      have s1 := hNs.cell 1
      have s2 := hNs.cell 2
      have sl := hNs.lt
      have hb2S : Below w2.heap.size w2 wS := hbr.next hbS (Nat.le_refl _)
      have HMS := Lib.hid (made_spec Yv Y cy kk x.A x.old.length x.c x.A' x.new x.c' wS HYL (by omega) HFIT.out hcy (Sl.below HOO.out.sl hbS) (HOK.out.new.below (hb02.next hb2S (Nat.le_refl _))))
      clear n0 n1 n2 nf a0 hMN hNx hNb hNs hbS
      go_wp2_with (go_at_call 92; refine HMS.out.mono ?_; rintro e w5 ⟨v5, rfl, ho5, hb5⟩)
      go_roundw
      case rel => exact ⟨q, by omega, rfl, by rw [HMD.out]; exact ho5.base (hb02.next hb2S (Nat.le_refl _)).size, hb2S.next hb5 (Nat.le_refl _)⟩
      case measure => simp [intOf]
    · obtain rfl : p = 0 := by omega
      go_wp2_with fail
      go_ret
      exact ⟨_, rfl, HO.out, hb02.next hbr (Nat.le_refl _)⟩
set_option maxHeartbeats 4000000 in
theorem has1_spec (lo hi : Nat) (A0 : Option Addr) (n0 c0 : Nat) (A : Option Addr) (base : List ByteArray) (c : Nat) (vs : List EdV) (C : Option Addr) (cc : Nat) (w : World) (hm : base.length ≤ 24) (hc : base.length ≤ c) (hlo : lo ≤ hi) (hhi : hi ≤ base.length)
    (hsm : SmallC (vs.map EdV.ed)) (hch : File.Chain lo (vs.map EdV.ed)) (hwi : File.Within hi (vs.map EdV.ed)) (hs : Sl strE w A base) (hv : Sl edE w C vs) (hok : ∀ r ∈ vs, EdOk w r) :
    Calls Tryz.prog 84 #[.agg #[iv (lo : Int), iv (hi : Int), .slice A0 n0 c0, .slice C vs.length cc], .slice A base.length c, iv 1] w fun e w' => ∃ v, e = .returned v ∧ Own strE 9 w.heap.size w' v (File.hasGo base hi lo (vs.map EdV.ed)) ∧ Below w.heap.size w w' := by
  have hb1 : Below w.heap.size w (w.alloc (.cells #[iv (lo : Int), iv (hi : Int), .slice A0 n0 c0, .slice C vs.length cc] 131)) := (Below.refl _ _).alloc (Nat.le_refl _) _
  have hM : Blk (w.alloc (.cells #[iv (lo : Int), iv (hi : Int), .slice A0 n0 c0, .slice C vs.length cc] 131)) w.heap.size 131 #[iv (lo : Int), iv (hi : Int), .slice A0 n0 c0, .slice C vs.length cc] := Blk.new _ _ _
  have HCL : Hid (∀ W, Below w.heap.size w W → Calls Tryz.prog 70 #[.slice (cutA A c lo 1) (hi - lo) (c - lo)] W fun e w' => ∃ v, e = .returned v ∧ Own strE 9 W.heap.size w' v (File.cut base lo hi) ∧ Below W.heap.size W w') := Lib.hid fun W hW => by
    have h1 : (File.cut base lo hi).length = hi - lo := File.cut_length hhi hlo
    have := cloneS (cutA A c lo 1) (File.cut base lo hi) (c - lo) W (by rw [h1]; unfold big; omega) (Sl.cut (hs.below hW) hc hlo hhi)
    rw [h1] at this
    exact this
  have RC : ∀ W : World, (Instr.slice 22 (.slice A base.length c) (some (iv (lo : Int))) (some (iv (hi : Int))) none).run Tryz.prog W = .ok (.slice (cutA A c lo 1) (hi - lo) (c - lo)) W := run_cut strE tyStrs A base.length c lo hi hlo (Nat.le_trans hhi hc)
  generalize cutA A c lo 1 = X1 at RC HCL
  generalize hi - lo = m3 at RC HCL
  generalize c - lo = n3 at RC HCL
  have hvl : vs.length ≤ 25 := by have := hsm.many; rwa [List.length_map] at this
  have e1 : IntKind.i64.wrap ((vs.length : Int) - 1) = (vs.length : Int) - 1 := IntWalk.i64_in _ (by omega)
  have HV := Lib.hid hv
  have m1 := hM.cell
  have l1 := hM.lt
  have HLB : Hid (∀ p, (File.hasGo base hi lo ((vs.map EdV.ed).drop p)).length ≤ 100000) := Lib.hid fun p => by
    have h1 := File.hasGo_len (base := base) (hi := hi) (M := 24) (c := (vs.map EdV.ed).drop p) (at_ := lo) fun x hx => hsm.new x (List.mem_of_mem_drop hx)
    have h2 : ((vs.map EdV.ed).drop p).length ≤ 25 := by rw [List.length_drop, List.length_map]; omega
    have h3 : ((vs.map EdV.ed).drop p).length * (base.length + 24) ≤ 25 * 48 := Nat.mul_le_mul h2 (by omega)
    omega
  go_enter Tryz.func84, Tryz.ntmps84
  go_upto_region 1 with fail
  generalize w.alloc (.cells #[iv (lo : Int), iv (hi : Int), .slice A0 n0 c0, .slice C vs.length cc] 131) = w1 at *
  go_wp2_with (go_at_call 70; refine (HCL.out _ hb1).mono ?_; rintro e w2 ⟨v, rfl, ho2, hb2⟩; have hM2 := hM.under hb2; have m2 := hM2.cell; have l2 := hM2.lt)
  have hb02 := hb1.next hb2 (Nat.le_refl _)
  go_loopw [7, 8] (fun u q wr => ∃ (p : Nat), p ≤ vs.length ∧ q = iv ((p : Int) - 1) ∧ Hid (Own strE 9 w.heap.size wr u (File.hasGo base hi lo ((vs.map EdV.ed).drop p))) ∧ Below w2.heap.size w2 wr) (fun _ q _ => (intOf q + 1).toNat)
  case atStart => exact ⟨vs.length, Nat.le_refl _, rfl, by rw [List.drop_of_length_le (by rw [List.length_map]; exact Nat.le_refl _)]; exact ho2.base hb1.size, Below.refl _ _⟩
  case round =>
    obtain ⟨p, hp, rfl, HO, hbr⟩ := hrel
    have hMr := hM2.under hbr
    have b0 := hMr.cell 0
    have b1 := hMr.cell 1
    have b2 := hMr.cell 2
    have b3 := hMr.cell 3
    have lr := hMr.lt
    by_cases hlt : 0 < p
    · obtain ⟨q, rfl⟩ : ∃ q, p = q + 1 := ⟨p - 1, by omega⟩
      have hqi : (0 : Int) ≤ (q : Int) := by omega
      have e2 : ((q + 1 : Nat) : Int) - 1 = (q : Int) := by omega
      have hql : (q : Int) < (vs.length : Int) := by omega
      rw [e2]
      obtain ⟨bx, ox, x, hC, hbx, hx, hc0, hc1, hc2⟩ := Sl.atEd (HV.out.below (hb02.next hbr (Nat.le_refl _))) (show q < vs.length by omega)
      subst hC
      have hxm := mem_at hx
      have hd : (vs.map EdV.ed).drop q = x.ed :: (vs.map EdV.ed).drop (q + 1) := drop_at (by rw [List.getElem?_map, hx]; rfl)
      have hsp : vs.map EdV.ed = (vs.map EdV.ed).take q ++ x.ed :: (vs.map EdV.ed).drop (q + 1) := by rw [← hd, List.take_append_drop]
      have hch2 := hch
      rw [hsp] at hch2
      obtain ⟨k1, k2⟩ := File.Chain.suf hch2
      have hmem : x.ed ∈ vs.map EdV.ed := List.mem_map_of_mem hxm
      have hmade := File.made_has (base := base) k1 k2.2 (fun y hy => hwi y (List.mem_of_mem_drop hy)) (hwi _ hmem) hhi
      have hlo2 : x.at_ - (lo : Int) = ((x.at_.toNat - lo : Nat) : Int) := by have : (lo : Int) ≤ x.at_ := k1; omega
      have hmd : File.hasGo base hi lo ((vs.map EdV.ed).drop q) = (File.hasGo base hi lo ((vs.map EdV.ed).drop (q + 1))).take (x.at_.toNat - lo) ++ (x.new ++ (File.hasGo base hi lo ((vs.map EdV.ed).drop (q + 1))).drop (x.at_.toNat - lo + x.old.length)) := by
        rw [hd, ← hmade.2]
        have e3 : (x.ed.at_ - (lo : Int)).toNat = x.at_.toNat - lo := by show (x.at_ - (lo : Int)).toNat = _; omega
        unfold File.made
        simp only [e3]
        rfl
      have hfit : x.at_.toNat - lo + x.old.length ≤ (File.hasGo base hi lo ((vs.map EdV.ed).drop (q + 1))).length := by
        have h1 := hmade.1
        have : x.ed.hi = x.at_.toNat + x.old.length := rfl
        have : (lo : Int) ≤ x.at_ := k1
        omega
      have hat : x.at_.toNat ≤ 24 := by
        have h1 : x.ed.hi ≤ hi := hwi _ hmem
        have : x.ed.hi = x.at_.toNat + x.old.length := rfl
        omega
      have hpos : 0 ≤ x.at_ := by have : (lo : Int) ≤ x.at_ := k1; omega
      have hnew : x.new.length ≤ 24 := hsm.new _ hmem
      have HOK := Lib.hid (hok x hxm)
      have HMD := Lib.hid hmd
      have HFIT := Lib.hid hfit
      have HOut := HO.out
      obtain ⟨Y, hY⟩ : ∃ Y, Y = File.hasGo base hi lo ((vs.map EdV.ed).drop (q + 1)) := ⟨_, rfl⟩
      rw [← hY] at HMD HFIT HOut
      have HYL : Y.length ≤ 100000 := by rw [hY]; exact HLB.out _
      obtain ⟨Yv, cy, rfl, hcy, _⟩ := HOut.form
      have e3 : IntKind.i64.wrap (x.at_ - (lo : Int)) = ((x.at_.toNat - lo : Nat) : Int) := by rw [← hlo2]; exact IntWalk.i64_in _ (by omega)
      have HOO := Lib.hid HOut
      have e4 : IntKind.i64.wrap ((q : Int) - 1) = (q : Int) - 1 := IntWalk.i64_in _ (by omega)
      generalize x.at_.toNat - lo = kk at e3 HMD HFIT
      clear hx hd hsp hch2 k1 k2 hmade hmd hfit HO HOut hmem hxm hY hlo2
      go_upto_region 6 with fail
      have hNb : Below wr.heap.size wr (wr.alloc (.cells #[iv x.at_, .slice x.A x.old.length x.c, .slice x.A' x.new.length x.c'] 53)) := (Below.refl _ _).alloc (Nat.le_refl _) _
      have hNx : Blk (wr.alloc (.cells #[iv x.at_, .slice x.A x.old.length x.c, .slice x.A' x.new.length x.c'] 53)) wr.heap.size 53 #[iv x.at_, .slice x.A x.old.length x.c, .slice x.A' x.new.length x.c'] := Blk.new _ _ _
      generalize wr.alloc (.cells #[iv x.at_, .slice x.A x.old.length x.c, .slice x.A' x.new.length x.c'] 53) = wN at *
      have n0 := hNx.cell 0
      have n1 := hNx.cell 1
      have n2 := hNx.cell 2
      have nl := hNx.lt
      have nf := hNx.frozen 0
      have hMN := hMr.under hNb
      have a0 := hMN.cell 0
      go_upto_region 7 with fail
      have hNs := hNx.set_ 0 (iv (kk : Int))
      have hbS : Below wr.heap.size wr (wN.setCell ⟨wr.heap.size, 0, none⟩ (iv (kk : Int))) := hNb.setCell (p := ⟨wr.heap.size, 0, none⟩) (Nat.le_refl _) _
      generalize wN.setCell ⟨wr.heap.size, 0, none⟩ (iv (kk : Int)) = wS at *
      have s0 := hNs.cell 0
      have s1 := hNs.cell 1
      have s2 := hNs.cell 2
      have sl := hNs.lt
      have hb2S : Below w2.heap.size w2 wS := hbr.next hbS (Nat.le_refl _)
      have HMS := Lib.hid (made_spec Yv Y cy kk x.A x.old.length x.c x.A' x.new x.c' wS HYL (by omega) HFIT.out hcy (Sl.below HOO.out.sl hbS) (HOK.out.new.below (hb02.next hb2S (Nat.le_refl _))))
      clear n0 n1 n2 nf a0 hMN hNx hNb hNs hbS
      go_wp2_with (go_at_call 92; refine HMS.out.mono ?_; rintro e w5 ⟨v5, rfl, ho5, hb5⟩)
      go_roundw
      case rel => exact ⟨q, by omega, rfl, by rw [HMD.out]; exact ho5.base (hb02.next hb2S (Nat.le_refl _)).size, hb2S.next hb5 (Nat.le_refl _)⟩
      case measure => simp [intOf]
    · obtain rfl : p = 0 := by omega
      go_wp2_with fail
      go_ret
      exact ⟨_, rfl, HO.out, hb02.next hbr (Nat.le_refl _)⟩
end Fl
end Go.Proofs.YtekkhnjepcebkaaGreatDoor
