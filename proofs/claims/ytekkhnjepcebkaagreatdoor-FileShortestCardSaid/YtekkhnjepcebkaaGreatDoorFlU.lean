/- Package file: Join. Condition: lengths are below a great bound, and slices lie within their capacities. -/
import Derived.Test.YtekkhnjepcebkaaGreatDoorFlT
import Derived.Test.YtekkhnjepcebkaaGreatDoorFlO
import Derived.Test.YtekkhnjepcebkaaGreatDoorFlEq
import Derived.Test.YtekkhnjepcebkaaGreatDoorFree
set_option linter.unusedVariables false
set_option linter.unusedSimpArgs false
namespace Go.Proofs.YtekkhnjepcebkaaGreatDoor
namespace File
/-- What Join answers: a number, lines, conflicts. -/
def joinAns (base a b : List ByteArray) : Int × List ByteArray × List (Nat × Nat) :=
  if check base ≠ 0 then (check base, [], [])
  else if Fl.errOf a b ≠ 0 then (Fl.errOf a b, [], [])
  else if 24 < (join base a b).1.length then (2, [], []) else (0, (join base a b).1, (join base a b).2)
end File
namespace Fl
open Go.RowKit Go.ChangeShapes
set_option maxRecDepth 100000
theorem tySpans : SlTy Tryz.prog 30 40 2 := slTy_of (z := .agg #[iv 0, iv 0]) (bytes := 16) Tryz.underlying30 (by kernel_rfl) rfl (by decide)
theorem ownNeBlk {α : Type} {E : Enc α} {e t : TypeId} {B : Nat} {w : World} {v : Value} {xs : List α} {g : Nat} {cs : Array Value} (h : Own E e B w v xs) (hb : Blk w g t cs) (ht : t ≠ e) : v.ownBlock ≠ some g := fun hv => by
  rcases h.2 with ⟨rfl, _⟩ | ⟨g', cap, cur, rfl, _, hg, _⟩
  · cases hv
  · have hg' : g' = g := by simpa [Value.ownBlock] using hv
    unfold Blk at hb
    rw [hg', hb] at hg
    injection hg with hg
    injection hg with _ h2 _
    exact ht h2
theorem cut_run {A : Option Addr} {base : List ByteArray} {c i x : Nat} {w : World} (hc : base.length ≤ c) (hi : i ≤ x) (hx : x ≤ base.length) (hs : Sl strE w A base) :
    ∃ (X : Option Addr) (n : Nat) (ys : List ByteArray), ys = File.cut base i x ∧ ys.length ≤ base.length ∧ Sl strE w X ys ∧ ∀ W : World, (Instr.slice 22 (.slice A base.length c) (some (iv (i : Int))) (some (iv (x : Int))) none).run Tryz.prog W = .ok (.slice X ys.length n) W := by
  refine ⟨cutA A c i 1, c - i, File.cut base i x, rfl, File.cut_len _ _ _, Sl.cut hs hc hi hx, ?_⟩
  have h1 := run_cut strE tyStrs A base.length c i x hi (Nat.le_trans hx hc)
  rw [File.cut_length hx hi]
  exact h1
theorem cut_from {A : Option Addr} {base : List ByteArray} {c i : Nat} {w : World} (hc : base.length ≤ c) (hi : i ≤ base.length) (hs : Sl strE w A base) :
    ∃ (X : Option Addr) (n : Nat) (ys : List ByteArray), ys = base.drop i ∧ ys.length ≤ base.length ∧ Sl strE w X ys ∧ ∀ W : World, (Instr.slice 22 (.slice A base.length c) (some (iv (i : Int))) none none).run Tryz.prog W = .ok (.slice X ys.length n) W := by
  have he : File.cut base i base.length = base.drop i := by unfold File.cut; exact List.take_of_length_le (by rw [List.length_drop]; exact Nat.le_refl _)
  refine ⟨cutA A c i 1, c - i, base.drop i, rfl, by rw [List.length_drop]; omega, he ▸ Sl.cut hs hc hi (Nat.le_refl _), ?_⟩
  have h1 := run_cutFrom strE tyStrs A base.length c i hi
  rw [List.length_drop]
  exact h1
theorem Sl.atBl {w : World} {A : Option Addr} {vs : List BlV} {k : Nat} (h : Sl blE w A vs) (hk : k < vs.length) :
    ∃ b off x, A = some ⟨b, off, none⟩ ∧ b < w.heap.size ∧ vs[k]? = some x ∧ w.cell? ⟨b, off + k * 4, none⟩ = some (iv (x.lo : Int)) ∧ w.cell? ⟨b, off + k * 4 + 1, none⟩ = some (iv (x.hi : Int)) ∧ w.cell? ⟨b, off + k * 4 + 2, none⟩ = some (.slice x.A0 x.e0.length x.c0) ∧ w.cell? ⟨b, off + k * 4 + 3, none⟩ = some (.slice x.A1 x.e1.length x.c1) := by
  obtain ⟨b, off, x, hA, hb, hx, hc⟩ := h.at_ hk
  exact ⟨b, off, x, hA, hb, hx, by simpa [blE] using hc 0 (iv (x.lo : Int)) rfl, by simpa [blE] using hc 1 _ rfl, by simpa [blE, BlV.v0] using hc 2 _ rfl, by simpa [blE, BlV.v1] using hc 3 _ rfl⟩
theorem diffGo_small {a b : List ByteArray} : ∀ (l : List (Nat × Nat)) (i j : Nat), ∀ x ∈ File.diffGo a b i j l, x.old.length ≤ a.length ∧ x.new.length ≤ b.length
  | [], _, _, _, h => by cases h
  | p :: r, i, j, x, h => by
    unfold File.diffGo at h
    rcases List.mem_append.1 h with h | h
    · split at h
      · cases h
      · rw [List.mem_singleton.1 h]
        exact ⟨File.cut_len _ _ _, File.cut_len _ _ _⟩
    · exact diffGo_small r _ _ x h
theorem smallC_diff {a b : List ByteArray} (ha : a.length ≤ 24) (hb : b.length ≤ 24) : SmallC (File.diff a b) := by
  have hl := File.diff_len a b
  refine ⟨by omega, fun x hx => ?_, fun x hx => ?_⟩
  · have := (diffGo_small _ _ _ x hx).1; omega
  · have := (diffGo_small _ _ _ x hx).2; omega
set_option maxHeartbeats 4000000 in
theorem joined_spec (Ab : Option Addr) (base : List ByteArray) (cb : Nat) (A : Option Addr) (a : List ByteArray) (c : Nat) (A' : Option Addr) (b : List ByteArray) (c' : Nat) (w : World) (gB : Good base) (ga : Good a) (gb : Good b) (hB0 : File.check base = 0) (hE0 : errOf a b = 0)
    (hcB : base.length ≤ cb) (hca : a.length ≤ c) (hcb : b.length ≤ c') (hsB : Sl strE w Ab base) (hsa : Sl strE w A a) (hsb : Sl strE w A' b) :
    Calls Tryz.prog 16 #[.slice Ab base.length cb, .slice A a.length c, .slice A' b.length c'] w fun e w' => ∃ v0 v1, e = .returned (.tuple #[v0, v1, iv (File.joinAns base a b).1]) ∧ Own strE 9 w.heap.size w' v0 (File.joinAns base a b).2.1 ∧ Own pairE 40 w.heap.size w' v1 (File.joinAns base a b).2.2 ∧ Below w.heap.size w w' := by
  have m0 := gB.many
  have m1 := ga.many
  have m2 := gb.many
  have HC : Hid (Calls Tryz.prog 48 #[.slice Ab base.length cb] w fun e w' => e = .returned (iv 0) ∧ Below w.heap.size w w') := Lib.hid (by
    have := check_spec Ab base cb w (by unfold big; omega) hsB
    rwa [hB0] at this)
  have HBo : ∀ W, Below w.heap.size w W → Hid (Calls Tryz.prog 81 #[.slice A a.length c, .slice A' b.length c'] W fun e w' => e = .returned (iv 0) ∧ Below W.heap.size W w') := fun W hW => Lib.hid (err_zero hE0 (both_spec A a c A' b c' W (by unfold big; omega) (by unfold big; omega) (hsa.below hW) (hsb.below hW)))
  have HANS : Hid (File.joinAns base a b = if 24 < (File.join base a b).1.length then (2, [], []) else (0, (File.join base a b).1, (File.join base a b).2)) := Lib.hid (by unfold File.joinAns; rw [if_neg (by simp [hB0]), if_neg (by simp [hE0])])
  generalize File.joinAns base a b = ans at *
  clear hB0 hE0
  go_enter Tryz.func16, Tryz.ntmps16
  go_wp2_with fail
  refine HC.out.mono ?_
  rintro e w1 ⟨rfl, hb1⟩
  go_wp2_with fail
  refine (HBo w1 hb1).out.mono ?_
  rintro e w2 ⟨rfl, hb2⟩
  have hb02 := hb1.next hb2 (Nat.le_refl _)
  clear HC HBo hb1 hb2
  go_wp2_with fail
  refine (diff_spec Ab base cb A a c w2 gB ga hcB hca (hsB.below hb02) (hsa.below hb02)).mono ?_
  rintro e w3 ⟨v0, rs0, rfl, hv0, hr0, hb3⟩
  have hb03 := hb02.next hb3 (Nat.le_refl _)
  go_wp2_with fail
  refine (diff_spec Ab base cb A' b c' w3 gB gb hcB hcb (hsB.below hb03) (hsb.below hb03)).mono ?_
  rintro e w4 ⟨v1, rs1, rfl, hv1, hr1, hb4⟩
  have hb04 := hb03.next hb4 (Nat.le_refl _)
  obtain ⟨vs0, hq0, hk0, hfc0, hln0⟩ := eds_of hr0
  obtain ⟨vs1, hq1, hk1, hfc1, hln1⟩ := eds_of hr1
  have ho0 := (own_eds hv0 hfc0 hln0).below hb4
  have ho1 := own_eds hv1 hfc1 hln1
  obtain ⟨C0, d0, rfl, hd0, _⟩ := ho0.form
  obtain ⟨C1, d1, rfl, hd1, _⟩ := ho1.form
  have hk0' : ∀ r ∈ vs0, EdOk w4 r := fun r hr => (hk0 r hr).below hb4
  have sm0 : SmallC (vs0.map EdV.ed) := by rw [hq0]; exact smallC_diff m0 m1
  have sm1 : SmallC (vs1.map EdV.ed) := by rw [hq1]; exact smallC_diff m0 m2
  have hat : ∀ vs : List EdV, File.Chain 0 (vs.map EdV.ed) → File.Within base.length (vs.map EdV.ed) → ∀ x ∈ vs, 0 ≤ x.at_ ∧ x.at_ ≤ 24 := fun vs h1 h2 x hx => by
    have hm : x.ed ∈ vs.map EdV.ed := List.mem_map_of_mem hx
    have k1 : ((0 : Nat) : Int) ≤ x.at_ := h1.pos _ hm
    have k2 : x.at_.toNat + x.old.length ≤ base.length := h2 _ hm
    omega
  have q0 := hat vs0 (by rw [hq0]; exact File.chain_diff _ _) (by rw [hq0]; exact File.within_diff _ _)
  have q1 := hat vs1 (by rw [hq1]; exact File.chain_diff _ _) (by rw [hq1]; exact File.within_diff _ _)
  have HOKE : Hid (File.BlocksOk base.length 0 (File.blocks (vs0.map EdV.ed) (vs1.map EdV.ed))) := Lib.hid (by rw [hq0, hq1]; exact File.blocks_ok (File.chain_diff _ _) (File.chain_diff _ _) (File.within_diff _ _) (File.within_diff _ _))
  have HJ : Hid (File.joinGo base 0 (File.blocks (vs0.map EdV.ed) (vs1.map EdV.ed)) = File.join base a b) := Lib.hid (by rw [hq0, hq1]; rfl)
  have HSM : Hid (∀ bl ∈ File.blocks (vs0.map EdV.ed) (vs1.map EdV.ed), SmallC bl.e0 ∧ SmallC bl.e1) := Lib.hid fun bl hbl => by
    obtain ⟨u0, u1⟩ := File.mem_block0 hbl
    exact ⟨⟨Nat.le_trans u0.length_le sm0.many, fun x hx => sm0.old x (u0.subset hx), fun x hx => sm0.new x (u0.subset hx)⟩, ⟨Nat.le_trans u1.length_le sm1.many, fun x hx => sm1.old x (u1.subset hx), fun x hx => sm1.new x (u1.subset hx)⟩⟩
  have HFL := Lib.hid (File.blocks_flat (vs0.map EdV.ed) (vs1.map EdV.ed)).2.2
  have HBL := Lib.hid (blocks_spec C0 d0 C1 d1 vs0 vs1 w4 ho0.sl ho1.sl sm0 sm1 q0 q1)
  have HL50 : Hid ((vs0.map EdV.ed).length + (vs1.map EdV.ed).length ≤ 50) := Lib.hid (by have h1 := sm0.many; have h2 := sm1.many; omega)
  have HK : Hid (∀ x, x ∈ vs0 ∨ x ∈ vs1 → EdOk w4 x) := Lib.hid fun x hx => hx.elim (hk0' x) (hk1 x)
  clear hat q0 q1 sm0 sm1 hk0 hk1 hk0' ho0 ho1 hv0 hv1 hr0 hr1 hfc0 hfc1 hln0 hln1 hq0 hq1 hb3 hb4 hb02 hb03 hd0 hd1
  go_wp2_with fail
  refine HBL.out.mono ?_
  rintro e w5 ⟨v, rs, rfl, hvr, hrb, hin, hb5⟩
  have hb05 := hb04.next hb5 (Nat.le_refl _)
  obtain ⟨C, d, rfl, hd, _⟩ := hvr.form
  have hrl : rs.length ≤ 50 := by
    have h1 := congrArg List.length hrb
    rw [List.length_map] at h1
    have h2 := HFL.out
    have h3 := HL50.out
    omega
  rw [← hrb] at HOKE HJ HSM
  have HIN : Hid (∀ r ∈ rs, Own edE 53 w4.heap.size w5 r.v0 r.e0 ∧ Own edE 53 w4.heap.size w5 r.v1 r.e1 ∧ ∀ x, x ∈ r.e0 ∨ x ∈ r.e1 → EdOk w5 x) := Lib.hid fun r hr => ⟨(hin r hr).1, (hin r hr).2.1, fun x hx => (HK.out x ((hin r hr).2.2 x hx)).below hb5⟩
  have HVR := Lib.hid hvr.sl
  have HB05 := Lib.hid hb05
  have HSB := Lib.hid (hsB.below hb05)
  clear hvr hrb hin hb5 hb04 hb05 HBL HFL HL50 HK hd hsB hsa hsb ga gb gB hca hcb m1 m2
  generalize File.join base a b = J at *
  go_wp2_with fail
  go_loopw [11, 12, 13, 37] (fun vo vc at_ i wr => ∃ (k q : Nat) (out : List ByteArray) (cf : List (Nat × Nat)), k ≤ rs.length ∧ i = iv k ∧ at_ = iv q ∧ q ≤ base.length ∧ Hid (Own strE 9 w5.heap.size wr vo out) ∧ Hid (Own pairE 40 w5.heap.size wr vc cf) ∧ out.length ≤ k * 5000 ∧ cf.length ≤ k ∧
    Hid (File.BlocksOk base.length q ((rs.map BlV.b).drop k)) ∧ Hid (out ++ (File.joinGo base q ((rs.map BlV.b).drop k)).1 = J.1 ∧ cf ++ (File.joinGo base q ((rs.map BlV.b).drop k)).2 = J.2) ∧ Below w5.heap.size w5 wr) (fun _ _ _ i _ => rs.length - (intOf i).toNat)
  case atStart => exact ⟨0, 0, [], [], by omega, rfl, rfl, Nat.zero_le _, Own.nil, Own.nil, by simp, by simp, HOKE.out, by rw [List.drop_zero, HJ.out]; exact ⟨rfl, rfl⟩, Below.refl _ _⟩
  case round =>
    obtain ⟨k, q, out, cf, hk, rfl, rfl, hq, HO, HCF, hol, hcl, HOK, HREL, hbr⟩ := hrel
    by_cases hlt : k < rs.length
    · obtain ⟨bx, ox, x, rfl, hbx, hx, hc0, hc1, hc2, hc3⟩ := Sl.atBl (HVR.out.below hbr) hlt
      have hxm := mem_at hx
      have hdx : (rs.map BlV.b).drop k = x.b :: (rs.map BlV.b).drop (k + 1) := drop_at (by rw [List.getElem?_map, hx]; rfl)
      have hok := HOK.out
      rw [hdx] at hok
      obtain ⟨p1, p2, p3, p4, p5, p6, p7, p8⟩ := hok
      have hrel := HREL.out
      rw [hdx] at hrel
      obtain ⟨sq0, sq1⟩ := HSM.out x.b (List.mem_map_of_mem hxm)
      obtain ⟨i0, i1, i2⟩ := HIN.out x hxm
      obtain ⟨lo, hi, B0, f0, e0, B1, f1, e1⟩ := x
      simp only [BlV.v0, BlV.v1] at hc0 hc1 hc2 hc3 i0 i1 i2
      simp only [BlV.b] at p1 p2 p3 p4 p5 p6 p7 p8 hrel sq0 sq1
      obtain ⟨X, n, ys, hys, hyl, hsy, RC⟩ := cut_run hcB p1 (Nat.le_trans p2 p3) (HSB.out.below hbr)
      have HM : Below wr.heap.size wr (wr.alloc (.cells #[iv (lo : Int), iv (hi : Int), .slice B0 e0.length f0, .slice B1 e1.length f1] 131)) := (Below.refl _ _).alloc (Nat.le_refl _) _
      have hM1 : Blk (wr.alloc (.cells #[iv (lo : Int), iv (hi : Int), .slice B0 e0.length f0, .slice B1 e1.length f1] 131)) wr.heap.size 131 #[iv (lo : Int), iv (hi : Int), .slice B0 e0.length f0, .slice B1 e1.length f1] := Blk.new _ _ _
      have HYS := Lib.hid hys
      have HRL := Lib.hid hrel
      have HP8 := Lib.hid p8
      have hlr : (k : Int) < (rs.length : Int) := by omega
      clear hx hxm hdx HOK HREL hys hrel p8
      go_upto_region 13 with fail
      generalize wr.alloc (.cells #[iv (lo : Int), iv (hi : Int), .slice B0 e0.length f0, .slice B1 e1.length f1] 131) = w6 at *
      have hO6 := HO.out.below HM
      obtain ⟨A6, c6, rfl, hc6, _⟩ := hO6.form
      have hsz := (hbr.trans (HM.mono hbr.size)).size
      have hneO : ∀ b, (Value.slice A6 out.length c6).ownBlock = some b → b < wr.heap.size := fun b hb => (HO.out.lt b hb).2
      have hlob : lo ≤ hi ∧ hi ≤ base.length := ⟨p2, p3⟩
      have m0 := hM1.cell 0
      have m1 := hM1.cell 1
      have m2 := hM1.cell 2
      have m3 := hM1.cell 3
      have ml := hM1.lt
      clear HO
      go_upto_region 15 with (at_builtin; refine wpAppS strE tyStrs rfl _ _ rfl hO6 (hsy.below HM) rfl rfl hsz (by unfold big; omega) ?_; intro v7 w7 hown7 hb7 hk7; have hM7 : Blk w7 wr.heap.size 131 #[iv (lo : Int), iv (hi : Int), .slice B0 e0.length f0, .slice B1 e1.length f1] := (hk7 _ hM1.lt (fun hv => Nat.lt_irrefl _ (hneO _ hv))).trans hM1; have n0 := hM7.cell 0; have n1 := hM7.cell 1; have nl := hM7.lt; clear m0 m1 m2 m3)
      have HCF7 := Lib.hid (HCF.out.below HM |>.keep hb7.size fun b hb => hk7 b ((HCF.out.below HM).lt b hb).2 (Own.two (HCF.out.below HM) hO6 (by decide) hb))
      have hbr7 : Below w5.heap.size w5 w7 := (hbr.trans (HM.mono hbr.size)).trans hb7
      obtain ⟨O7, hO7⟩ : ∃ O7, O7 = out ++ File.cut base q lo := ⟨_, rfl⟩
      have HO7 : Hid (Own strE 9 w5.heap.size w7 v7 O7) := Lib.hid (by rw [hO7, ← HYS.out]; exact hown7)
      have hO7l : O7.length ≤ k * 5000 + 24 := by rw [hO7, ← HYS.out, List.length_append]; omega
      obtain ⟨R, hRR⟩ : ∃ R, R = (rs.map BlV.b).drop (k + 1) := ⟨_, rfl⟩
      rw [← hRR] at HRL HP8
      clear hown7 hO6 hneO hb7 hk7 HM hM1 HCF hsy RC hc6
      obtain ⟨H0, hH0⟩ : ∃ H0, H0 = File.hasGo base hi lo (e0.map EdV.ed) := ⟨_, rfl⟩
      obtain ⟨H1, hH1⟩ : ∃ H1, H1 = File.hasGo base hi lo (e1.map EdV.ed) := ⟨_, rfl⟩
      have HH0 : Hid (∀ x, Below w7.heap.size w7 x → Calls Tryz.prog 84 #[.agg #[iv (lo : Int), iv (hi : Int), .slice B0 e0.length f0, .slice B1 e1.length f1], .slice Ab base.length cb, iv 0] x fun e w' => ∃ v, e = .returned v ∧ Own strE 9 x.heap.size w' v H0 ∧ Below x.heap.size x w') := Lib.hid fun x hx => by
        rw [hH0]
        have hb := hbr7.next hx (Nat.le_refl _)
        exact has0_spec lo hi _ _ _ Ab base cb e0 B0 f0 x (by assumption) hcB p2 p3 sq0 p4 p5 (HSB.out.below hb) ((i0.below hb).sl) (fun r hr => (i2 r (.inl hr)).below hb)
      have HH1 : Hid (∀ x, Below w7.heap.size w7 x → Calls Tryz.prog 84 #[.agg #[iv (lo : Int), iv (hi : Int), .slice B0 e0.length f0, .slice B1 e1.length f1], .slice Ab base.length cb, iv 1] x fun e w' => ∃ v, e = .returned v ∧ Own strE 9 x.heap.size w' v H1 ∧ Below x.heap.size x w') := Lib.hid fun x hx => by
        rw [hH1]
        have hb := hbr7.next hx (Nat.le_refl _)
        exact has1_spec lo hi _ _ _ Ab base cb e1 B1 f1 x (by assumption) hcB p2 p3 sq1 p6 p7 (HSB.out.below hb) ((i1.below hb).sl) (fun r hr => (i2 r (.inr hr)).below hb)
      have hHl : H0.length ≤ 1300 ∧ H1.length ≤ 1300 := by
        have hb24 : base.length ≤ 24 := by assumption
        rw [hH0, hH1]
        have go : ∀ c : List (File.Edit ByteArray), SmallC c → (File.hasGo base hi lo c).length ≤ 1300 := fun c hc => by
          have h1 := File.hasGo_len (base := base) (hi := hi) (M := 24) (c := c) (at_ := lo) hc.new
          have h3 : c.length * (base.length + 24) ≤ 25 * 48 := Nat.mul_le_mul hc.many (by omega)
          omega
        exact ⟨go _ sq0, go _ sq1⟩
      have hmn : ∀ l : List EdV, l.map EdV.ed = [] ↔ l = [] := fun l => by simp
      have HJA : Hid ((e1 = [] ∨ H0 = H1) → (O7 ++ H0) ++ (File.joinGo base hi R).1 = J.1 ∧ cf ++ (File.joinGo base hi R).2 = J.2) := Lib.hid fun hh => by
        have h1 := HRL.out
        unfold File.joinGo at h1
        simp only [← hH0, ← hH1, hmn] at h1
        rw [if_pos hh] at h1
        simpa [hO7, List.append_assoc] using h1
      have HJB : Hid (¬ (e1 = [] ∨ H0 = H1) → e0 = [] → (O7 ++ H1) ++ (File.joinGo base hi R).1 = J.1 ∧ cf ++ (File.joinGo base hi R).2 = J.2) := Lib.hid fun hh hh2 => by
        have h1 := HRL.out
        unfold File.joinGo at h1
        simp only [← hH0, ← hH1, hmn] at h1
        rw [if_neg hh, if_pos hh2] at h1
        simpa [hO7, List.append_assoc] using h1
      have HJC : Hid (¬ (e1 = [] ∨ H0 = H1) → ¬ e0 = [] → (O7 ++ File.cut base lo hi) ++ (File.joinGo base hi R).1 = J.1 ∧ (cf ++ [(lo, hi)]) ++ (File.joinGo base hi R).2 = J.2) := Lib.hid fun hh hh2 => by
        have h1 := HRL.out
        unfold File.joinGo at h1
        simp only [← hH0, ← hH1, hmn] at h1
        rw [if_neg hh, if_neg hh2] at h1
        simpa [hO7, List.append_assoc] using h1
      have HOK9 : Hid (File.BlocksOk base.length hi R) := Lib.hid (HP8.out.weaken (Nat.le_succ _))
      have HRR := Lib.hid hRR
      clear hmn hO7 HRL HP8 HYS hRR
      clear hH0 hH1 i0 i1 i2 sq0 sq1 p4 p5 p6 p7
      refine wp_free_lit (by kernel_rfl) 8 (by kernel_rfl) (by kernel_rfl) (by decide) (fun _ x => Below w7.heap.size w7 x) (fun x x' => Below x.heap.size x x')
        [fun _ u _ => u = .agg #[iv (lo : Int), iv (hi : Int), .slice B0 e0.length f0, .slice B1 e1.length f1],
         fun _ u _ => u = .slice Ab base.length cb,
         fun _ u x => Own strE 9 w7.heap.size x u H0,
         fun _ u _ => u = .agg #[iv (lo : Int), iv (hi : Int), .slice B0 e0.length f0, .slice B1 e1.length f1],
         fun _ u _ => u = .slice Ab base.length cb,
         fun _ u x => Own strE 9 w7.heap.size x u H1,
         fun v u _ => u = .agg #[v 2, v 5],
         fun _ u x => ∃ gb, u = .pointer (some ⟨gb, 0, none⟩) ∧ w7.heap.size ≤ gb ∧ Blk x gb 132 #[.slice none 0 0, .slice none 0 0]]
        (Below.refl _ w7).drew ?_ ?_
      · simp only [List.take_succ_cons, List.take_zero, HopL]
        refine ⟨?_, ?_, ?_, ?_, ?_, ?_, ?_, ?_, trivial⟩
        · refine ⟨fun _ _ _ _ _ h => h, fun _ _ _ _ h _ => h, fun v n x hn hR hk => ?_⟩
          have hMx := hM7.under hR
          have n0 := hMx.cell 0
          have n1 := hMx.cell 1
          have n2 := hMx.cell 2
          have n3 := hMx.cell 3
          have nl := hMx.lt
          simp only [List.take_succ_cons, List.take_zero, frameF, Act.put, List.setIfInBounds_toArray, List.set_cons_zero, List.set_cons_succ]
          exact stepF_val (by rfl) (by go_simp) ⟨rfl, Below.refl _ _, hR⟩
        · refine ⟨fun _ _ _ _ _ h => h, fun _ _ _ _ h _ => h, fun v n x hn hR hk => ?_⟩
          simp only [List.take_succ_cons, List.take_zero, frameF, Act.put, List.setIfInBounds_toArray, List.set_cons_zero, List.set_cons_succ]
          exact stepF_val (by rfl) (by go_simp) ⟨rfl, Below.refl _ _, hR⟩
        · refine ⟨fun _ _ _ _ _ h => h, fun _ _ _ _ h hS => h.below hS, fun v n x hn hR hk => ?_⟩
          have h0 : v 0 = .agg #[iv (lo : Int), iv (hi : Int), .slice B0 e0.length f0, .slice B1 e1.length f1] := hk 0 (by kernel_rfl)
          have h1 : v 1 = .slice Ab base.length cb := hk 1 (by kernel_rfl)
          simp only [List.take_succ_cons, List.take_zero, frameF, Act.put, List.setIfInBounds_toArray, List.set_cons_zero, List.set_cons_succ]
          refine stepF_call (by rfl) (by go_simp) (HH0.out x hR) ?_
          rintro e x' ⟨r, rfl, ho, hb⟩
          exact ⟨_, rfl, ho.base hR.size, hb, hR.next hb (Nat.le_refl _)⟩
        · refine ⟨fun _ _ _ _ _ h => h, fun _ _ _ _ h _ => h, fun v n x hn hR hk => ?_⟩
          have hMx := hM7.under hR
          have n0 := hMx.cell 0
          have n1 := hMx.cell 1
          have n2 := hMx.cell 2
          have n3 := hMx.cell 3
          have nl := hMx.lt
          simp only [List.take_succ_cons, List.take_zero, frameF, Act.put, List.setIfInBounds_toArray, List.set_cons_zero, List.set_cons_succ]
          exact stepF_val (by rfl) (by go_simp) ⟨rfl, Below.refl _ _, hR⟩
        · refine ⟨fun _ _ _ _ _ h => h, fun _ _ _ _ h _ => h, fun v n x hn hR hk => ?_⟩
          simp only [List.take_succ_cons, List.take_zero, frameF, Act.put, List.setIfInBounds_toArray, List.set_cons_zero, List.set_cons_succ]
          exact stepF_val (by rfl) (by go_simp) ⟨rfl, Below.refl _ _, hR⟩
        · refine ⟨fun _ _ _ _ _ h => h, fun _ _ _ _ h hS => h.below hS, fun v n x hn hR hk => ?_⟩
          have h0 : v 3 = .agg #[iv (lo : Int), iv (hi : Int), .slice B0 e0.length f0, .slice B1 e1.length f1] := hk 3 (by kernel_rfl)
          have h1 : v 4 = .slice Ab base.length cb := hk 4 (by kernel_rfl)
          simp only [List.take_succ_cons, List.take_zero, frameF, Act.put, List.setIfInBounds_toArray, List.set_cons_zero, List.set_cons_succ]
          refine stepF_call (by rfl) (by go_simp) (HH1.out x hR) ?_
          rintro e x' ⟨r, rfl, ho, hb⟩
          exact ⟨_, rfl, ho.base hR.size, hb, hR.next hb (Nat.le_refl _)⟩
        · refine ⟨fun v v' u x h hs => ?_, fun _ _ _ _ h _ => h, fun v n x hn hR hk => ?_⟩
          · show u = .agg #[v' 2, v' 5]
            rw [← h 2 (by kernel_rfl), ← h 5 (by kernel_rfl)]
            exact hs
          · have h2 : Own strE 9 w7.heap.size x (v 2) H0 := hk 2 (by kernel_rfl)
            have h5 : Own strE 9 w7.heap.size x (v 5) H1 := hk 5 (by kernel_rfl)
            obtain ⟨X2, k2, e2, _, _⟩ := h2.form
            obtain ⟨X5, k5, e5, _, _⟩ := h5.form
            simp only [List.take_succ_cons, List.take_zero, frameF, Act.put, List.setIfInBounds_toArray, List.set_cons_zero, List.set_cons_succ]
            exact stepF_val (u := .agg #[.slice X2 H0.length k2, .slice X5 H1.length k5]) (by rfl) (by go_simp) ⟨by show _ = Value.agg #[v 2, v 5]; rw [e2, e5], Below.refl _ _, hR⟩
        · refine ⟨fun _ _ _ _ _ h => h, fun v u x x' h hS => ?_, fun v n x hn hR hk => ?_⟩
          · obtain ⟨gb, h1, h2, h3⟩ := h
            exact ⟨gb, h1, h2, h3.under hS⟩
          · simp only [List.take_succ_cons, List.take_zero, frameF, Act.put, List.setIfInBounds_toArray, List.set_cons_zero, List.set_cons_succ]
            exact stepF_new (u := .pointer (some ⟨x.heap.size, 0, none⟩)) (w' := x.alloc (.cells #[.slice none 0 0, .slice none 0 0] 132)) (by rfl) (by go_simp) ⟨⟨x.heap.size, rfl, hR.size, Blk.new _ _ _⟩, (Below.refl _ _).alloc (Nat.le_refl _) _, hR.alloc hR.size _⟩
      · intro v n x hn hR hall
        have h2 : Own strE 9 w7.heap.size x (v 2) H0 := hall 2 (by decide)
        have h5 : Own strE 9 w7.heap.size x (v 5) H1 := hall 5 (by decide)
        have h6 : v 6 = .agg #[v 2, v 5] := hall 6 (by decide)
        have h7 : ∃ gb, v 7 = .pointer (some ⟨gb, 0, none⟩) ∧ w7.heap.size ≤ gb ∧ Blk x gb 132 #[.slice none 0 0, .slice none 0 0] := hall 7 (by decide)
        obtain ⟨gb, h7, hgb, hBx⟩ := h7
        obtain ⟨X2, k2, e2, hk2, _⟩ := h2.form
        obtain ⟨X5, k5, e5, hk5, _⟩ := h5.form
        rw [e2, e5] at h6
        rw [e2] at h2
        rw [e5] at h5
        clear hall
        simp only [List.drop_succ_cons, List.drop_zero, List.take_succ_cons, List.take_zero, frameF, Act.put, List.setIfInBounds_toArray, List.set_cons_zero, List.set_cons_succ, h6, h7]
        clear h6 h7 e2 e5
        have z0 := hBx.cell 0
        have z1 := hBx.cell 1
        have zl := hBx.lt
        have y0 := hBx.frozen 0
        have y1 := hBx.frozen 1
        go_upto_region 18 with fail
        have hbS : Below w7.heap.size w7 ((x.setCell ⟨gb, 0, none⟩ (.slice X2 H0.length k2)).setCell ⟨gb, 1, none⟩ (.slice X5 H1.length k5)) := (hR.setCell (p := ⟨gb, 0, none⟩) hgb _).setCell (p := ⟨gb, 1, none⟩) hgb _
        have hBS : Blk ((x.setCell ⟨gb, 0, none⟩ (.slice X2 H0.length k2)).setCell ⟨gb, 1, none⟩ (.slice X5 H1.length k5)) gb 132 #[.slice X2 H0.length k2, .slice X5 H1.length k5] := (hBx.set_ 0 _).set_ 1 _
        have ho2 := Sl.below (Own.sl (h2.keep (w' := (x.setCell ⟨gb, 0, none⟩ (.slice X2 H0.length k2)).setCell ⟨gb, 1, none⟩ (.slice X5 H1.length k5)) (by simp [World.setCell]) fun b hb => by rw [Below.heap_setCell _ _ _ b (fun e => ownNeBlk h2 hBx (by decide) (by rw [hb, e])), Below.heap_setCell _ _ _ b (fun e => ownNeBlk h2 hBx (by decide) (by rw [hb, e]))])) (Below.refl _ _)
        have ho5 := Sl.below (Own.sl (h5.keep (w' := (x.setCell ⟨gb, 0, none⟩ (.slice X2 H0.length k2)).setCell ⟨gb, 1, none⟩ (.slice X5 H1.length k5)) (by simp [World.setCell]) fun b hb => by rw [Below.heap_setCell _ _ _ b (fun e => ownNeBlk h5 hBx (by decide) (by rw [hb, e])), Below.heap_setCell _ _ _ b (fun e => ownNeBlk h5 hBx (by decide) (by rw [hb, e]))])) (Below.refl _ _)
        generalize (x.setCell ⟨gb, 0, none⟩ (.slice X2 H0.length k2)).setCell ⟨gb, 1, none⟩ (.slice X5 H1.length k5) = wS at *
        have hMS := hM7.under hbS
        have hOS := HO7.out.below hbS
        have hCS := HCF7.out.below hbS
        have hbrS := hbr7.next hbS (Nat.le_refl _)
        clear h2 h5 hBx hR z0 z1 zl y0 y1 n0 n1 nl HO7 HCF7 hbS HH0 HH1 hM7 hgb
        rcases Nat.eq_zero_or_pos e1.length with hz1 | hz1
        · have he1 : e1 = [] := List.eq_nil_of_length_eq_zero hz1
          have HFIN := Lib.hid (HJA.out (.inl he1))
          have s0 := hMS.cell 0
          have s1 := hMS.cell 1
          have s2 := hMS.cell 2
          have s3 := hMS.cell 3
          have sl := hMS.lt
          have t0 := hBS.cell 0
          have t1 := hBS.cell 1
          have tl := hBS.lt
          rw [hz1] at s3
          clear hz1 he1 HJA HJB HJC
          have hsz := hbrS.size
          obtain ⟨A8, c8, rfl, hc8, _⟩ := hOS.form
          go_wp2_with (at_builtin; refine wpAppS strE tyStrs rfl _ _ rfl hOS ho2 rfl rfl hsz (by unfold big; omega) ?_; intro v8 w8 hown8 hb8 hk8)
          go_roundw
          case rel => exact ⟨k + 1, hi, O7 ++ H0, cf, by omega, by go_num, rfl, p3, hown8, hCS.keep hb8.size fun b hb => hk8 b (hCS.lt b hb).2 (Own.two hCS hOS (by decide) hb), by rw [List.length_append]; omega, by omega, by rw [← HRR.out]; exact HOK9.out, by rw [← HRR.out]; exact HFIN.out, hbrS.trans hb8⟩
          case measure => simp [intOf]; omega
        · have he1 : ¬ e1 = [] := fun h => by rw [h] at hz1; exact absurd hz1 (by simp)
          have s0 := hMS.cell 0
          have s1 := hMS.cell 1
          have s2 := hMS.cell 2
          have s3 := hMS.cell 3
          have sl := hMS.lt
          have t0 := hBS.cell 0
          have t1 := hBS.cell 1
          have tl := hBS.lt
          obtain ⟨n1, hn1⟩ : ∃ n1, e1.length = n1 + 1 := ⟨e1.length - 1, by omega⟩
          rw [hn1] at s3
          have HEQ := Lib.hid (equalS X2 H0 k2 X5 H1 k5 wS (by unfold big; omega) ho2 (by unfold big; omega) ho5)
          clear hz1
          have hn1i : (((n1 + 1 : Nat) : Int) == 0) = false := by simp; omega
          by_cases hH : H0 = H1
          · have HFIN := Lib.hid (HJA.out (.inr hH))
            rw [decide_eq_true hH] at HEQ
            clear hH HJA HJB HJC
            go_upto_region 19 with (go_at_call 18; refine HEQ.out.mono ?_; rintro e wE ⟨rfl, hbE⟩)
            have hbrE := hbrS.next hbE (Nat.le_refl _)
            have hOE := hOS.below hbE
            have hCE := hCS.below hbE
            have hoE := ho2.below hbE
            have hME := hMS.under hbE
            have hBE := hBS.under hbE
            clear s0 s1 s2 s3 sl t0 t1 tl
            have s0 := hME.cell 0
            have s1 := hME.cell 1
            have s2 := hME.cell 2
            have s3 := hME.cell 3
            have sl := hME.lt
            have t0 := hBE.cell 0
            have t1 := hBE.cell 1
            have tl := hBE.lt
            have hsz := hbrE.size
            obtain ⟨A8, c8, rfl, hc8, _⟩ := hOE.form
            go_wp2_with (at_builtin; refine wpAppS strE tyStrs rfl _ _ rfl hOE hoE rfl rfl hsz (by unfold big; omega) ?_; intro v8 w8 hown8 hb8 hk8)
            go_roundw
            case rel => exact ⟨k + 1, hi, O7 ++ H0, cf, by omega, by go_num, rfl, p3, hown8, hCE.keep hb8.size fun b hb => hk8 b (hCE.lt b hb).2 (Own.two hCE hOE (by decide) hb), by rw [List.length_append]; omega, by omega, by rw [← HRR.out]; exact HOK9.out, by rw [← HRR.out]; exact HFIN.out, hbrE.trans hb8⟩
            case measure => simp [intOf]; omega
          · have hno : ¬ (e1 = [] ∨ H0 = H1) := fun h => h.elim he1 hH
            rw [decide_eq_false hH] at HEQ
            have HJB2 := Lib.hid (HJB.out hno)
            have HJC2 := Lib.hid (HJC.out hno)
            clear hH HJA HJB HJC hno
            go_upto_region 20 with (go_at_call 18; refine HEQ.out.mono ?_; rintro e wE ⟨rfl, hbE⟩)
            have hbrE := hbrS.next hbE (Nat.le_refl _)
            have hOE := hOS.below hbE
            have hCE := hCS.below hbE
            have hoE := ho5.below hbE
            have hME := hMS.under hbE
            have hBE := hBS.under hbE
            clear s0 s1 s2 s3 sl t0 t1 tl
            have s0 := hME.cell 0
            have s1 := hME.cell 1
            have s2 := hME.cell 2
            have s3 := hME.cell 3
            have sl := hME.lt
            have t0 := hBE.cell 0
            have t1 := hBE.cell 1
            have tl := hBE.lt
            rcases Nat.eq_zero_or_pos e0.length with hz0 | hz0
            · have he0 : e0 = [] := List.eq_nil_of_length_eq_zero hz0
              have HFIN := Lib.hid (HJB2.out he0)
              rw [hz0] at s2
              clear hz0 he0 HJB2 HJC2
              have hsz := hbrE.size
              obtain ⟨A8, c8, rfl, hc8, _⟩ := hOE.form
              go_wp2_with (at_builtin; refine wpAppS strE tyStrs rfl _ _ rfl hOE hoE rfl rfl hsz (by unfold big; omega) ?_; intro v8 w8 hown8 hb8 hk8)
              go_roundw
              case rel => exact ⟨k + 1, hi, O7 ++ H1, cf, by omega, by go_num, rfl, p3, hown8, hCE.keep hb8.size fun b hb => hk8 b (hCE.lt b hb).2 (Own.two hCE hOE (by decide) hb), by rw [List.length_append]; omega, by omega, by rw [← HRR.out]; exact HOK9.out, by rw [← HRR.out]; exact HFIN.out, hbrE.trans hb8⟩
              case measure => simp [intOf]; omega
            · have he0 : ¬ e0 = [] := fun h => by rw [h] at hz0; exact absurd hz0 (by simp)
              obtain ⟨n0, hn0⟩ : ∃ n0, e0.length = n0 + 1 := ⟨e0.length - 1, by omega⟩
              have HFIN := Lib.hid (HJC2.out he0)
              rw [hn0] at s2
              have hn0i : (((n0 + 1 : Nat) : Int) == 0) = false := by simp; omega
              clear hz0 he0 HJB2 HJC2
              obtain ⟨X4, n4, y4, hy4, hyl4, hsy4, RC4⟩ := cut_run hcB p2 p3 (HSB.out.below hbrE)
              rw [← hy4] at HFIN
              clear hy4
              have hsz := hbrE.size
              obtain ⟨A8, c8, rfl, hc8, _⟩ := hOE.form
              go_upto_region 17 with (at_builtin; refine wpAppS strE tyStrs rfl _ _ rfl hOE hsy4 rfl rfl hsz (by unfold big; omega) ?_; intro v8 w8 hown8 hb8 hk8)
              have hC8 := hCE.keep hb8.size fun b hb => hk8 b (hCE.lt b hb).2 (Own.two hCE hOE (by decide) hb)
              have hM8 : Blk w8 wr.heap.size 131 #[iv (lo : Int), iv (hi : Int), .slice B0 e0.length f0, .slice B1 e1.length f1] := (hk8 _ hME.lt (ownNeBlk hOE hME (by decide))).trans hME
              have hbr8 := hbrE.trans hb8
              have hsz8 := hbr8.size
              have HO8 := Lib.hid hown8
              clear s0 s1 s2 s3 sl t0 t1 tl hown8 hb8 hk8 hCE hOE hME hBE hoE hn0 hn1 hn0i hn1i
              have s0 := hM8.cell 0
              have s1 := hM8.cell 1
              have sl := hM8.lt
              have hcl9 : cf.length + 1 ≤ big := by unfold big; omega
              go_wp2_with (at_builtin; refine wpApp1 pairE tySpans rfl _ _ rfl hC8 (lo, hi) rfl rfl rfl hsz8 hcl9 ?_; intro v9 w9 hown9 hb9 hk9)
              go_roundw
              case rel => exact ⟨k + 1, hi, O7 ++ y4, cf ++ [(lo, hi)], by omega, by go_num, rfl, p3, HO8.out.keep hb9.size fun b hb => hk9 b (HO8.out.lt b hb).2 (Own.two HO8.out hC8 (by decide) hb), hown9, by rw [List.length_append]; omega, by rw [List.length_append]; simp; omega, by rw [← HRR.out]; exact HOK9.out, by rw [← HRR.out]; exact HFIN.out, hbr8.trans hb9⟩
              case measure => simp [intOf]; omega
    · obtain rfl : k = rs.length := by omega
      have hd := HREL.out
      rw [List.drop_of_length_le (by rw [List.length_map]; exact Nat.le_refl _)] at hd
      simp only [File.joinGo, List.append_nil] at hd
      obtain ⟨X, n, ys, hys, hyl, hsy, RC⟩ := cut_from hcB hq (HSB.out.below hbr)
      have HYS := Lib.hid hys
      have HD := Lib.hid hd
      have HO2 := HO.out
      obtain ⟨A6, c6, rfl, hc6, _⟩ := HO2.form
      have hsz := hbr.size
      clear hys hd HOK HREL
      have htot : out ++ ys = J.1 := by rw [HYS.out]; exact HD.out.1
      have hcf : cf = J.2 := HD.out.2
      have hjl : J.1.length ≤ 1000000 := by rw [← htot, List.length_append]; omega
      subst hcf
      have HTOT := Lib.hid htot
      clear htot HD
      by_cases h24 : 24 < J.1.length
      · have h24i : (24 : Int) < (J.1.length : Int) := by omega
        have HA : Hid (ans = (2, [], [])) := Lib.hid (by rw [HANS.out, if_pos h24])
        clear h24
        go_wp2_with (at_builtin; refine wpAppS strE tyStrs rfl _ _ rfl HO2 hsy rfl rfl hsz (by unfold big; omega) ?_; intro v7 w7 hown7 hb7 hk7; rw [HTOT.out] at hown7; obtain ⟨A7, c7, rfl, hc7, _⟩ := hown7.form)
        go_ret3
        exact ⟨_, _, by rw [HA.out]; rfl, by rw [HA.out]; exact Own.nil, by rw [HA.out]; exact Own.nil, HB05.out.next (hbr.trans hb7) (Nat.le_refl _)⟩
      · have h24i : ¬ (24 : Int) < (J.1.length : Int) := by omega
        have HA : Hid (ans = (0, J.1, J.2)) := Lib.hid (by rw [HANS.out, if_neg h24])
        clear h24
        go_wp2_with (at_builtin; refine wpAppS strE tyStrs rfl _ _ rfl HO2 hsy rfl rfl hsz (by unfold big; omega) ?_; intro v7 w7 hown7 hb7 hk7; rw [HTOT.out] at hown7; obtain ⟨A7, c7, rfl, hc7, _⟩ := hown7.form)
        go_ret3
        exact ⟨_, _, by rw [HA.out]; rfl, by rw [HA.out]; exact hown7.base HB05.out.size, by rw [HA.out]; exact Own.base (HCF.out.keep hb7.size fun b hb => hk7 b (HCF.out.lt b hb).2 (Own.two HCF.out HO2 (by decide) hb)) HB05.out.size, HB05.out.next (hbr.trans hb7) (Nat.le_refl _)⟩
end Fl
end Go.Proofs.YtekkhnjepcebkaaGreatDoor
