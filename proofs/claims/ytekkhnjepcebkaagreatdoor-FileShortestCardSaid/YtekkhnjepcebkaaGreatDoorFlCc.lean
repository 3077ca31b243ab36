/- Package file: the error of a change. Conditions: few edits, lengths are below a great bound. -/
import Derived.Test.YtekkhnjepcebkaaGreatDoorFlW
import Derived.Test.YtekkhnjepcebkaaGreatDoorFlP
import Derived.Test.YtekkhnjepcebkaaGreatDoorFree
import Derived.Test.YtekkhnjepcebkaaGreatDoorCopyE
set_option linter.unusedVariables false
set_option linter.unusedSimpArgs false
namespace Go.Proofs.YtekkhnjepcebkaaGreatDoor
namespace File
def atOk (x : Edit ByteArray) : Bool := inr x.at_
def szOk (x : Edit ByteArray) : Bool := decide (x.old.length ≤ 24) && (decide (x.new.length ≤ 24) && decide (0 < x.old.length + x.new.length))
def allLines (c : List (Edit ByteArray)) : List ByteArray := c.flatMap fun x => x.old ++ x.new
def ordered : List (Edit ByteArray) → Bool
  | x :: y :: r => !decide (y.at_ ≤ x.at_ + (x.old.length : Int)) && ordered (y :: r)
  | _ => true
/-- The error of a change. -/
def checkChange (c : List (Edit ByteArray)) : Int := if c.all atOk then (if c.all szOk then (if lined (allLines c) = 0 then (if ordered c then 0 else 4) else lined (allLines c)) else 2) else 3
end File
namespace Fl
open Go.RowKit
set_option maxRecDepth 100000
set_option maxRecDepth 100000 in
theorem indexEd (A : Option Addr) (l : List EdV) (c : Nat) (K : Nat) (cap : Array Value) (p : EdV → Bool) (w : World) (hm : l.length ≤ big) (hs : Sl edE w A l)
    (hf : IsPred Tryz.prog w K cap EdV.v l p) :
    Calls Tryz.prog 150 #[.slice A l.length c, .func (.func K) #[] cap] w
    fun e w' => e = .returned (iv (findFrom p l 0)) ∧ Below w.heap.size w w' := by
  unfold big at hm
  obtain ⟨hK, hf⟩ := hf
  have HF := Lib.hid hf
  clear hf
  go_enter Tryz.func150, Tryz.ntmps150
  go_wp2
  go_loopw [5, 8] (fun u i wr => ∃ (k : Nat), k ≤ l.length ∧ i = iv k ∧ Hid (findFrom p (l.drop k) k = findFrom p l 0) ∧ Below w.heap.size w wr) (fun _ i _ => l.length - (intOf i).toNat)
  case atStart => exact ⟨0, by omega, rfl, rfl, Below.refl _ _⟩
  case round =>
    obtain ⟨k, hk, rfl, hr, hbw⟩ := hrel
    have hs1 := hs.below hbw
    by_cases hlt : k < l.length
    · obtain ⟨b, off, x, rfl, hb, hx, hc0, hc1, hc2⟩ := Sl.atEd hs1 hlt
      have hd := hr.out
      rw [drop_at hx] at hd
      simp only [findFrom] at hd
      have HD := Lib.hid hd
      clear hd
      cases hp : p x
      · go_wp2_with fail
        refine (HF.out x (mem_at hx) wr hbw).mono ?_
        rintro e w1 ⟨rfl, hb1⟩
        rw [hp]
        go_wp2_with fail
        go_roundw
        case rel => exact ⟨k + 1, by omega, by go_num, by have := HD.out; rw [hp] at this; exact this, hbw.next hb1 (Nat.le_refl _)⟩
        case measure => simp [intOf]; omega
      · go_wp2_with fail
        refine (HF.out x (mem_at hx) wr hbw).mono ?_
        rintro e w1 ⟨rfl, hb1⟩
        rw [hp]
        go_wp2_with fail
        go_ret
        exact ⟨ret_eq (by have := HD.out; rw [hp] at this; rw [← this]; rfl), hbw.next hb1 (Nat.le_refl _)⟩
    · have hd := hr.out
      rw [drop_end hlt] at hd
      have HD := Lib.hid hd
      clear hd
      go_wp2
      go_ret
      exact ⟨ret_eq (by rw [← HD.out]; rfl), hbw⟩
theorem containsEd (A : Option Addr) (l : List EdV) (c : Nat) (K : Nat) (cap : Array Value) (p : EdV → Bool) (w : World) (hm : l.length ≤ big) (hs : Sl edE w A l)
    (hf : IsPred Tryz.prog w K cap EdV.v l p) :
    Calls Tryz.prog 89 #[.slice A l.length c, .func (.func K) #[] cap] w
    fun e w' => e = .returned (.bool (l.any p)) ∧ Below w.heap.size w w' := by
  have HF := Lib.hid hf
  clear hf
  go_enter Tryz.func89, Tryz.ntmps89
  go_wp2_with (go_at_call 150; refine (indexEd A l c K cap p _ hm hs HF.out).mono ?_; rintro e w1 ⟨rfl, hb1⟩)
  go_ret
  exact ⟨ret_eq (by rw [← findFrom_nonneg p l 0 (by omega)]; rfl), hb1⟩
set_option maxRecDepth 100000 in
theorem notEd (K : Nat) (cap : Array Value) (p : EdV → Bool) (w0 w : World) (x : EdV) (l : List EdV) (g : Nat) (hx : x ∈ l) (hg : g < w.heap.size) (hc : w.cell? ⟨g, 0, none⟩ = some (.func (.func K) #[] cap)) (hb : Below w0.heap.size w0 w) (hf : IsPred Tryz.prog w0 K cap EdV.v l p) :
    Calls Tryz.prog 151 #[EdV.v x, .pointer (some ⟨g, 0, none⟩)] w fun e w' => e = .returned (.bool (!p x)) ∧ Below w.heap.size w w' := by
  obtain ⟨hK, hf⟩ := hf
  have HF := Lib.hid (fun w' (h : Below w.heap.size w w') => hf x hx w' (hb.next h (Nat.le_refl _)))
  clear hf hx
  obtain ⟨a, A1, c1, o1, A2, c2, n1⟩ := x; simp only [EdV.v] at HF ⊢
  go_enter Tryz.func151, Tryz.ntmps151
  go_wp2_with fail
  refine (HF.out _ ((Below.refl _ _).alloc (Nat.le_refl _) _)).mono ?_
  rintro e w1 ⟨rfl, hb1⟩
  go_wp2_with fail
  go_ret
  exact ⟨rfl, hb1.of_alloc⟩
set_option maxRecDepth 100000 in
theorem everyEd (A : Option Addr) (l : List EdV) (c : Nat) (K : Nat) (cap : Array Value) (p : EdV → Bool) (w : World) (hm : l.length ≤ big) (hs : Sl edE w A l)
    (hf : IsPred Tryz.prog w K cap EdV.v l p) :
    Calls Tryz.prog 93 #[.slice A l.length c, .func (.func K) #[] cap] w
    fun e w' => e = .returned (.bool (l.all p)) ∧ Below w.heap.size w w' := by
  have HF := Lib.hid hf
  clear hf
  have hsf := fun (a : Addr) (c : Array Value) (w : World) => run_store Tryz.prog w a (.func (.func K) #[] c) .plain rfl
  have hmf : ∀ (fn : Fn) (first cap : Array Value) (w : World), (Instr.makeFunc fn first cap).run Tryz.prog w = .ok (.func fn first cap) w := fun _ _ _ _ => rfl
  go_enter Tryz.func93, Tryz.ntmps93
  go_wp2_with (go_at_call 89; refine (containsEd A l c 151 #[.pointer (some ⟨w.heap.size, 0, none⟩)] (fun x => !p x) _ hm (hs.alloc _) ⟨callFunc_run (by kernel_rfl), fun x hx w' hw' => notEd K cap p w w' x l w.heap.size hx (by have := hw'.size; simp at this; omega) ((hw'.cell (by simp)).trans (by simp [go_sem])) hw'.of_alloc HF.out⟩).mono ?_; rintro e w1 ⟨rfl, hb1⟩)
  go_ret
  exact ⟨ret_eq (by rw [List.not_any_eq_all_not]; simp), hb1.of_alloc⟩
theorem cc1_spec (x : EdV) (w : World) : Calls Tryz.prog 94 #[x.v] w fun e w' => e = .returned (.bool (File.atOk x.ed)) ∧ Below w.heap.size w w' := by
  obtain ⟨a, A1, c1, o1, A2, c2, n1⟩ := x
  have HI := Lib.hid (in_spec a)
  unfold EdV.v
  go_enter Tryz.func94, Tryz.ntmps94
  go_wp2_with (go_at_call 95; refine (HI.out _).mono ?_; rintro e w1 ⟨rfl, rfl⟩)
  go_ret
  exact ⟨rfl, (Below.refl _ _).alloc (Nat.le_refl _) _⟩
theorem cc2_spec (x : EdV) (w : World) (h1 : x.old.length ≤ big) (h2 : x.new.length ≤ big) : Calls Tryz.prog 96 #[x.v] w fun e w' => e = .returned (.bool (File.szOk x.ed)) ∧ Below w.heap.size w w' := by
  obtain ⟨a, A1, c1, o1, A2, c2, n1⟩ := x
  have hz : File.szOk (EdV.ed ⟨a, A1, c1, o1, A2, c2, n1⟩) = (decide (o1.length ≤ 24) && (decide (n1.length ≤ 24) && decide (0 < o1.length + n1.length))) := rfl
  rw [hz]
  clear hz
  unfold EdV.v
  simp only at h1 h2 ⊢
  unfold big at h1 h2
  by_cases k1 : o1.length ≤ 24
  · have i1 : (o1.length : Int) ≤ 24 := by omega
    by_cases k2 : n1.length ≤ 24
    · have i2 : (n1.length : Int) ≤ 24 := by omega
      have hd : decide (0 < o1.length + n1.length) = decide ((0 : Int) < (o1.length : Int) + (n1.length : Int)) := by rw [decide_eq_decide]; omega
      rw [decide_eq_true k1, decide_eq_true k2, hd]
      clear hd
      go_enter Tryz.func96, Tryz.ntmps96
      go_wp2_with fail
      go_ret
      exact ⟨by simp, (Below.refl _ _).alloc (Nat.le_refl _) _⟩
    · have i2 : ¬ (n1.length : Int) ≤ 24 := by omega
      rw [decide_eq_true k1, decide_eq_false k2]
      go_enter Tryz.func96, Tryz.ntmps96
      go_wp2_with fail
      go_ret
      exact ⟨rfl, (Below.refl _ _).alloc (Nat.le_refl _) _⟩
  · have i1 : ¬ (o1.length : Int) ≤ 24 := by omega
    rw [decide_eq_false k1]
    go_enter Tryz.func96, Tryz.ntmps96
    go_wp2_with fail
    go_ret
    exact ⟨rfl, (Below.refl _ _).alloc (Nat.le_refl _) _⟩
theorem any_ed (vs : List EdV) (p : File.Edit ByteArray → Bool) : (vs.all fun r => p r.ed) = (vs.map EdV.ed).all p := by rw [List.all_map]; rfl
set_option maxHeartbeats 8000000 in
theorem cc_spec (A : Option Addr) (vs : List EdV) (c : Nat) (w : World) (hm : vs.length ≤ 1000) (hs : Sl edE w A vs) (hok : ∀ r ∈ vs, EdOk w r) (hb1 : ∀ r ∈ vs, r.old.length ≤ big ∧ r.new.length ≤ big) :
    Calls Tryz.prog 34 #[.slice A vs.length c] w fun e w' => e = .returned (iv (File.checkChange (vs.map EdV.ed))) ∧ Below w.heap.size w w' := by
  have hbig : vs.length ≤ big := by unfold big; omega
  have HE1 := Lib.hid (everyEd A vs c 94 #[] (fun r => File.atOk r.ed) w hbig hs ⟨callFunc_run (by kernel_rfl), fun x hx w' hw' => cc1_spec x w'⟩)
  have HE2 := Lib.hid (fun W (h : Below w.heap.size w W) => everyEd A vs c 96 #[] (fun r => File.szOk r.ed) W hbig (hs.below h) ⟨callFunc_run (by kernel_rfl), fun x hx w' hw' => cc2_spec x w' (hb1 x hx).1 (hb1 x hx).2⟩)
  rw [any_ed] at HE1
  simp only [any_ed] at HE2
  obtain ⟨ans, hans⟩ : ∃ ans, ans = File.checkChange (vs.map EdV.ed) := ⟨_, rfl⟩
  rw [← hans]
  unfold File.checkChange at hans
  cases ha1 : (vs.map EdV.ed).all File.atOk
  · rw [ha1] at HE1
    have HA : Hid (ans = 3) := Lib.hid (by rw [hans, ha1]; rfl)
    clear hans ha1
    go_enter Tryz.func34, Tryz.ntmps34
    go_wp2_with fail
    refine HE1.out.mono ?_
    rintro _ w1 ⟨rfl, hb⟩
    go_wp2_with fail
    go_ret
    exact ⟨ret_eq (by rw [HA.out]; rfl), hb⟩
  · rw [ha1] at HE1
    cases ha2 : (vs.map EdV.ed).all File.szOk
    · simp only [ha2] at HE2
      have HA : Hid (ans = 2) := Lib.hid (by rw [hans, ha1, ha2]; rfl)
      clear hans ha1 ha2
      go_enter Tryz.func34, Tryz.ntmps34
      go_wp2_with fail
      refine HE1.out.mono ?_
      rintro _ w1 ⟨rfl, hb⟩
      go_wp2_with fail
      refine (HE2.out w1 hb).mono ?_
      rintro _ w2 ⟨rfl, hb2⟩
      go_wp2_with fail
      go_ret
      exact ⟨ret_eq (by rw [HA.out]; rfl), hb.next hb2 (Nat.le_refl _)⟩
    · simp only [ha2] at HE2
      have HSZ : Hid (∀ r ∈ vs, 0 ≤ r.at_ ∧ r.at_ ≤ 24 ∧ r.old.length ≤ 24 ∧ r.new.length ≤ 24) := Lib.hid fun r hr => by
        have h1 := List.all_eq_true.1 ha1 r.ed (List.mem_map_of_mem hr)
        have h2 := List.all_eq_true.1 ha2 r.ed (List.mem_map_of_mem hr)
        have k1 : (decide (0 ≤ r.at_) && decide (r.at_ ≤ 24)) = true := h1
        have k2 : (decide (r.old.length ≤ 24) && (decide (r.new.length ≤ 24) && decide (0 < r.old.length + r.new.length))) = true := h2
        rw [Bool.and_eq_true, decide_eq_true_eq, decide_eq_true_eq] at k1
        rw [Bool.and_eq_true, Bool.and_eq_true, decide_eq_true_eq, decide_eq_true_eq] at k2
        exact ⟨k1.1, k1.2, k2.1, k2.2.1⟩
      have HA : Hid (ans = if File.lined (File.allLines (vs.map EdV.ed)) = 0 then (if File.ordered (vs.map EdV.ed) then 0 else 4) else File.lined (File.allLines (vs.map EdV.ed))) := Lib.hid (by rw [hans, ha1, ha2]; rfl)
      have HOK := Lib.hid hok
      clear hans ha1 ha2 hok hb1
      go_enter Tryz.func34, Tryz.ntmps34
      go_wp2_with fail
      refine HE1.out.mono ?_
      rintro _ w1 ⟨rfl, hb⟩
      go_wp2_with fail
      refine (HE2.out w1 hb).mono ?_
      rintro _ w2 ⟨rfl, hb2⟩
      have hb02 := hb.next hb2 (Nat.le_refl _)
      clear HE1 HE2 hb hb2
      go_wp2_with fail
      go_loopw [3, 5, 18] (fun v _ i wr => ∃ (k : Nat) (acc : List ByteArray), k ≤ vs.length ∧ i = iv k ∧ Hid (Own strE 9 w2.heap.size wr v acc) ∧ Hid (acc ++ File.allLines ((vs.map EdV.ed).drop k) = File.allLines (vs.map EdV.ed)) ∧ acc.length ≤ k * 48 ∧ Below w2.heap.size w2 wr) (fun _ _ i _ => vs.length - (intOf i).toNat)
      case atStart => exact ⟨0, [], by omega, rfl, Own.nil, rfl, by simp, Below.refl _ _⟩
      case round =>
        obtain ⟨k, acc, hk, rfl, HO, HL, hal, hbr⟩ := hrel
        by_cases hlt : k < vs.length
        · have hki : (k : Int) < (vs.length : Int) := by omega
          have hb0r := hb02.next hbr (Nat.le_refl _)
          obtain ⟨b, off, x, rfl, hb0, hx, hc0, hc1, hc2⟩ := Sl.atEd (hs.below hb0r) hlt
          have hxok := (HOK.out x (mem_at hx)).below hb0r
          have HXO0 : Hid (∀ z : World, Below w2.heap.size w2 z → Sl strE z x.A x.old) := Lib.hid fun z h => ((HOK.out x (mem_at hx)).below (hb02.next h (Nat.le_refl _))).old
          have HXN0 : Hid (∀ z : World, Below w2.heap.size w2 z → Sl strE z x.A' x.new) := Lib.hid fun z h => ((HOK.out x (mem_at hx)).below (hb02.next h (Nat.le_refl _))).new
          have hxs := HSZ.out x (mem_at hx)
          have hL := HL.out
          rw [show (vs.map EdV.ed).drop k = x.ed :: (vs.map EdV.ed).drop (k + 1) from drop_at (by rw [List.getElem?_map, hx]; rfl)] at hL
          have HLN : Hid ((acc ++ x.old ++ x.new) ++ File.allLines ((vs.map EdV.ed).drop (k + 1)) = File.allLines (vs.map EdV.ed)) := Lib.hid (by
            rw [← hL]; simp [File.allLines, EdV.ed])
          obtain ⟨xa, xA, xc, xo, xA', xc', xn⟩ := x
          simp only at hc0 hc1 hc2 hxs HLN HXO0 HXN0
          have hbM : Below wr.heap.size wr (wr.alloc (.cells #[iv xa, .slice xA xo.length xc, .slice xA' xn.length xc'] 53)) := (Below.refl _ _).alloc (Nat.le_refl _) _
          have hM : Blk (wr.alloc (.cells #[iv xa, .slice xA xo.length xc, .slice xA' xn.length xc'] 53)) wr.heap.size 53 #[iv xa, .slice xA xo.length xc, .slice xA' xn.length xc'] := Blk.new _ _ _
          obtain ⟨Ax, cx, rfl, _, _⟩ := HO.out.form
          go_upto_region 9 with fail
          generalize wr.alloc (.cells #[iv xa, .slice xA xo.length xc, .slice xA' xn.length xc'] 53) = w4 at *
          have l1 := hM.lt
          have HO4 := Lib.hid ((HO.out.below hbM).below (Below.refl w4.heap.size w4).drew)
          have HNEB : Hid ((Value.slice Ax acc.length cx).ownBlock ≠ some wr.heap.size) := Lib.hid fun e => Nat.lt_irrefl _ (HO.out.lt _ e).2
          have HS0 : Hid (∀ z : World, Below w2.heap.size w4 z ∧ z.heap[wr.heap.size]? = w4.heap[wr.heap.size]? → Below w2.heap.size w4 z ∧ (z.cell? ⟨wr.heap.size, 0, none⟩ = some (iv xa) ∧ z.cell? ⟨wr.heap.size, 1, none⟩ = some (.slice xA xo.length xc) ∧ z.cell? ⟨wr.heap.size, 2, none⟩ = some (.slice xA' xn.length xc'))) := Lib.hid fun z h => by
            have hz : Blk z wr.heap.size 53 #[iv xa, .slice xA xo.length xc, .slice xA' xn.length xc'] := h.2.trans hM
            exact ⟨h.1, hz.cell 0, hz.cell 1, hz.cell 2⟩
          have HK0 := Lib.hid (HS0.out w4.drew ⟨(Below.refl _ _).drew, rfl⟩)
          have HX0 : Hid (Below w2.heap.size w4 w4.drew ∧ w4.drew.heap[wr.heap.size]? = w4.heap[wr.heap.size]?) := Lib.hid ⟨(Below.refl _ _).drew, rfl⟩
          have hb24 : Below w2.heap.size w2 w4 := hbr.trans (hbM.mono hbr.size)
          have HOL : Hid (∀ z : World, Below w2.heap.size w4 z → Sl strE z xA xo) := Lib.hid fun z h => HXO0.out z (hb24.trans h)
          have HNE : Hid (∀ z : World, Below w2.heap.size w4 z → Sl strE z xA' xn) := Lib.hid fun z h => HXN0.out z (hb24.trans h)
          have HZ4 := Lib.hid hb24.size
          have HB24 := Lib.hid hb24
          have HBG : Hid (acc.length + xo.length ≤ big) := Lib.hid (by unfold big; omega)
          have HBG2 : Hid ((acc ++ xo).length + xn.length ≤ big) := Lib.hid (by rw [List.length_append]; unfold big; omega)
          have HBM : Hid (∀ z : World, Hid (Below w2.heap.size w4 z ∧ z.heap[wr.heap.size]? = w4.heap[wr.heap.size]?) → Blk z wr.heap.size 53 #[iv xa, .slice xA xo.length xc, .slice xA' xn.length xc']) := Lib.hid fun z h => h.out.2.trans hM
          have HZX : Hid (∀ z : World, Hid (Below w2.heap.size w4 z ∧ z.heap[wr.heap.size]? = w4.heap[wr.heap.size]?) → w4.heap.size ≤ z.heap.size) := Lib.hid fun z h => h.out.1.size
          clear hM HO hbM hb24 hb0r hxok hbr
          go_region_held3 (fun z => Below w2.heap.size w4 z ∧ (z.cell? ⟨wr.heap.size, 0, none⟩ = some (iv xa) ∧ z.cell? ⟨wr.heap.size, 1, none⟩ = some (.slice xA xo.length xc) ∧ z.cell? ⟨wr.heap.size, 2, none⟩ = some (.slice xA' xn.length xc')))
            (first | with_reducible assumption | exact HK0.out | exact HS0.out _ HX2.out | exact HS0.out _ HX1.out)
            (first
              | (refine stepAppA strE tyStrs (by rfl) _ _ (by rfl) HO4.out (HOL.out _ HX0.out.1) rfl (by rfl) (by rfl) HZ4.out HBG.out ?_; intro v1 x1 ho1 hbx1 hkx1; have HX1 : Hid (Below w2.heap.size w4 x1 ∧ x1.heap[wr.heap.size]? = w4.heap[wr.heap.size]?) := Lib.hid ⟨HX0.out.1.trans hbx1, hkx1 _ l1 HNEB.out⟩; have HO1 := Lib.hid ho1; have HZ1 := Lib.hid (Nat.le_trans HZ4.out HX1.out.1.size); clear ho1 hbx1 hkx1)
              | (refine stepAppA strE tyStrs (by rfl) _ _ (by rfl) HO1.out (HNE.out _ HX1.out.1) rfl (by rfl) (by rfl) HZ1.out HBG2.out ?_; intro v2 x2 ho2 hbx2 hkx2; have HX2 : Hid (Below w2.heap.size w4 x2 ∧ x2.heap[wr.heap.size]? = w4.heap[wr.heap.size]?) := Lib.hid ⟨HX1.out.1.trans hbx2, (hkx2 _ (Nat.lt_of_lt_of_le l1 (HZX.out _ HX1)) (ownNeBlk HO1.out (HBM.out _ HX1) (by decide))).trans HX1.out.2⟩; have HO2 := Lib.hid ho2; clear ho2 hbx2 hkx2))
          all_goals
            go_wp2_with fail
            go_roundw
            case rel => exact ⟨k + 1, acc ++ xo ++ xn, by omega, by go_num, HO2, HLN, by simp only [List.length_append]; omega, HB24.out.trans HX2.out.1⟩
            case measure => simp [intOf]; omega
        · have hki : ¬ (k : Int) < (vs.length : Int) := by omega
          have hL := HL.out
          rw [show (vs.map EdV.ed).drop k = [] from List.drop_eq_nil_of_le (by rw [List.length_map]; omega)] at hL
          simp only [File.allLines, List.flatMap_nil, List.append_nil] at hL
          obtain ⟨Ax, cx, rfl, _, _⟩ := HO.out.form
          have hacc : acc.length ≤ big := by unfold big; omega
          have HLD := Lib.hid (lined_spec Ax acc cx wr hacc HO.out.sl)
          have hall : acc = File.allLines (vs.map EdV.ed) := hL
          rw [← hall] at HA
          have hb0r := hb02.next hbr (Nat.le_refl _)
          clear HL hL HO hall hbr hal hacc
          by_cases hz : File.lined acc = 0
          · rw [if_pos hz] at HA
            rw [hz] at HLD
            clear hz
            go_wp2_with fail
            refine HLD.out.mono ?_
            rintro _ w5 ⟨rfl, hb5⟩
            have hb05 := hb0r.next hb5 (Nat.le_refl _)
            clear HLD hb5 hb0r
            go_wp2_with fail
            go_loopw [7] (fun i wr => ∃ q : Nat, i = iv ((q : Int) + 1) ∧ (q = 0 ∨ q < vs.length) ∧ Hid (File.ordered ((vs.map EdV.ed).drop q) = File.ordered (vs.map EdV.ed)) ∧ Below w5.heap.size w5 wr) (fun i _ => vs.length + 1 - (intOf i).toNat)
            case atStart => exact ⟨0, rfl, .inl rfl, rfl, Below.refl _ _⟩
            case round =>
              obtain ⟨q, rfl, hq, HOR, hbr⟩ := hrel
              have hb0r := hb05.next hbr (Nat.le_refl _)
              by_cases hlt : q + 1 < vs.length
              · obtain ⟨k, hk⟩ : ∃ k, k = q + 1 := ⟨_, rfl⟩
                have hkq : (q : Int) + 1 = (k : Int) := by omega
                rw [← hk] at hlt
                have hki : (k : Int) < (vs.length : Int) := by omega
                obtain ⟨b, off, y, rfl, hb0, hy, hc0, _, _⟩ := Sl.atEd (hs.below hb0r) hlt
                obtain ⟨b', off', x0, hA', _, hx, hd0, hd1, _⟩ := Sl.atEd (hs.below hb0r) (show q < vs.length by omega)
                injection hA' with hA'
                injection hA' with e1 e2 _
                subst e1; subst e2
                have hxs := HSZ.out x0 (mem_at hx)
                have hys := HSZ.out y (mem_at hy)
                have hd := HOR.out
                rw [show (vs.map EdV.ed).drop q = x0.ed :: (vs.map EdV.ed).drop (q + 1) from drop_at (by rw [List.getElem?_map, hx]; rfl), show (vs.map EdV.ed).drop (q + 1) = y.ed :: (vs.map EdV.ed).drop (k + 1) from by rw [← hk]; exact drop_at (by rw [List.getElem?_map, hy]; rfl), File.ordered] at hd
                have HXC : Hid (∀ x, Below wr.heap.size wr x → x.cell? ⟨b, off + q * 3, none⟩ = some (iv x0.at_) ∧ x.cell? ⟨b, off + q * 3 + 1, none⟩ = some (.slice x0.A x0.old.length x0.c)) := Lib.hid fun x h => ⟨(h.cell (p := ⟨b, off + q * 3, none⟩) hb0).trans hd0, (h.cell (p := ⟨b, off + q * 3 + 1, none⟩) hb0).trans hd1⟩
                have HYC : Hid (∀ x, Below wr.heap.size wr x → x.cell? ⟨b, off + k * 3, none⟩ = some (iv y.at_)) := Lib.hid fun x h => (h.cell (p := ⟨b, off + k * 3, none⟩) hb0).trans hc0
                obtain ⟨nb, hnb⟩ : ∃ nb, nb = decide (y.at_ ≤ x0.at_ + (x0.old.length : Int)) := ⟨_, rfl⟩
                have hnb' : decide (y.at_ ≤ x0.at_ + (x0.old.length : Int)) = nb := hnb.symm
                have HD : Hid ((!nb && File.ordered (y.ed :: (vs.map EdV.ed).drop (k + 1))) = File.ordered (vs.map EdV.ed)) := Lib.hid (by rw [hnb]; exact hd)
                have HKD : Hid ((vs.map EdV.ed).drop k = y.ed :: (vs.map EdV.ed).drop (k + 1)) := Lib.hid (drop_at (by rw [List.getElem?_map, hy]; rfl))
                have eq1 : IntKind.i64.wrap ((k : Int) - 1) = (q : Int) := by rw [show (k : Int) - 1 = (q : Int) by omega]; exact IntWalk.i64_in _ (by omega)
                have eq2 : (k : Int) - 1 = (q : Int) := by omega
                have eq3 : IntKind.i64.wrap (q : Int) = (q : Int) := IntWalk.i64_in _ (by omega)
                have eq4 : IntKind.i64.wrap (x0.at_ + (x0.old.length : Int)) = x0.at_ + (x0.old.length : Int) := IntWalk.i64_in _ (by omega)
                have hqi : (q : Int) < (vs.length : Int) := by omega
                have hql : q < vs.length := by omega
                have HKQ := Lib.hid hk
                rw [hkq]
                clear hd hc0 hd0 hd1 hx hy hk hkq HOR hq hnb HSZ HOK
                go_wp2_with fail
                refine wp_free_lit (by kernel_rfl) 20 (by kernel_rfl) (by kernel_rfl) (by decide) (fun _ x => Below wr.heap.size wr x) (fun x x' => Below x.heap.size x x')
                  [fun _ u _ => u = .slice (some ⟨b, off, none⟩) vs.length c,
                   fun _ u _ => u = iv (k : Int),
                   fun _ u _ => u = .pointer (some ⟨b, off + k * 3, none⟩),
                   fun _ u _ => u = .pointer (some ⟨b, off + k * 3, none⟩),
                   fun _ u _ => u = iv y.at_,
                   fun _ u _ => u = .slice (some ⟨b, off, none⟩) vs.length c,
                   fun _ u _ => u = iv (k : Int),
                   fun _ u _ => u = iv (q : Int),
                   fun _ u _ => u = .pointer (some ⟨b, off + q * 3, none⟩),
                   fun _ u _ => u = .pointer (some ⟨b, off + q * 3, none⟩),
                   fun _ u _ => u = iv x0.at_,
                   fun _ u _ => u = .slice (some ⟨b, off, none⟩) vs.length c,
                   fun _ u _ => u = iv (k : Int),
                   fun _ u _ => u = iv (q : Int),
                   fun _ u _ => u = .pointer (some ⟨b, off + q * 3, none⟩),
                   fun _ u _ => u = .pointer (some ⟨b, off + q * 3 + 1, none⟩),
                   fun _ u _ => u = .slice x0.A x0.old.length x0.c,
                   fun _ u _ => u = iv (x0.old.length : Int),
                   fun _ u _ => u = iv (x0.at_ + (x0.old.length : Int)),
                   fun _ u _ => u = .bool nb]
                  (Below.refl _ wr).drew ?_ ?_
                · simp only [List.take_succ_cons, List.take_zero, HopL]
                  refine ⟨?_, ?_, ?_, ?_, ?_, ?_, ?_, ?_, ?_, ?_, ?_, ?_, ?_, ?_, ?_, ?_, ?_, ?_, ?_, ?_, trivial⟩
                  · refine ⟨fun _ _ _ _ _ h => h, fun _ _ _ _ h _ => h, fun v n x hn hR hk => ?_⟩
                    simp only [List.take_succ_cons, List.take_zero, frameF, Act.put, List.setIfInBounds_toArray, List.set_cons_zero, List.set_cons_succ]
                    exact stepF_val (by first | rfl | simp [Region.wanted, yielded, *]) (by go_simp <;> omega) ⟨rfl, Below.refl _ _, hR⟩
                  · refine ⟨fun _ _ _ _ _ h => h, fun _ _ _ _ h _ => h, fun v n x hn hR hk => ?_⟩
                    simp only [List.take_succ_cons, List.take_zero, frameF, Act.put, List.setIfInBounds_toArray, List.set_cons_zero, List.set_cons_succ]
                    exact stepF_val (by first | rfl | simp [Region.wanted, yielded, *]) (by go_simp <;> omega) ⟨rfl, Below.refl _ _, hR⟩
                  · refine ⟨fun _ _ _ _ _ h => h, fun _ _ _ _ h _ => h, fun v n x hn hR hk => ?_⟩
                    have h0 : v 0 = .slice (some ⟨b, off, none⟩) vs.length c := hk 0 (by kernel_rfl)
                    have h1 : v 1 = iv (k : Int) := hk 1 (by kernel_rfl)
                    simp only [List.take_succ_cons, List.take_zero, frameF, Act.put, List.setIfInBounds_toArray, List.set_cons_zero, List.set_cons_succ]
                    exact stepF_val (by first | rfl | simp [Region.wanted, yielded, *]) (by go_simp <;> omega) ⟨rfl, Below.refl _ _, hR⟩
                  · refine ⟨fun _ _ _ _ _ h => h, fun _ _ _ _ h _ => h, fun v n x hn hR hk => ?_⟩
                    have h2 : v 2 = .pointer (some ⟨b, off + k * 3, none⟩) := hk 2 (by kernel_rfl)
                    simp only [List.take_succ_cons, List.take_zero, frameF, Act.put, List.setIfInBounds_toArray, List.set_cons_zero, List.set_cons_succ]
                    exact stepF_val (by first | rfl | simp [Region.wanted, yielded, *]) (by go_simp <;> omega) ⟨rfl, Below.refl _ _, hR⟩
                  · refine ⟨fun _ _ _ _ _ h => h, fun _ _ _ _ h _ => h, fun v n x hn hR hk => ?_⟩
                    have h3 : v 3 = .pointer (some ⟨b, off + k * 3, none⟩) := hk 3 (by kernel_rfl)
                    have g2 := HYC.out x hR
                    simp only [List.take_succ_cons, List.take_zero, frameF, Act.put, List.setIfInBounds_toArray, List.set_cons_zero, List.set_cons_succ]
                    exact stepF_val (by first | rfl | simp [Region.wanted, yielded, *]) (by go_simp <;> omega) ⟨rfl, Below.refl _ _, hR⟩
                  · refine ⟨fun _ _ _ _ _ h => h, fun _ _ _ _ h _ => h, fun v n x hn hR hk => ?_⟩
                    simp only [List.take_succ_cons, List.take_zero, frameF, Act.put, List.setIfInBounds_toArray, List.set_cons_zero, List.set_cons_succ]
                    exact stepF_val (by first | rfl | simp [Region.wanted, yielded, *]) (by go_simp <;> omega) ⟨rfl, Below.refl _ _, hR⟩
                  · refine ⟨fun _ _ _ _ _ h => h, fun _ _ _ _ h _ => h, fun v n x hn hR hk => ?_⟩
                    simp only [List.take_succ_cons, List.take_zero, frameF, Act.put, List.setIfInBounds_toArray, List.set_cons_zero, List.set_cons_succ]
                    exact stepF_val (by first | rfl | simp [Region.wanted, yielded, *]) (by go_simp <;> omega) ⟨rfl, Below.refl _ _, hR⟩
                  · refine ⟨fun _ _ _ _ _ h => h, fun _ _ _ _ h _ => h, fun v n x hn hR hk => ?_⟩
                    have h6 : v 6 = iv (k : Int) := hk 6 (by kernel_rfl)
                    simp only [List.take_succ_cons, List.take_zero, frameF, Act.put, List.setIfInBounds_toArray, List.set_cons_zero, List.set_cons_succ]
                    exact stepF_val (by first | rfl | simp [Region.wanted, yielded, *]) (by go_simp <;> omega) ⟨rfl, Below.refl _ _, hR⟩
                  · refine ⟨fun _ _ _ _ _ h => h, fun _ _ _ _ h _ => h, fun v n x hn hR hk => ?_⟩
                    have h5 : v 5 = .slice (some ⟨b, off, none⟩) vs.length c := hk 5 (by kernel_rfl)
                    have h7 : v 7 = iv (q : Int) := hk 7 (by kernel_rfl)
                    simp only [List.take_succ_cons, List.take_zero, frameF, Act.put, List.setIfInBounds_toArray, List.set_cons_zero, List.set_cons_succ]
                    exact stepF_val (by first | rfl | simp [Region.wanted, yielded, *]) (by go_simp <;> omega) ⟨rfl, Below.refl _ _, hR⟩
                  · refine ⟨fun _ _ _ _ _ h => h, fun _ _ _ _ h _ => h, fun v n x hn hR hk => ?_⟩
                    have h8 : v 8 = .pointer (some ⟨b, off + q * 3, none⟩) := hk 8 (by kernel_rfl)
                    simp only [List.take_succ_cons, List.take_zero, frameF, Act.put, List.setIfInBounds_toArray, List.set_cons_zero, List.set_cons_succ]
                    exact stepF_val (by first | rfl | simp [Region.wanted, yielded, *]) (by go_simp <;> omega) ⟨rfl, Below.refl _ _, hR⟩
                  · refine ⟨fun _ _ _ _ _ h => h, fun _ _ _ _ h _ => h, fun v n x hn hR hk => ?_⟩
                    have h9 : v 9 = .pointer (some ⟨b, off + q * 3, none⟩) := hk 9 (by kernel_rfl)
                    obtain ⟨g0, g1⟩ := HXC.out x hR
                    simp only [List.take_succ_cons, List.take_zero, frameF, Act.put, List.setIfInBounds_toArray, List.set_cons_zero, List.set_cons_succ]
                    exact stepF_val (by first | rfl | simp [Region.wanted, yielded, *]) (by go_simp <;> omega) ⟨rfl, Below.refl _ _, hR⟩
                  · refine ⟨fun _ _ _ _ _ h => h, fun _ _ _ _ h _ => h, fun v n x hn hR hk => ?_⟩
                    simp only [List.take_succ_cons, List.take_zero, frameF, Act.put, List.setIfInBounds_toArray, List.set_cons_zero, List.set_cons_succ]
                    exact stepF_val (by first | rfl | simp [Region.wanted, yielded, *]) (by go_simp <;> omega) ⟨rfl, Below.refl _ _, hR⟩
                  · refine ⟨fun _ _ _ _ _ h => h, fun _ _ _ _ h _ => h, fun v n x hn hR hk => ?_⟩
                    simp only [List.take_succ_cons, List.take_zero, frameF, Act.put, List.setIfInBounds_toArray, List.set_cons_zero, List.set_cons_succ]
                    exact stepF_val (by first | rfl | simp [Region.wanted, yielded, *]) (by go_simp <;> omega) ⟨rfl, Below.refl _ _, hR⟩
                  · refine ⟨fun _ _ _ _ _ h => h, fun _ _ _ _ h _ => h, fun v n x hn hR hk => ?_⟩
                    have h12 : v 12 = iv (k : Int) := hk 12 (by kernel_rfl)
                    simp only [List.take_succ_cons, List.take_zero, frameF, Act.put, List.setIfInBounds_toArray, List.set_cons_zero, List.set_cons_succ]
                    exact stepF_val (by first | rfl | simp [Region.wanted, yielded, *]) (by go_simp <;> omega) ⟨rfl, Below.refl _ _, hR⟩
                  · refine ⟨fun _ _ _ _ _ h => h, fun _ _ _ _ h _ => h, fun v n x hn hR hk => ?_⟩
                    have h11 : v 11 = .slice (some ⟨b, off, none⟩) vs.length c := hk 11 (by kernel_rfl)
                    have h13 : v 13 = iv (q : Int) := hk 13 (by kernel_rfl)
                    simp only [List.take_succ_cons, List.take_zero, frameF, Act.put, List.setIfInBounds_toArray, List.set_cons_zero, List.set_cons_succ]
                    exact stepF_val (by first | rfl | simp [Region.wanted, yielded, *]) (by go_simp <;> omega) ⟨rfl, Below.refl _ _, hR⟩
                  · refine ⟨fun _ _ _ _ _ h => h, fun _ _ _ _ h _ => h, fun v n x hn hR hk => ?_⟩
                    have h14 : v 14 = .pointer (some ⟨b, off + q * 3, none⟩) := hk 14 (by kernel_rfl)
                    simp only [List.take_succ_cons, List.take_zero, frameF, Act.put, List.setIfInBounds_toArray, List.set_cons_zero, List.set_cons_succ]
                    exact stepF_val (by first | rfl | simp [Region.wanted, yielded, *]) (by go_simp <;> omega) ⟨rfl, Below.refl _ _, hR⟩
                  · refine ⟨fun _ _ _ _ _ h => h, fun _ _ _ _ h _ => h, fun v n x hn hR hk => ?_⟩
                    have h15 : v 15 = .pointer (some ⟨b, off + q * 3 + 1, none⟩) := hk 15 (by kernel_rfl)
                    obtain ⟨g0, g1⟩ := HXC.out x hR
                    simp only [List.take_succ_cons, List.take_zero, frameF, Act.put, List.setIfInBounds_toArray, List.set_cons_zero, List.set_cons_succ]
                    exact stepF_val (by first | rfl | simp [Region.wanted, yielded, *]) (by go_simp <;> omega) ⟨rfl, Below.refl _ _, hR⟩
                  · refine ⟨fun _ _ _ _ _ h => h, fun _ _ _ _ h _ => h, fun v n x hn hR hk => ?_⟩
                    have h16 : v 16 = .slice x0.A x0.old.length x0.c := hk 16 (by kernel_rfl)
                    simp only [List.take_succ_cons, List.take_zero, frameF, Act.put, List.setIfInBounds_toArray, List.set_cons_zero, List.set_cons_succ]
                    exact stepF_val (by first | rfl | simp [Region.wanted, yielded, *]) (by go_simp <;> omega) ⟨rfl, Below.refl _ _, hR⟩
                  · refine ⟨fun _ _ _ _ _ h => h, fun _ _ _ _ h _ => h, fun v n x hn hR hk => ?_⟩
                    have h10 : v 10 = iv x0.at_ := hk 10 (by kernel_rfl)
                    have h17 : v 17 = iv (x0.old.length : Int) := hk 17 (by kernel_rfl)
                    simp only [List.take_succ_cons, List.take_zero, frameF, Act.put, List.setIfInBounds_toArray, List.set_cons_zero, List.set_cons_succ]
                    exact stepF_val (by first | rfl | simp [Region.wanted, yielded, *]) (by go_simp <;> omega) ⟨rfl, Below.refl _ _, hR⟩
                  · refine ⟨fun _ _ _ _ _ h => h, fun _ _ _ _ h _ => h, fun v n x hn hR hk => ?_⟩
                    have h4 : v 4 = iv y.at_ := hk 4 (by kernel_rfl)
                    have h18 : v 18 = iv (x0.at_ + (x0.old.length : Int)) := hk 18 (by kernel_rfl)
                    simp only [List.take_succ_cons, List.take_zero, frameF, Act.put, List.setIfInBounds_toArray, List.set_cons_zero, List.set_cons_succ]
                    exact stepF_val (by first | rfl | simp [Region.wanted, yielded, *]) (by go_simp <;> omega) ⟨rfl, Below.refl _ _, hR⟩
                · intro v n x hn hR hall
                  have h19 : v 19 = .bool nb := hall 19 (by decide)
                  clear hall hn
                  simp only [List.drop_succ_cons, List.drop_zero, List.drop_nil, List.take_succ_cons, List.take_zero, frameF, Act.put, List.setIfInBounds_toArray, List.set_cons_zero, List.set_cons_succ, Nat.zero_add, Nat.reduceAdd, h19]
                  have hbz := hbr.next hR (Nat.le_refl _)
                  cases nb
                  · have HN : Hid (File.ordered ((vs.map EdV.ed).drop k) = File.ordered (vs.map EdV.ed)) := Lib.hid (by rw [HKD.out]; exact HD.out)
                    go_wp2_with fail
                    go_roundw
                    case rel => exact ⟨k, by go_num, .inr hlt, HN, hbz⟩
                    case measure => simp [intOf]; omega
                  · have HN : Hid (ans = 4) := Lib.hid (by rw [HA.out, ← HD.out]; rfl)
                    go_wp2_with fail
                    go_ret
                    exact ⟨ret_eq (by rw [HN.out]; rfl), hb05.next hbz (Nat.le_refl _)⟩
              · have hki : ¬ (q : Int) + 1 < (vs.length : Int) := by omega
                have HN : Hid (ans = 0) := Lib.hid (by
                  have ho : File.ordered ((vs.map EdV.ed).drop q) = true := by
                    have hl : ((vs.map EdV.ed).drop q).length ≤ 1 := by rw [List.length_drop, List.length_map]; omega
                    match hd : (vs.map EdV.ed).drop q, hl with
                    | [], _ => rfl
                    | [_], _ => rfl
                    | _ :: _ :: _, h => simp at h
                  rw [HA.out, ← HOR.out, ho]; rfl)
                clear HOR hlt
                go_wp2_with fail
                go_ret
                exact ⟨ret_eq (by rw [HN.out]; rfl), hb0r⟩
          · rw [if_neg hz] at HA
            generalize File.lined acc = e0 at *
            have he0 : (e0 != 0) = true := by simpa using hz
            clear hz
            go_wp2_with fail
            refine HLD.out.mono ?_
            rintro _ w5 ⟨rfl, hb5⟩
            go_wp2_with fail
            go_ret
            exact ⟨ret_eq (by rw [HA.out]; rfl), hb0r.next hb5 (Nat.le_refl _)⟩
end Fl
end Go.Proofs.YtekkhnjepcebkaaGreatDoor
