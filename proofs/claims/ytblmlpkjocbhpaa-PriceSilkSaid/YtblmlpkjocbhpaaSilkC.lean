/- Package silk, for a mill of one lot: at work. Conditions: weighings that are right. -/
import Derived.Test.YtblmlpkjocbhpaaSilkM
import Derived.Test.YtblmlpkjocbhpaaPriceV
import Derived.Deep.DeepCutAuto
import Derived.BigRegion
set_option linter.unusedVariables false
set_option linter.unusedSimpArgs false
namespace Go.Proofs.Ytblmlpkjocbhpaa
open Go.RowKit Go.Maps
set_option maxRecDepth 100000
/-- A mill of one lot at work. -/
def DeskOk (w : World) (gd : Nat) (lots weighings : Value) : Prop := ∃ gm gp cp, Blk w gd 181 #[iv 1, lots, weighings, .map (some gm)] ∧ OneMap Try.prog 3 w gm (.slice (some ⟨gp, 0, none⟩) 1 cp) ∧ Own intE 3 0 w (.slice (some ⟨gp, 0, none⟩) 1 cp) [0]
theorem DeskOk.below {w w' : World} {gd : Nat} {l x : Value} (h : DeskOk w gd l x) (hb : Below w.heap.size w w') : DeskOk w' gd l x := by
  obtain ⟨gm, gp, cp, h1, h2, h3⟩ := h
  exact ⟨gm, gp, cp, h1.under hb, h2.below hb, h3.below hb⟩
theorem keyInt {x : Int} (h : (Lit.int .i64 x).wf = true) : keyOf Try.prog 3 (iv x) = some (.int .i64 x) := by
  exact keyOf_int_mk Try.underlying3 h
theorem zeroSl (w : World) : (zeroValue 29).run Try.prog w = .ok nilV w := by kernel_rfl
set_option maxHeartbeats 4000000 in
theorem opened_one (Al : Option Addr) (cl : Nat) (Aw : Option Addr) (ws : List Weigh) (c : Nat) (w : World) (hl : Sl lotE w Al [⟨-1, 2⟩]) (hw : Sl weighE w Aw ws) (hn : ws.length ≤ 10) (hok : ∀ x ∈ ws, x.Ok) :
    Calls Try.prog 150 #[millV Al cl Aw ws.length c] w fun e w' => ∃ gd, e = .returned (.tuple #[.pointer (some ⟨gd, 0, none⟩), iv 0]) ∧ Below w.heap.size w w' ∧ DeskOk w' gd (.slice Al 1 cl) (.slice Aw ws.length c) := by
  have hb0 : Below w.heap.size w (w.alloc (.cells #[iv 1, .slice Al 1 cl, .slice Aw ws.length c] 119)) := (Below.refl _ _).alloc (Nat.le_refl _) _
  have hB0 : Blk (w.alloc (.cells #[iv 1, .slice Al 1 cl, .slice Aw ws.length c] 119)) w.heap.size 119 #[iv 1, .slice Al 1 cl, .slice Aw ws.length c] := Blk.new _ _ _
  have R0 := Lib.hid (scheck_spec Al cl Aw ws c _ (hl.below hb0) (hw.below hb0) hn hok)
  clear hok
  have hmm := @run_makeMap Try.prog
  go_enter Try.func150, Try.ntmps150
  go_wp2_with fail
  generalize w.alloc (.cells #[iv 1, .slice Al 1 cl, .slice Aw ws.length c] 119) = w0 at *
  refine R0.out.mono ?_
  rintro e w1 ⟨rfl, hb1⟩
  have hb01 := hb0.next hb1 (Nat.le_refl _)
  have hB1 := hB0.under hb1
  have c1 := hB1.cell
  have d1 := hB1.lt
  have hl1 := hl.below hb01
  clear R0 hb1 hB0 hb0
  go_wp2_with fail
  have hba : Below w1.heap.size w1 (w1.alloc (.map #[] 0)) := (Below.refl _ _).alloc (Nat.le_refl _) _
  have hbc : Below w1.heap.size w1 ((w1.alloc (.map #[] 0)).alloc (.cells #[iv 1, .slice Al 1 cl, .slice Aw ws.length c, .map (some w1.heap.size)] 181)) := hba.alloc hba.size _
  have hBd : Blk ((w1.alloc (.map #[] 0)).alloc (.cells #[iv 1, .slice Al 1 cl, .slice Aw ws.length c, .map (some w1.heap.size)] 181)) (w1.heap.size + 1) 181 #[iv 1, .slice Al 1 cl, .slice Aw ws.length c, .map (some w1.heap.size)] := by
    have := Blk.new (w1.alloc (.map #[] 0)) 181 #[iv 1, .slice Al 1 cl, .slice Aw ws.length c, .map (some w1.heap.size)]
    rwa [show (w1.alloc (.map #[] 0)).heap.size = w1.heap.size + 1 by simp] at this
  have hNo : NoMap ((w1.alloc (.map #[] 0)).alloc (.cells #[iv 1, .slice Al 1 cl, .slice Aw ws.length c, .map (some w1.heap.size)] 181)) w1.heap.size := by
    unfold NoMap
    rw [Below.heap_alloc _ _ _ (by simp)]
    exact (MapKept.heap_alloc w1 _).1
  have hgl : w1.heap.size < w1.heap.size + 1 := by omega
  have hb02 := hb01.next hbc (Nat.le_refl _)
  have hge : w.heap.size ≤ w1.heap.size := hb01.size
  generalize (w1.alloc (.map #[] 0)).alloc (.cells #[iv 1, .slice Al 1 cl, .slice Aw ws.length c, .map (some w1.heap.size)] 181) = w2 at *
  have hl2 := hl.below hb02
  clear hba hbc hb01 hB1 c1 d1 hl1
  generalize w1.heap.size + 1 = gd at *
  generalize w1.heap.size = gm at *
  go_loopw [6, 7, 20] (fun _ _ i wr => ∃ k : Nat, k ≤ 1 ∧ i = iv k ∧ Below w.heap.size w wr ∧ Blk wr gd 181 #[iv 1, .slice Al 1 cl, .slice Aw ws.length c, .map (some gm)] ∧ (k = 0 → NoMap wr gm) ∧
    (k = 1 → ∃ gp cp, OneMap Try.prog 3 wr gm (.slice (some ⟨gp, 0, none⟩) 1 cp) ∧ Own intE 3 0 wr (.slice (some ⟨gp, 0, none⟩) 1 cp) [0])) (fun _ _ i _ => 1 - (intOf i).toNat)
  case atStart => exact ⟨0, by omega, rfl, hb02, hBd, fun _ => hNo, fun h => by cases h⟩
  case round =>
    obtain ⟨k, hk, rfl, hbw, hBr, hN, hO⟩ := hrel
    by_cases hlt : k < 1
    · have hk0 : k = 0 := by omega
      subst hk0
      have hN0 := hN rfl
      have hki : ((0 : Nat) : Int) < 1 := by omega
      obtain ⟨b, off, x, rfl, hb, hx, hc0, hc1⟩ := (hl.below hbw).atL (k := 0) (by simp)
      have hxe : x = ⟨-1, 2⟩ := by simpa using hx.symm
      subst hxe
      simp only [Nat.zero_mul, Nat.add_zero] at hc0 hc1
      clear hx hN hO
      go_upto_region 8 with fail
      have hbx : Below wr.heap.size wr (wr.alloc (.cells #[iv (-1), iv 2] 115)) := (Below.refl _ _).alloc (Nat.le_refl _) _
      have hBx : Blk (wr.alloc (.cells #[iv (-1), iv 2] 115)) wr.heap.size 115 #[iv (-1), iv 2] := Blk.new _ _ _
      have hsz : (wr.alloc (.cells #[iv (-1), iv 2] 115)).heap.size = wr.heap.size + 1 := by simp
      have hBdx := hBr.under hbx
      have hgmlt : gm < wr.heap.size := by
        unfold NoMap at hN0
        exact (Array.getElem?_eq_some_iff.1 hN0).1
      have hNx : NoMap (wr.alloc (.cells #[iv (-1), iv 2] 115)) gm := (hbx.block gm hgmlt).trans hN0
      have hb0x := hbw.next hbx (Nat.le_refl _)
      have hgmx : gm < (wr.alloc (.cells #[iv (-1), iv 2] 115)).heap.size := by omega
      generalize wr.alloc (.cells #[iv (-1), iv 2] 115) = wx at *
      generalize wr.heap.size = bl at *
      have HFF : Hid (∀ a : World, Below wx.heap.size wx a → a.cell? ⟨gd, 3, none⟩ = some (.map (some gm)) ∧ a.cell? ⟨bl, 0, none⟩ = some (iv (-1)) ∧ (Instr.lookup 179 (.map (some gm)) (iv (-1)) false).run Try.prog a = .ok nilV a) := fun a h =>
        ⟨(hBdx.under h).cell 3, (hBx.under h).cell 0, NoMap.lookup ((h.block gm hgmx).trans hNx) Try.underlying3 Try.underlying179 (zeroSl a) (keyInt (by decide))⟩
      have HN := Lib.hid hNx
      have HBD := Lib.hid hBdx
      have HGE := Lib.hid hge
      have HB0 := Lib.hid hb0x
      clear hBr hBd hBx hBdx hNx hN0 hNo hb0x hbw hbx hmm hc0 hc1 hb hl hl2 hw hb02
      refine wp_free_lit (by kernel_rfl) 16 (by kernel_rfl) (by kernel_rfl) (by decide) (fun _ x => Below wx.heap.size wx x) (fun x x' => Below x.heap.size x x')
        [fun _ u _ => u = .pointer (some ⟨gd, 0, none⟩),
         fun _ u _ => u = .pointer (some ⟨gd, 0, none⟩),
         fun _ u _ => u = .pointer (some ⟨gd, 3, none⟩),
         fun _ u _ => u = .map (some gm),
         fun _ u _ => u = .pointer (some ⟨bl, 0, none⟩),
         fun _ u _ => u = iv (-1),
         fun _ u _ => u = .pointer (some ⟨gd, 0, none⟩),
         fun _ u _ => u = .pointer (some ⟨gd, 0, none⟩),
         fun _ u _ => u = .pointer (some ⟨gd, 3, none⟩),
         fun _ u _ => u = .map (some gm),
         fun _ u _ => u = .pointer (some ⟨bl, 0, none⟩),
         fun _ u _ => u = iv (-1),
         fun _ u _ => u = nilV,
         fun _ u _ => u = iv 0,
         fun _ u x => ∃ g, u = .slice (some ⟨g, 0, none⟩) 1 1 ∧ Sl intE x (some ⟨g, 0, none⟩) [0],
         fun _ u x => Own intE 3 wx.heap.size x u [0]]
        (Below.refl _ wx).drew ?_ ?_
      · simp only [List.take_succ_cons, List.take_zero, HopL]
        refine ⟨?_, ?_, ?_, ?_, ?_, ?_, ?_, ?_, ?_, ?_, ?_, ?_, ?_, ?_, ?_, ?_, trivial⟩
        · refine ⟨fun _ _ _ _ _ h => h, fun _ _ _ _ h _ => h, fun v n x hn hR hk => ?_⟩
          obtain ⟨f0, f1, f2⟩ := HFF.out x hR
          skip
          simp only [List.take_succ_cons, List.take_zero, frameF, Act.put, List.setIfInBounds_toArray, List.set_cons_zero, List.set_cons_succ]
          exact stepF_val (by rfl) (by go_simp) ⟨rfl, Below.refl _ _, hR⟩
        · refine ⟨fun _ _ _ _ _ h => h, fun _ _ _ _ h _ => h, fun v n x hn hR hk => ?_⟩
          obtain ⟨f0, f1, f2⟩ := HFF.out x hR
          have h0 : v 0 = .pointer (some ⟨gd, 0, none⟩) := hk 0 (by kernel_rfl)
          simp only [List.take_succ_cons, List.take_zero, frameF, Act.put, List.setIfInBounds_toArray, List.set_cons_zero, List.set_cons_succ]
          exact stepF_val (by rfl) (by go_simp) ⟨rfl, Below.refl _ _, hR⟩
        · refine ⟨fun _ _ _ _ _ h => h, fun _ _ _ _ h _ => h, fun v n x hn hR hk => ?_⟩
          obtain ⟨f0, f1, f2⟩ := HFF.out x hR
          have h0 : v 1 = .pointer (some ⟨gd, 0, none⟩) := hk 1 (by kernel_rfl)
          simp only [List.take_succ_cons, List.take_zero, frameF, Act.put, List.setIfInBounds_toArray, List.set_cons_zero, List.set_cons_succ]
          exact stepF_val (by rfl) (by go_simp) ⟨rfl, Below.refl _ _, hR⟩
        · refine ⟨fun _ _ _ _ _ h => h, fun _ _ _ _ h _ => h, fun v n x hn hR hk => ?_⟩
          obtain ⟨f0, f1, f2⟩ := HFF.out x hR
          have h0 : v 2 = .pointer (some ⟨gd, 3, none⟩) := hk 2 (by kernel_rfl)
          simp only [List.take_succ_cons, List.take_zero, frameF, Act.put, List.setIfInBounds_toArray, List.set_cons_zero, List.set_cons_succ]
          exact stepF_val (by rfl) (by go_simp) ⟨rfl, Below.refl _ _, hR⟩
        · refine ⟨fun _ _ _ _ _ h => h, fun _ _ _ _ h _ => h, fun v n x hn hR hk => ?_⟩
          obtain ⟨f0, f1, f2⟩ := HFF.out x hR
          skip
          simp only [List.take_succ_cons, List.take_zero, frameF, Act.put, List.setIfInBounds_toArray, List.set_cons_zero, List.set_cons_succ]
          exact stepF_val (by rfl) (by go_simp) ⟨rfl, Below.refl _ _, hR⟩
        · refine ⟨fun _ _ _ _ _ h => h, fun _ _ _ _ h _ => h, fun v n x hn hR hk => ?_⟩
          obtain ⟨f0, f1, f2⟩ := HFF.out x hR
          have h0 : v 4 = .pointer (some ⟨bl, 0, none⟩) := hk 4 (by kernel_rfl)
          simp only [List.take_succ_cons, List.take_zero, frameF, Act.put, List.setIfInBounds_toArray, List.set_cons_zero, List.set_cons_succ]
          exact stepF_val (by rfl) (by go_simp) ⟨rfl, Below.refl _ _, hR⟩
        · refine ⟨fun _ _ _ _ _ h => h, fun _ _ _ _ h _ => h, fun v n x hn hR hk => ?_⟩
          obtain ⟨f0, f1, f2⟩ := HFF.out x hR
          skip
          simp only [List.take_succ_cons, List.take_zero, frameF, Act.put, List.setIfInBounds_toArray, List.set_cons_zero, List.set_cons_succ]
          exact stepF_val (by rfl) (by go_simp) ⟨rfl, Below.refl _ _, hR⟩
        · refine ⟨fun _ _ _ _ _ h => h, fun _ _ _ _ h _ => h, fun v n x hn hR hk => ?_⟩
          obtain ⟨f0, f1, f2⟩ := HFF.out x hR
          have h0 : v 6 = .pointer (some ⟨gd, 0, none⟩) := hk 6 (by kernel_rfl)
          simp only [List.take_succ_cons, List.take_zero, frameF, Act.put, List.setIfInBounds_toArray, List.set_cons_zero, List.set_cons_succ]
          exact stepF_val (by rfl) (by go_simp) ⟨rfl, Below.refl _ _, hR⟩
        · refine ⟨fun _ _ _ _ _ h => h, fun _ _ _ _ h _ => h, fun v n x hn hR hk => ?_⟩
          obtain ⟨f0, f1, f2⟩ := HFF.out x hR
          have h0 : v 7 = .pointer (some ⟨gd, 0, none⟩) := hk 7 (by kernel_rfl)
          simp only [List.take_succ_cons, List.take_zero, frameF, Act.put, List.setIfInBounds_toArray, List.set_cons_zero, List.set_cons_succ]
          exact stepF_val (by rfl) (by go_simp) ⟨rfl, Below.refl _ _, hR⟩
        · refine ⟨fun _ _ _ _ _ h => h, fun _ _ _ _ h _ => h, fun v n x hn hR hk => ?_⟩
          obtain ⟨f0, f1, f2⟩ := HFF.out x hR
          have h0 : v 8 = .pointer (some ⟨gd, 3, none⟩) := hk 8 (by kernel_rfl)
          simp only [List.take_succ_cons, List.take_zero, frameF, Act.put, List.setIfInBounds_toArray, List.set_cons_zero, List.set_cons_succ]
          exact stepF_val (by rfl) (by go_simp) ⟨rfl, Below.refl _ _, hR⟩
        · refine ⟨fun _ _ _ _ _ h => h, fun _ _ _ _ h _ => h, fun v n x hn hR hk => ?_⟩
          obtain ⟨f0, f1, f2⟩ := HFF.out x hR
          skip
          simp only [List.take_succ_cons, List.take_zero, frameF, Act.put, List.setIfInBounds_toArray, List.set_cons_zero, List.set_cons_succ]
          exact stepF_val (by rfl) (by go_simp) ⟨rfl, Below.refl _ _, hR⟩
        · refine ⟨fun _ _ _ _ _ h => h, fun _ _ _ _ h _ => h, fun v n x hn hR hk => ?_⟩
          obtain ⟨f0, f1, f2⟩ := HFF.out x hR
          have h0 : v 10 = .pointer (some ⟨bl, 0, none⟩) := hk 10 (by kernel_rfl)
          simp only [List.take_succ_cons, List.take_zero, frameF, Act.put, List.setIfInBounds_toArray, List.set_cons_zero, List.set_cons_succ]
          exact stepF_val (by rfl) (by go_simp) ⟨rfl, Below.refl _ _, hR⟩
        · refine ⟨fun _ _ _ _ _ h => h, fun _ _ _ _ h _ => h, fun v n x hn hR hk => ?_⟩
          obtain ⟨f0, f1, f2⟩ := HFF.out x hR
          (have h0 : v 9 = .map (some gm) := hk 9 (by kernel_rfl); have h1 : v 11 = iv (-1) := hk 11 (by kernel_rfl))
          simp only [List.take_succ_cons, List.take_zero, frameF, Act.put, List.setIfInBounds_toArray, List.set_cons_zero, List.set_cons_succ]
          exact stepF_val (by rfl) (by go_simp) ⟨rfl, Below.refl _ _, hR⟩
        · refine ⟨fun _ _ _ _ _ h => h, fun _ _ _ _ h _ => h, fun v n x hn hR hk => ?_⟩
          obtain ⟨f0, f1, f2⟩ := HFF.out x hR
          skip
          simp only [List.take_succ_cons, List.take_zero, frameF, Act.put, List.setIfInBounds_toArray, List.set_cons_zero, List.set_cons_succ]
          exact stepF_val (by rfl) (by go_simp) ⟨rfl, Below.refl _ _, hR⟩
        · refine ⟨fun _ _ _ _ _ h => h, fun _ _ _ _ h hS => ?_, fun v n x hn hR hk => ?_⟩
          · obtain ⟨g, h1, h2⟩ := h
            exact ⟨g, h1, h2.below hS⟩
          · have h0 : v 13 = iv 0 := hk 13 (by kernel_rfl)
            simp only [List.take_succ_cons, List.take_zero, frameF, Act.put, List.setIfInBounds_toArray, List.set_cons_zero, List.set_cons_succ]
            exact stepF_new (u := .slice (some ⟨x.heap.size, 0, none⟩) 1 1) (w' := x.alloc (.cells #[iv 0] 3)) (by rfl) (by go_simp) ⟨⟨x.heap.size, rfl, Sl.fresh intE x 3 #[iv 0] [0] rfl (by simp [maxLen])⟩, (Below.refl _ _).alloc (Nat.le_refl _) _, hR.alloc hR.size _⟩
        · refine ⟨fun _ _ _ _ _ h => h, fun _ _ _ _ h hS => h.below hS, fun v n x hn hR hk => ?_⟩
          have h0 : v 12 = nilV := hk 12 (by kernel_rfl)
          have h14 : ∃ g, v 14 = .slice (some ⟨g, 0, none⟩) 1 1 ∧ Sl intE x (some ⟨g, 0, none⟩) [0] := hk 14 (by kernel_rfl)
          obtain ⟨g, h1, h2⟩ := h14
          simp only [List.take_succ_cons, List.take_zero, frameF, Act.put, List.setIfInBounds_toArray, List.set_cons_zero, List.set_cons_succ]
          refine stepF_app intE tyInts (by rfl) _ _ (by rfl) Own.nil h2 rfl (by first | exact h0 | rfl) (by first | exact h1 | rfl) hR.size (by simp [big]) ?_
          intro v' x' hown hbx hot
          rw [List.nil_append] at hown
          have hbx' : Below x.heap.size x x' := ⟨hbx.os, hbx.tape, hbx.output, hbx.size, fun k hk => hot k hk (by rintro ⟨⟩)⟩
          exact ⟨hown, hbx', hR.next hbx' (Nat.le_refl _)⟩
      · intro v n x hn hR hall
        have h3 : v 3 = .map (some gm) := hall 3 (by decide)
        have h5 : v 5 = iv (-1) := hall 5 (by decide)
        have h15 : Own intE 3 wx.heap.size x (v 15) [0] := hall 15 (by decide)
        obtain ⟨A, cp, e15, _, _⟩ := h15.form
        have hA : ∃ gp, A = some ⟨gp, 0, none⟩ ∧ wx.heap.size ≤ gp := by
          rcases h15.2 with ⟨_, h⟩ | ⟨g, cap, cur, hv, h, _⟩
          · simp at h
          · rw [e15] at hv
            injection hv with h1
            exact ⟨g, h1, h⟩
        obtain ⟨gp, rfl, hgp⟩ := hA
        rw [e15] at h15
        obtain ⟨x', hrun, hone, hgr⟩ := NoMap.put ((hR.block gm hgmx).trans HN.out) Try.underlying3 Try.underlying179 (keyInt (by decide)) (u := .slice (some ⟨gp, 0, none⟩) 1 cp) (by rintro ⟨⟩)
        have hsl := (h15.keep (w' := x') hgr.size fun b hv => hgr.block b (h15.lt b hv).2 (fun e => by have := (h15.lt b hv).1; injection e with e; omega)).base (Nat.zero_le _)
        have HS := Lib.hid hsl
        have HO := Lib.hid hone
        have HG := Lib.hid hgr
        have HR := Lib.hid hR
        clear hall hsl hone hgr hR h15
        simp only [List.drop_succ_cons, List.drop_zero, List.take_succ_cons, List.take_zero, frameF, Act.put, List.setIfInBounds_toArray, List.set_cons_zero, List.set_cons_succ]
        go_wp2_with fail
        go_roundw
        case rel =>
          refine ⟨1, by omega, rfl, (HB0.out.next HR.out (Nat.le_refl _)).grown HG.out ?_ ?_, ?_, fun h => (by cases h), fun _ => ⟨gp, cp, HO.out, HS.out⟩⟩
          · exact Nat.le_trans HB0.out.size HR.out.size
          · intro j hj
            injection hj with hj
            omega
          · unfold Blk
            rw [HG.out.block gd (Nat.lt_of_lt_of_le HBD.out.lt HR.out.size) (fun e => by injection e with e; omega)]
            exact HBD.out.under HR.out
        case measure => simp [intOf]
    · have hki : ¬ (k : Int) < 1 := by omega
      obtain ⟨gp, cp, h1, h2⟩ := hO (by omega)
      clear hN hO
      go_wp2_with fail
      go_ret2
      exact ⟨gd, rfl, hbw, gm, gp, cp, hBr, h1, h2⟩
end Go.Proofs.Ytblmlpkjocbhpaa
