/- Package file: what a change makes of a file. Conditions: few edits, lengths are below a great bound. -/
import Derived.Test.YtekkhnjepcebkaaGreatDoorFlBk
import Derived.Test.YtekkhnjepcebkaaGreatDoorFlQ
import Derived.WalkMore
set_option linter.unusedVariables false
set_option linter.unusedSimpArgs false
namespace Go.Proofs.YtekkhnjepcebkaaGreatDoor
namespace File
def fitGo (f : List ByteArray) : Nat → List ByteArray → Bool
  | _, [] => true
  | i, s :: r => decide (f[i]? = some s) && fitGo f (i + 1) r
/-- Whether an edit's old lines are at their place. -/
def fitAt (f : List ByteArray) (x : Edit ByteArray) : Bool := decide (x.at_ ≤ (f.length : Int)) && fitGo f x.at_.toNat x.old
/-- What Make answers. -/
def makeAns (f : List ByteArray) (c : List (Edit ByteArray)) : List ByteArray × Int :=
  if check f = 0 then (if checkChange c = 0 then (if c.all (fitAt f) then (if 24 < (make f c).length then ([], 2) else (make f c, 0)) else ([], 7)) else ([], checkChange c)) else ([], check f)
theorem fitGo_hi {f : List ByteArray} : ∀ {l : List ByteArray} {i : Nat}, i ≤ f.length → fitGo f i l = true → i + l.length ≤ f.length
  | [], _, h, _ => h
  | s :: r, i, _, h => by
    unfold fitGo at h
    rw [Bool.and_eq_true, decide_eq_true_eq] at h
    have h1 := (List.getElem?_eq_some_iff.1 h.1).1
    have := fitGo_hi (by omega) h.2
    simp only [List.length_cons]
    omega
theorem fit_hi {f : List ByteArray} {x : Edit ByteArray} (h0 : 0 ≤ x.at_) (h : fitAt f x = true) : x.hi ≤ f.length := by
  unfold fitAt at h
  rw [Bool.and_eq_true, decide_eq_true_eq] at h
  exact fitGo_hi (by omega) h.2
theorem chain_of : ∀ {c : List (Edit ByteArray)} {lo : Nat}, ordered c = true → (∀ x ∈ c, 0 ≤ x.at_) → (∀ x, c.head? = some x → (lo : Int) ≤ x.at_) → Chain lo c
  | [], _, _, _, _ => trivial
  | [x], lo, _, _, h => ⟨h x rfl, trivial⟩
  | x :: y :: r, lo, ho, h0, h => by
    unfold ordered at ho
    rw [Bool.and_eq_true, Bool.not_eq_true', decide_eq_false_iff_not] at ho
    refine ⟨h x rfl, chain_of ho.2 (fun z hz => h0 z (List.mem_cons_of_mem _ hz)) fun z hz => ?_⟩
    simp at hz
    subst hz
    have := h0 x (by simp)
    unfold Edit.hi
    omega
theorem ch_chain {c : List (Edit ByteArray)} (h : ChOk c) : Chain 0 c := chain_of h.order (fun x hx => (h.at_ x hx).1) fun x hx => (h.at_ x (List.mem_of_mem_head? (by rw [hx]; rfl))).1
theorem make_ge {f : List ByteArray} : ∀ {c : List (Edit ByteArray)} {lo : Nat}, Chain lo c → (∀ x ∈ c, x.hi ≤ f.length) → lo ≤ f.length → lo ≤ (make f c).length
  | [], _, _, _, h => h
  | x :: r, lo, ⟨h1, h2⟩, hh, _ => by
    have hx := hh x (by simp)
    have ih := make_ge (h2.weaken (Nat.le_succ _)) (fun y hy => hh y (List.mem_cons_of_mem _ hy)) hx
    show lo ≤ (made (make f r) x).length
    unfold made
    rw [List.length_append, List.length_take]
    have : x.at_.toNat ≤ x.hi := Nat.le_add_right _ _
    omega
theorem chain_drop : ∀ {c : List (Edit ByteArray)} {lo k : Nat} {x : Edit ByteArray}, Chain lo c → c[k]? = some x → Chain (x.hi + 1) (c.drop (k + 1))
  | [], _, _, _, _, h => by simp at h
  | y :: r, lo, 0, x, ⟨_, h2⟩, h => by simp at h; subst h; simpa using h2
  | y :: r, lo, k + 1, x, ⟨_, h2⟩, h => by
    have := chain_drop (k := k) h2 (by simpa using h)
    simpa using this
theorem chain_len : ∀ {c : List (Edit ByteArray)} {lo : Nat}, Chain lo c → (∀ x ∈ c, x.at_ ≤ 24) → c ≠ [] → c.length + lo ≤ 25
  | [], _, _, _, h => absurd rfl h
  | [x], lo, ⟨h1, _⟩, ha, _ => by have := ha x (by simp); simp; omega
  | x :: y :: r, lo, ⟨h1, h2⟩, ha, _ => by
    have := chain_len h2 (fun z hz => ha z (List.mem_cons_of_mem _ hz)) (by simp)
    have h3 : lo ≤ x.hi := by unfold Edit.hi; omega
    simp only [List.length_cons] at this ⊢
    omega
theorem make_le {f : List ByteArray} : ∀ {c : List (Edit ByteArray)}, (∀ x ∈ c, x.new.length ≤ 24) → (make f c).length ≤ f.length + c.length * 24
  | [], _ => by simp [make]
  | x :: r, h => by
    have ih := make_le (f := f) (c := r) fun y hy => h y (List.mem_cons_of_mem _ hy)
    have hx := h x (by simp)
    show (made (make f r) x).length ≤ _
    unfold made
    simp only [List.length_append, List.length_take, List.length_drop, List.length_cons]
    omega
end File
namespace Fl
open Go.RowKit
set_option maxRecDepth 100000
set_option maxHeartbeats 8000000 in
theorem make_spec (F : Option Addr) (f : List ByteArray) (cf : Nat) (A : Option Addr) (vs : List EdV) (c : Nat) (w : World) (hF : f.length ≤ big) (hfc : f.length ≤ cf) (hsF : Sl strE w F f) (hm : vs.length ≤ 1000) (hs : Sl edE w A vs) (hok : ∀ r ∈ vs, EdOk w r) (hb1 : ∀ r ∈ vs, r.old.length ≤ big ∧ r.new.length ≤ big) :
    Calls Tryz.prog 32 #[.slice F f.length cf, .slice A vs.length c] w fun e w' => ∃ v, e = .returned (.tuple #[v, iv (File.makeAns f (vs.map EdV.ed)).2]) ∧ Own strE 9 w.heap.size w' v (File.makeAns f (vs.map EdV.ed)).1 ∧ Below w.heap.size w w' := by
  have HCF := Lib.hid (check_spec F f cf w hF hsF)
  have HCC := Lib.hid (fun W (h : Below w.heap.size w W) => cc_spec A vs c W hm (hs.below h) (fun r hr => (hok r hr).below h) hb1)
  obtain ⟨ans, hans⟩ : ∃ ans, ans = File.makeAns f (vs.map EdV.ed) := ⟨_, rfl⟩
  rw [← hans]
  unfold File.makeAns at hans
  by_cases hz : File.check f = 0
  · rw [if_pos hz] at hans
    rw [hz] at HCF
    have hgf := good_of_check hz
    have hf24 := hgf.many
    by_cases hz2 : File.checkChange (vs.map EdV.ed) = 0
    · rw [if_pos hz2] at hans
      simp only [hz2] at HCC
      have hch := File.ch_of hz2
      have hchain := File.ch_chain hch
      have HSZ : Hid (∀ r ∈ vs, 0 ≤ r.at_ ∧ r.at_ ≤ 24 ∧ r.old.length ≤ 24 ∧ r.new.length ≤ 24) := Lib.hid fun r hr => ⟨(hch.at_ r.ed (List.mem_map_of_mem hr)).1, (hch.at_ r.ed (List.mem_map_of_mem hr)).2, hch.old r.ed (List.mem_map_of_mem hr), hch.new r.ed (List.mem_map_of_mem hr)⟩
      have HCL : Hid ((vs.map EdV.ed).all (File.fitAt f) = false → ans = ([], 7)) := Lib.hid fun h => by rw [hans, h]; rfl
      have HFT : Hid ((vs.map EdV.ed).all (File.fitAt f) = true → ans = if 24 < (File.make f (vs.map EdV.ed)).length then ([], 2) else (File.make f (vs.map EdV.ed), 0)) := Lib.hid fun h => by rw [hans, h]; rfl
      have HCH := Lib.hid hchain
      have HCO := Lib.hid hch
      have HOK := Lib.hid hok
      clear hz hz2 hans hch hchain hok hb1 hgf
      go_enter Tryz.func32, Tryz.ntmps32
      go_wp2_with fail
      go_step3
      go_wp2_with fail
      refine HCF.out.mono ?_
      rintro _ w1 ⟨rfl, hb1⟩
      go_wp2_with fail
      refine (HCC.out w1 hb1).mono ?_
      rintro _ w2 ⟨rfl, hb2⟩
      have hb02 := hb1.next hb2 (Nat.le_refl _)
      clear HCF HCC hb1 hb2
      go_wp2_with fail
      go_step3
      go_wp2_with fail
      go_loopw [8, 10, 11, 12, 13, 28] (fun cl _ _ _ _ i wr => ∃ k : Nat, k ≤ vs.length ∧ i = iv k ∧ cl = .bool false ∧ Hid (((vs.map EdV.ed).drop k).all (File.fitAt f) = (vs.map EdV.ed).all (File.fitAt f)) ∧ Below w2.heap.size w2 wr) (fun _ _ _ _ _ i _ => vs.length - (intOf i).toNat)
      case atStart => exact ⟨0, by omega, rfl, rfl, rfl, Below.refl _ _⟩
      case round =>
        obtain ⟨k, hk, rfl, rfl, HA, hbr⟩ := hrel
        have hb0r := hb02.next hbr (Nat.le_refl _)
        by_cases hlt : k < vs.length
        · have hki : (k : Int) < (vs.length : Int) := by omega
          obtain ⟨b, off, x, rfl, hb0, hx, hc0, hc1, hc2⟩ := Sl.atEd (hs.below hb0r) hlt
          have hxs := HSZ.out x (mem_at hx)
          have ha := HA.out
          rw [drop_ed hx, List.all_cons] at ha
          have HXO : Hid (∀ z : World, Below w2.heap.size w2 z → Sl strE z x.A x.old) := Lib.hid fun z h => ((HOK.out x (mem_at hx)).below (hb02.next h (Nat.le_refl _))).old
          obtain ⟨xa, xA, xc, xo, xA', xc', xn⟩ := x
          simp only at hc0 hc1 hc2 hxs HXO
          obtain ⟨n, rfl⟩ : ∃ n : Nat, xa = (n : Int) := ⟨xa.toNat, by omega⟩
          have ha : ((decide ((n : Int) ≤ (f.length : Int)) && File.fitGo f n xo) && ((vs.map EdV.ed).drop (k + 1)).all (File.fitAt f)) = (vs.map EdV.ed).all (File.fitAt f) := ha
          have hbM : Below wr.heap.size wr (wr.alloc (.cells #[iv (n : Int), .slice xA xo.length xc, .slice xA' xn.length xc'] 53)) := (Below.refl _ _).alloc (Nat.le_refl _) _
          have hM : Blk (wr.alloc (.cells #[iv (n : Int), .slice xA xo.length xc, .slice xA' xn.length xc'] 53)) wr.heap.size 53 #[iv (n : Int), .slice xA xo.length xc, .slice xA' xn.length xc'] := Blk.new _ _ _
          have HAL := Lib.hid ha
          clear ha HA hx
          go_upto_region 11 with fail
          generalize wr.alloc (.cells #[iv (n : Int), .slice xA xo.length xc, .slice xA' xn.length xc'] 53) = w4 at *
          have hb24 : Below w2.heap.size w2 w4 := hbr.trans (hbM.mono hbr.size)
          have m0 := hM.cell 0
          have m1 := hM.cell 1
          have ml := hM.lt
          have hb04 := hb02.next hb24 (Nat.le_refl _)
          clear hc0 hc1 hc2 hbM
          by_cases hnl : n ≤ f.length
          · have hni : ¬ (f.length : Int) < (n : Int) := by omega
            have HAL2 : Hid ((File.fitGo f n xo && ((vs.map EdV.ed).drop (k + 1)).all (File.fitAt f)) = (vs.map EdV.ed).all (File.fitAt f)) := Lib.hid (by
              rw [← HAL.out, decide_eq_true (show (n : Int) ≤ (f.length : Int) by omega), Bool.true_and])
            go_wp2_with fail
            go_loopw [8, 11, 12, 13, 40] (fun cl _ _ _ i wx => ∃ j : Nat, j ≤ xo.length ∧ i = iv j ∧ cl = .bool false ∧ Hid (File.fitGo f (n + j) (xo.drop j) = File.fitGo f n xo) ∧ wx = w4) (fun _ _ _ _ i _ => xo.length - (intOf i).toNat)
            case atStart => exact ⟨0, by omega, rfl, rfl, rfl, rfl⟩
            case round =>
              obtain ⟨j, hj, rfl, rfl, HFG, rfl⟩ := hrel
              by_cases hjl : j < xo.length
              · have hji : (j : Int) < (xo.length : Int) := by omega
                obtain ⟨b2, off2, s, hA2, hb2', hs2, hd2⟩ := Sl.atS (HXO.out _ hb24) hjl
                subst hA2
                have hg := HFG.out
                rw [drop_at hs2, File.fitGo] at hg
                obtain ⟨p, hp⟩ : ∃ p, p = n + j := ⟨_, rfl⟩
                have hpi : (n : Int) + (j : Int) = (p : Int) := by omega
                have ep : IntKind.i64.wrap (p : Int) = (p : Int) := IntWalk.i64_in _ (by omega)
                have ew : IntKind.i64.wrap ((n : Int) + (j : Int)) = (p : Int) := by rw [hpi]; exact ep
                rw [← hp] at hg
                have HP := Lib.hid hp
                clear hp hs2
                by_cases hpl : p < f.length
                · have hge : ¬ (f.length : Int) ≤ (p : Int) := by omega
                  have hpl2 : (p : Int) < (f.length : Int) := by omega
                  obtain ⟨b3, off3, y, hA3, hb3, hy, hd3⟩ := Sl.atS (hsF.below hb04) hpl
                  subst hA3
                  have hsq := str_eq y s
                  rw [hy] at hg
                  by_cases hys : y = s
                  · rw [decide_eq_true hys] at hsq
                    have hsq' : (y.toList != s.toList) = false := by unfold bne; rw [hsq]; rfl
                    rw [decide_eq_true (by rw [hys]), Bool.true_and] at hg
                    have HN : Hid (File.fitGo f (n + (j + 1)) (xo.drop (j + 1)) = File.fitGo f n xo) := Lib.hid (by
                      have := HP.out; rw [show n + (j + 1) = p + 1 by omega]; exact hg)
                    clear hg hy HFG hys
                    go_wp2_with fail
                    go_roundw
                    case rel => exact ⟨j + 1, hjl, by go_num, rfl, HN, trivial⟩
                    case measure => simp [intOf]; omega
                  · rw [decide_eq_false hys] at hsq
                    have hsq' : (y.toList != s.toList) = true := by unfold bne; rw [hsq]; rfl
                    rw [decide_eq_false (fun e => hys (Option.some.inj e)), Bool.false_and] at hg
                    have hall : (vs.map EdV.ed).all (File.fitAt f) = false := by rw [← HAL2.out, ← hg]; rfl
                    clear hg hy HFG hys HAL HAL2 HFT HCO HCH
                    have HX : Hid (ans = ([], 7)) := Lib.hid (HCL.out hall)
                    go_wp2_with fail
                    try rw [Exit.noGoto_ret]
                    go_ret2
                    exact ⟨.slice none 0 0, by rw [HX.out]; rfl, by rw [HX.out]; exact Own.nil, hb04⟩
                · have hge : (f.length : Int) ≤ (p : Int) := by omega
                  rw [List.getElem?_eq_none (by omega), decide_eq_false (by simp), Bool.false_and] at hg
                  have hall : (vs.map EdV.ed).all (File.fitAt f) = false := by rw [← HAL2.out, ← hg]; rfl
                  clear hg HFG HAL HAL2 HFT HCO HCH
                  have HX : Hid (ans = ([], 7)) := Lib.hid (HCL.out hall)
                  go_wp2_with fail
                  try rw [Exit.noGoto_ret]
                  go_ret2
                  exact ⟨.slice none 0 0, by rw [HX.out]; rfl, by rw [HX.out]; exact Own.nil, hb04⟩
              · have hji : ¬ (j : Int) < (xo.length : Int) := by omega
                have hg := HFG.out
                rw [List.drop_eq_nil_of_le (by omega), File.fitGo] at hg
                have HA2 : Hid (((vs.map EdV.ed).drop (k + 1)).all (File.fitAt f) = (vs.map EdV.ed).all (File.fitAt f)) := Lib.hid (by rw [← HAL2.out, ← hg, Bool.true_and])
                clear hg HFG HAL HAL2
                go_wp2_with fail
                go_roundw
                case rel => exact ⟨k + 1, by omega, by go_num, rfl, HA2, hb24⟩
                case measure => simp [intOf]; omega
          · have hni : (f.length : Int) < (n : Int) := by omega
            have hall : (vs.map EdV.ed).all (File.fitAt f) = false := by rw [← HAL.out, decide_eq_false (show ¬ (n : Int) ≤ (f.length : Int) by omega)]; rfl
            have en : IntKind.i64.wrap (n : Int) = (n : Int) := IntWalk.i64_in _ (by omega)
            have hgn : (f.length : Int) ≤ (n : Int) := by omega
            clear HAL HFT HCO HCH
            go_wp2_with fail
            go_loopw [8, 11, 12, 13, 40] (fun cl _ _ _ i wx => i = iv 0 ∧ cl = .bool true ∧ wx = w4) (fun _ _ _ _ i _ => 0)
            case atStart => exact ⟨rfl, rfl, rfl⟩
            case round =>
              obtain ⟨rfl, rfl, rfl⟩ := hrel
              by_cases hx0 : 0 < xo.length
              · have hxi : (0 : Int) < (xo.length : Int) := by omega
                obtain ⟨b2, off2, s, hA2, hb2', hs2, hd2⟩ := Sl.atS (HXO.out _ hb24) hx0
                subst hA2
                rw [Nat.add_zero] at hd2
                clear hs2
                have HX : Hid (ans = ([], 7)) := Lib.hid (HCL.out hall)
                go_wp2_with fail
                try rw [Exit.noGoto_ret]
                go_ret2
                exact ⟨.slice none 0 0, by rw [HX.out]; rfl, by rw [HX.out]; exact Own.nil, hb04⟩
              · have hxi : ¬ (0 : Int) < (xo.length : Int) := by omega
                have HX : Hid (ans = ([], 7)) := Lib.hid (HCL.out hall)
                go_wp2_with fail
                try rw [Exit.noGoto_ret]
                go_ret2
                exact ⟨.slice none 0 0, by rw [HX.out]; rfl, by rw [HX.out]; exact Own.nil, hb04⟩
        · have hki : ¬ (k : Int) < (vs.length : Int) := by omega
          have ha := HA.out
          rw [show (vs.map EdV.ed).drop k = [] from List.drop_eq_nil_of_le (by rw [List.length_map]; omega)] at ha
          have HX := Lib.hid (HFT.out ha.symm)
          have HFI : Hid (∀ r ∈ vs, r.ed.hi ≤ f.length) := Lib.hid fun r hr => File.fit_hi (HSZ.out r hr).1 (List.all_eq_true.1 ha.symm r.ed (List.mem_map_of_mem hr))
          have hvl : vs.length ≤ 25 := by
            by_cases h : vs.map EdV.ed = []
            · have := congrArg List.length h; rw [List.length_map, List.length_nil] at this; omega
            · have := File.chain_len HCH.out (fun x hx => (HCO.out.at_ x hx).2) h
              rw [List.length_map] at this; omega
          have HMK : Hid (∀ q, (File.make f ((vs.map EdV.ed).drop q)).length ≤ 700) := Lib.hid fun q => by
            have h1 := File.make_le (f := f) (c := (vs.map EdV.ed).drop q) (fun x hx => HCO.out.new x (List.mem_of_mem_drop hx))
            have h2 : ((vs.map EdV.ed).drop q).length ≤ 25 := by rw [List.length_drop, List.length_map]; omega
            omega
          clear ha HA HFT HCL
          go_wp2_with fail
          refine (cloneS F f cf _ hF (hsF.below hb0r)).mono ?_
          rintro _ w5 ⟨v5, rfl, ho5, hb5⟩
          have hb05 := hb0r.next hb5 (Nat.le_refl _)
          have hz5 := hb0r.size
          have ho5' : Own strE 9 w.heap.size w5 v5 f := ho5.base hz5
          clear ho5 hb5 hz5 hbr hb0r
          have ei : IntKind.i64.wrap ((vs.length : Int) - 1) = (vs.length : Int) - 1 := IntWalk.i64_in _ (by omega)
          go_wp2_with fail
          go_loopw [14, 15] (fun v i wx => ∃ q : Nat, q ≤ vs.length ∧ i = iv ((q : Int) - 1) ∧ Hid (Own strE 9 w.heap.size wx v (File.make f ((vs.map EdV.ed).drop q))) ∧ Below w5.heap.size w5 wx) (fun _ i _ => (intOf i + 1).toNat)
          case atStart => exact ⟨vs.length, Nat.le_refl _, rfl, Lib.hid (by rw [show (vs.map EdV.ed).drop vs.length = [] from List.drop_eq_nil_of_le (by rw [List.length_map]; omega)]; exact ho5'), Below.refl _ _⟩
          case round =>
            obtain ⟨q, hq, rfl, HO, hbx⟩ := hrel
            have hb0x := hb05.next hbx (Nat.le_refl _)
            obtain ⟨Ax, cx, rfl, hcx, _⟩ := HO.out.form
            have hml := HMK.out q
            by_cases hq0 : q = 0
            · subst hq0
              have hqi : ¬ (0 : Int) ≤ -1 := by omega
              have ho := HO.out
              rw [List.drop_zero] at ho hml ⊢
              by_cases h24 : 24 < (File.make f (vs.map EdV.ed)).length
              · have h24i : (24 : Int) < ((File.make f (vs.map EdV.ed)).length : Int) := by omega
                have HX2 : Hid (ans = ([], 2)) := Lib.hid (by rw [HX.out, if_pos h24])
                clear HO ho
                go_wp2_with fail
                try rw [Exit.noGoto_ret]
                go_ret2
                exact ⟨.slice none 0 0, by rw [HX2.out]; rfl, by rw [HX2.out]; exact Own.nil, hb0x⟩
              · have h24i : ¬ (24 : Int) < ((File.make f (vs.map EdV.ed)).length : Int) := by omega
                have HX2 : Hid (ans = (File.make f (vs.map EdV.ed), 0)) := Lib.hid (by rw [HX.out, if_neg h24])
                have HO2 := Lib.hid ho
                clear HO ho
                go_wp2_with fail
                try rw [Exit.noGoto_ret]
                go_ret2
                exact ⟨_, by rw [HX2.out]; rfl, by rw [HX2.out]; exact HO2.out, hb0x⟩
            · obtain ⟨r, rfl⟩ : ∃ r, q = r + 1 := ⟨q - 1, by omega⟩
              have hri : ((r + 1 : Nat) : Int) - 1 = (r : Int) := by omega
              have hrl : r < vs.length := by omega
              have hrli : (r : Int) < (vs.length : Int) := by omega
              have hr0 : (0 : Int) ≤ (r : Int) := by omega
              rw [hri]
              obtain ⟨b, off, x, rfl, hb0, hx, hc0, hc1, hc2⟩ := Sl.atEd (hs.below hb0x) hrl
              have hxs := HSZ.out x (mem_at hx)
              have hxh := HFI.out x (mem_at hx)
              have hxn := ((HOK.out x (mem_at hx)).below hb0x).new
              have hd := drop_ed hx
              have hge := File.make_ge (f := f) ((File.chain_drop HCH.out (by rw [List.getElem?_map, hx]; rfl)).weaken (Nat.le_succ x.ed.hi)) (fun y hy => by
                obtain ⟨z, hz, rfl⟩ := List.mem_map.1 (List.mem_of_mem_drop hy)
                exact HFI.out z hz) hxh
              have hmk : File.make f ((vs.map EdV.ed).drop r) = File.made (File.make f ((vs.map EdV.ed).drop (r + 1))) x.ed := by rw [hd]; rfl
              obtain ⟨xa, xA, xc, xo, xA', xc', xn⟩ := x
              simp only at hc0 hc1 hc2 hxs hxn
              obtain ⟨n, rfl⟩ : ∃ n : Nat, xa = (n : Int) := ⟨xa.toNat, by omega⟩
              have hge2 : n + xo.length ≤ (File.make f ((vs.map EdV.ed).drop (r + 1))).length := hge
              have hmk2 : File.make f ((vs.map EdV.ed).drop r) = (File.make f ((vs.map EdV.ed).drop (r + 1))).take n ++ (xn ++ (File.make f ((vs.map EdV.ed).drop (r + 1))).drop (n + xo.length)) := hmk
              have HMD := Lib.hid (made_spec Ax (File.make f ((vs.map EdV.ed).drop (r + 1))) cx n xA xo.length xc xA' xn xc' wr (by omega) (by omega) hge2 hcx HO.out.sl hxn)
              rw [← hmk2] at HMD
              have HMR := Lib.hid (rfl : File.make f ((vs.map EdV.ed).drop r) = File.make f ((vs.map EdV.ed).drop r))
              have hzx := hb0x.size
              clear hge hge2 hmk hmk2 hd hx hxh hxn HO
              generalize (File.make f ((vs.map EdV.ed).drop (r + 1))).length = L at *
              go_wp2_with fail
              refine HMD.out.mono ?_
              rintro _ w7 ⟨v7, rfl, ho7, hb7⟩
              go_wp2_with fail
              go_roundw
              case rel => exact ⟨r, by omega, by go_num, Lib.hid (ho7.base hzx), hbx.next hb7 (Nat.le_refl _)⟩
              case measure => first | (simp [intOf]; done) | (simp [intOf]; omega)
    · rw [if_neg hz2] at hans
      have HX := Lib.hid hans
      generalize File.checkChange (vs.map EdV.ed) = e0 at *
      have he0 : (e0 != 0) = true := by simpa using hz2
      clear hz hz2 hans hgf
      go_enter Tryz.func32, Tryz.ntmps32
      go_wp2_with fail
      go_step3
      go_wp2_with fail
      refine HCF.out.mono ?_
      rintro _ w1 ⟨rfl, hb1⟩
      go_wp2_with fail
      refine (HCC.out w1 hb1).mono ?_
      rintro _ w2 ⟨rfl, hb2⟩
      go_wp2_with fail
      try rw [Exit.noGoto_ret]
      go_ret2
      exact ⟨.slice none 0 0, by rw [HX.out]; rfl, by rw [HX.out]; exact Own.nil, hb1.next hb2 (Nat.le_refl _)⟩
  · rw [if_neg hz] at hans
    have HX := Lib.hid hans
    generalize File.check f = e0 at *
    have he0 : (e0 != 0) = true := by simpa using hz
    clear hz hans
    go_enter Tryz.func32, Tryz.ntmps32
    go_wp2_with fail
    go_step3
    go_wp2_with fail
    refine HCF.out.mono ?_
    rintro _ w1 ⟨rfl, hb1⟩
    go_wp2_with fail
    try rw [Exit.noGoto_ret]
    go_ret2
    exact ⟨.slice none 0 0, by rw [HX.out]; rfl, by rw [HX.out]; exact Own.nil, hb1⟩
end Fl
end Go.Proofs.YtekkhnjepcebkaaGreatDoor
