/- The reference of layer 11: first, Common, Alike. Conditions: few lines. -/
import Derived.Test.YtekkhnjepcebkaaDoorRefFe
import Derived.Test.YtekkhnjepcebkaaDoorFreeO
import Derived.Test.YtekkhnjepcebkaaDoorFlL
import Derived.Test.YtekkhnjepcebkaaDoorFlU
import Derived.Deep.QuietTactic
import Derived.BigQuiet
set_option linter.unusedVariables false
set_option linter.unusedSimpArgs false
namespace Go.Proofs.YtekkhnjepcebkaaDoor
namespace Fl
open Go.RowKit
set_option maxRecDepth 100000
theorem Sl.cellS {w : World} {b off k : Nat} {xs : List ByteArray} {x : ByteArray} (h : Sl strE w (some ⟨b, off, none⟩) xs) (hx : xs[k]? = some x) : ∀ W, Below w.heap.size w W → W.cell? ⟨b, off + k, none⟩ = some (.string x) := fun W hW => by
  obtain ⟨_, _, s2, hA', _, hx2, hc2⟩ := Sl.atS (h.below hW) (List.getElem?_eq_some_iff.1 hx).1
  injection hA' with hA'
  injection hA' with e1 e2 _
  subst e1; subst e2
  rw [hx] at hx2
  rw [hc2, Option.some.inj hx2]
theorem cut_from' {A : Option Addr} {base : List ByteArray} {c i : Nat} {w : World} (hc : base.length ≤ c) (hi : i ≤ base.length) (hs : Sl strE w A base) :
    ∃ (X : Option Addr) (n : Nat) (ys : List ByteArray), ys = base.drop i ∧ ys.length ≤ base.length ∧ ys.length ≤ n ∧ Sl strE w X ys ∧ ∀ W : World, (Instr.slice 22 (.slice A base.length c) (some (iv (i : Int))) none none).run Tryd.prog W = .ok (.slice X ys.length n) W := by
  have he : File.cut base i base.length = base.drop i := by unfold File.cut; exact List.take_of_length_le (by rw [List.length_drop]; exact Nat.le_refl _)
  refine ⟨cutA A c i 1, c - i, base.drop i, rfl, by rw [List.length_drop]; omega, by rw [List.length_drop]; omega, he ▸ Sl.cut hs hc hi (Nat.le_refl _), ?_⟩
  intro W
  rw [List.length_drop]
  exact run_cutFrom strE tyStrs A base.length c i hi W
set_option maxHeartbeats 8000000 in
theorem first_spec (A : Option Addr) (a : List ByteArray) (c : Nat) (A' : Option Addr) (b : List ByteArray) (c' : Nat) (i j left : Nat) (w : World) (ha : a.length ≤ 24) (hb : b.length ≤ 24) (hi : i ≤ a.length) (hj : j ≤ b.length) (hl : left ≤ 24) (hac : a.length ≤ c) (hbc : b.length ≤ c') (hsa : Sl strE w A a) (hsb : Sl strE w A' b) :
    Calls Tryd.prog 37 #[.slice A a.length c, .slice A' b.length c', iv (i : Int), iv (j : Int), iv (left : Int)] w fun e w' => e = .returned (.tuple #[iv ((((File.firstGo a b left j (a.length - i) i).getD (0, 0)).1 : Nat) : Int), iv ((((File.firstGo a b left j (a.length - i) i).getD (0, 0)).2 : Nat) : Int)]) ∧ Below w.heap.size w w' := by
  obtain ⟨R, hR⟩ : ∃ R, R = File.firstGo a b left j (a.length - i) i := ⟨_, rfl⟩
  rw [← hR]
  have HR0 := Lib.hid hR.symm
  clear hR
  go_enter Tryd.func37, Tryd.ntmps37
  go_wp2_with fail
  go_loopw [12, 13] (fun v _ wr => ∃ p1 : Nat, p1 ≤ a.length ∧ v = iv (p1 : Int) ∧ Hid (File.firstGo a b left j (a.length - p1) p1 = R) ∧ Below w.heap.size w wr) (fun v _ _ => a.length - (intOf v).toNat)
  case atStart => exact ⟨i, hi, rfl, HR0, Below.refl _ _⟩
  case round =>
    obtain ⟨p1, hx, rfl, HR, hbr⟩ := hrel
    clear HR0
    by_cases hlt : p1 < a.length
    · have hxi : (p1 : Int) < (a.length : Int) := by omega
      have hr := HR.out
      rw [show a.length - p1 = (a.length - (p1 + 1)) + 1 by omega, File.firstGo] at hr
      have HR1 : Hid ((match File.rowFirst a b left p1 (b.length - j) j with | some p2 => some (p1, p2) | none => File.firstGo a b left j (a.length - (p1 + 1)) (p1 + 1)) = R) := Lib.hid (by rw [← hr]; rfl)
      clear hr HR
      go_wp2_with fail
      go_loopw [13] (fun v wx => ∃ p2 : Nat, p2 ≤ b.length ∧ v = iv (p2 : Int) ∧ Hid ((match File.rowFirst a b left p1 (b.length - p2) p2 with | some p2 => some (p1, p2) | none => File.firstGo a b left j (a.length - (p1 + 1)) (p1 + 1)) = R) ∧ Below w.heap.size w wx) (fun v _ => b.length - (intOf v).toNat)
      case atStart => exact ⟨j, hj, rfl, HR1, hbr⟩
      case round =>
        clear HR1
        obtain ⟨p2, hy, rfl, HR, hbx⟩ := hrel
        by_cases hlt2 : p2 < b.length
        · have hyi : (p2 : Int) < (b.length : Int) := by omega
          have hr := HR.out
          rw [show b.length - p2 = (b.length - (p2 + 1)) + 1 by omega, File.rowFirst] at hr
          obtain ⟨X1, n1, ya, hya, hyal, hyn, hsy, hC1⟩ := cut_from' (i := p1 + 1) hac (by omega) (hsa.below hbx)
          obtain ⟨X2, n2, yb, hyb, hybl, hyn2, hsz, hC2⟩ := cut_from' (i := p2 + 1) hbc (by omega) (hsb.below hbx)
          have hC1 : ∀ W : World, (Instr.slice 22 (.slice A a.length c) (some (iv ((p1 : Int) + 1))) none none).run Tryd.prog W = .ok (.slice X1 ya.length n1) W := hC1
          have hC2 : ∀ W : World, (Instr.slice 22 (.slice A' b.length c') (some (iv ((p2 : Int) + 1))) none none).run Tryd.prog W = .ok (.slice X2 yb.length n2) W := hC2
          obtain ⟨ba, oa, sa, rfl, hba, hxa, hca⟩ := Sl.atS (hsa.below hbx) hlt
          obtain ⟨bb, ob, sb, rfl, hbb, hxb, hcb⟩ := Sl.atS (hsb.below hbx) hlt2
          have HSA := Lib.hid (Sl.cellS (hsa.below hbx) hxa)
          have HSB := Lib.hid (Sl.cellS (hsb.below hbx) hxb)
          obtain ⟨F, hF⟩ : ∃ F, F = File.from_ a b (p1 + 1) (p2 + 1) := ⟨_, rfl⟩
          have hFl : File.lcs ya yb = F := by rw [hF, hya, hyb]; rfl
          have hF24 : F ≤ 24 := by rw [hF]; have := File.from_le a b (p1 + 1) (p2 + 1); omega
          have hM := Lib.hid fun W (h : Below wr.heap.size wr W) => most_spec X1 ya n1 X2 yb n2 W (by omega) (by omega) (hsy.below h) (hsz.below h)
          rw [hFl] at hM
          obtain ⟨q, hq⟩ : ∃ q, (sa.toList == sb.toList) = q := ⟨_, rfl⟩
          have hqd : q = decide (sa = sb) := by rw [← hq, str_eq]
          have hfit : File.fits a b left p1 p2 = (q && decide (F + 1 = left)) := by
            unfold File.fits
            rw [hxa, hxb, ← hF, hqd]
          rw [hfit] at hr
          have HRR := Lib.hid hr
          have ewx : IntKind.i64.wrap ((p1 : Int) + 1) = (p1 : Int) + 1 := IntWalk.i64_in _ (by omega)
          have ewy : IntKind.i64.wrap ((p2 : Int) + 1) = (p2 : Int) + 1 := IntWalk.i64_in _ (by omega)
          have ewF : IntKind.i64.wrap ((F : Int) + 1) = (F : Int) + 1 := IntWalk.i64_in _ (by omega)
          clear hqd hr HR hfit hF hFl hya hyb hsy hsz hxa hxb hca hcb
          rcases Bool.eq_false_or_eq_true q with hqv | hqv
          rotate_left
          · have HN : Hid ((match File.rowFirst a b left p1 (b.length - (p2 + 1)) (p2 + 1) with | some p2 => some (p1, p2) | none => File.firstGo a b left j (a.length - (p1 + 1)) (p1 + 1)) = R) := Lib.hid (by rw [← HRR.out, hqv]; simp)
            go_upto_region 7 with fail
            refine wp_free_lit (by kernel_rfl) 23 (by kernel_rfl) (by kernel_rfl) (by decide) (fun _ x => Below wr.heap.size wr x) (fun x x' => Below x.heap.size x x')
              [fun _ u _ => u = .slice (some ⟨ba, oa, none⟩) a.length c,
               fun _ u _ => u = iv (p1 : Int),
               fun _ u _ => u = .pointer (some ⟨ba, oa + p1, none⟩),
               fun _ u _ => u = .string sa,
               fun _ u _ => u = .slice (some ⟨bb, ob, none⟩) b.length c',
               fun _ u _ => u = iv (p2 : Int),
               fun _ u _ => u = .pointer (some ⟨bb, ob + p2, none⟩),
               fun _ u _ => u = .string sb,
               fun _ u _ => u = .bool q,
               fun _ u _ => u = .bool q,
               fun _ u _ => u = undef,
               fun _ u _ => u = undef,
               fun _ u _ => u = undef,
               fun _ u _ => u = undef,
               fun _ u _ => u = undef,
               fun _ u _ => u = undef,
               fun _ u _ => u = undef,
               fun _ u _ => u = undef,
               fun _ u _ => u = undef,
               fun _ u _ => u = undef,
               fun _ u _ => u = undef,
               fun _ u _ => u = undef,
               fun _ u _ => u = .bool false]
              (Below.refl _ wr).drew ?_ ?_
            · simp only [List.take_succ_cons, List.take_zero, HopL]
              refine ⟨?_, ?_, ?_, ?_, ?_, ?_, ?_, ?_, ?_, ?_, ?_, ?_, ?_, ?_, ?_, ?_, ?_, ?_, ?_, ?_, ?_, ?_, ?_, trivial⟩
              · refine ⟨fun _ _ _ _ _ h => h, fun _ _ _ _ h _ => h, fun v nR x hnR hR hk => ?_⟩
                simp only [List.take_succ_cons, List.take_zero, frameF, Act.put, List.setIfInBounds_toArray, List.set_cons_zero, List.set_cons_succ]
                exact stepF_val (by first | rfl | simp [Region.wanted, yielded, *]) (by go_simp <;> omega) ⟨rfl, Below.refl _ _, hR⟩
              · refine ⟨fun _ _ _ _ _ h => h, fun _ _ _ _ h _ => h, fun v nR x hnR hR hk => ?_⟩
                simp only [List.take_succ_cons, List.take_zero, frameF, Act.put, List.setIfInBounds_toArray, List.set_cons_zero, List.set_cons_succ]
                exact stepF_val (by first | rfl | simp [Region.wanted, yielded, *]) (by go_simp <;> omega) ⟨rfl, Below.refl _ _, hR⟩
              · refine ⟨fun _ _ _ _ _ h => h, fun _ _ _ _ h _ => h, fun v nR x hnR hR hk => ?_⟩
                have h0 : v 0 = .slice (some ⟨ba, oa, none⟩) a.length c := hk 0 (by kernel_rfl)
                have h1 : v 1 = iv (p1 : Int) := hk 1 (by kernel_rfl)
                simp only [List.take_succ_cons, List.take_zero, frameF, Act.put, List.setIfInBounds_toArray, List.set_cons_zero, List.set_cons_succ]
                exact stepF_val (by first | rfl | simp [Region.wanted, yielded, *]) (by go_simp <;> omega) ⟨rfl, Below.refl _ _, hR⟩
              · refine ⟨fun _ _ _ _ _ h => h, fun _ _ _ _ h _ => h, fun v nR x hnR hR hk => ?_⟩
                have h2 : v 2 = .pointer (some ⟨ba, oa + p1, none⟩) := hk 2 (by kernel_rfl)
                have g1 := HSA.out x hR
                simp only [List.take_succ_cons, List.take_zero, frameF, Act.put, List.setIfInBounds_toArray, List.set_cons_zero, List.set_cons_succ]
                exact stepF_val (by first | rfl | simp [Region.wanted, yielded, *]) (by go_simp <;> omega) ⟨rfl, Below.refl _ _, hR⟩
              · refine ⟨fun _ _ _ _ _ h => h, fun _ _ _ _ h _ => h, fun v nR x hnR hR hk => ?_⟩
                simp only [List.take_succ_cons, List.take_zero, frameF, Act.put, List.setIfInBounds_toArray, List.set_cons_zero, List.set_cons_succ]
                exact stepF_val (by first | rfl | simp [Region.wanted, yielded, *]) (by go_simp <;> omega) ⟨rfl, Below.refl _ _, hR⟩
              · refine ⟨fun _ _ _ _ _ h => h, fun _ _ _ _ h _ => h, fun v nR x hnR hR hk => ?_⟩
                simp only [List.take_succ_cons, List.take_zero, frameF, Act.put, List.setIfInBounds_toArray, List.set_cons_zero, List.set_cons_succ]
                exact stepF_val (by first | rfl | simp [Region.wanted, yielded, *]) (by go_simp <;> omega) ⟨rfl, Below.refl _ _, hR⟩
              · refine ⟨fun _ _ _ _ _ h => h, fun _ _ _ _ h _ => h, fun v nR x hnR hR hk => ?_⟩
                have h4 : v 4 = .slice (some ⟨bb, ob, none⟩) b.length c' := hk 4 (by kernel_rfl)
                have h5 : v 5 = iv (p2 : Int) := hk 5 (by kernel_rfl)
                simp only [List.take_succ_cons, List.take_zero, frameF, Act.put, List.setIfInBounds_toArray, List.set_cons_zero, List.set_cons_succ]
                exact stepF_val (by first | rfl | simp [Region.wanted, yielded, *]) (by go_simp <;> omega) ⟨rfl, Below.refl _ _, hR⟩
              · refine ⟨fun _ _ _ _ _ h => h, fun _ _ _ _ h _ => h, fun v nR x hnR hR hk => ?_⟩
                have h6 : v 6 = .pointer (some ⟨bb, ob + p2, none⟩) := hk 6 (by kernel_rfl)
                have g1 := HSB.out x hR
                simp only [List.take_succ_cons, List.take_zero, frameF, Act.put, List.setIfInBounds_toArray, List.set_cons_zero, List.set_cons_succ]
                exact stepF_val (by first | rfl | simp [Region.wanted, yielded, *]) (by go_simp <;> omega) ⟨rfl, Below.refl _ _, hR⟩
              · refine ⟨fun _ _ _ _ _ h => h, fun _ _ _ _ h _ => h, fun v nR x hnR hR hk => ?_⟩
                have h3 : v 3 = .string sa := hk 3 (by kernel_rfl)
                have h7 : v 7 = .string sb := hk 7 (by kernel_rfl)
                simp only [List.take_succ_cons, List.take_zero, frameF, Act.put, List.setIfInBounds_toArray, List.set_cons_zero, List.set_cons_succ]
                exact stepF_val (by first | rfl | simp [Region.wanted, yielded, *]) (by go_simp <;> omega) ⟨rfl, Below.refl _ _, hR⟩
              · refine ⟨fun _ _ _ _ _ h => h, fun _ _ _ _ h _ => h, fun v nR x hnR hR hk => ?_⟩
                have h8 : v 8 = .bool q := hk 8 (by kernel_rfl)
                simp only [List.take_succ_cons, List.take_zero, frameF, Act.put, List.setIfInBounds_toArray, List.set_cons_zero, List.set_cons_succ]
                exact stepF_val (by first | rfl | simp [Region.wanted, yielded, *]) (by go_simp <;> omega) ⟨rfl, Below.refl _ _, hR⟩
              · refine ⟨fun _ _ _ _ _ h => h, fun _ _ _ _ h _ => h, fun v nR x hnR hR hk => ?_⟩
                have h9 : v 9 = .bool q := hk 9 (by kernel_rfl)
                simp only [List.take_succ_cons, List.take_zero, frameF, Act.put, List.setIfInBounds_toArray, List.set_cons_zero, List.set_cons_succ]
                exact stepF_out (by first | rfl | (simp [Region.wanted, yielded, *]; done) | (simp [Region.wanted, yielded, undef, *]; done)) ⟨rfl, Below.refl _ _, hR⟩
              · refine ⟨fun _ _ _ _ _ h => h, fun _ _ _ _ h _ => h, fun v nR x hnR hR hk => ?_⟩
                have h9 : v 9 = .bool q := hk 9 (by kernel_rfl)
                simp only [List.take_succ_cons, List.take_zero, frameF, Act.put, List.setIfInBounds_toArray, List.set_cons_zero, List.set_cons_succ]
                exact stepF_out (by first | rfl | (simp [Region.wanted, yielded, *]; done) | (simp [Region.wanted, yielded, undef, *]; done)) ⟨rfl, Below.refl _ _, hR⟩
              · refine ⟨fun _ _ _ _ _ h => h, fun _ _ _ _ h _ => h, fun v nR x hnR hR hk => ?_⟩
                have h9 : v 9 = .bool q := hk 9 (by kernel_rfl)
                simp only [List.take_succ_cons, List.take_zero, frameF, Act.put, List.setIfInBounds_toArray, List.set_cons_zero, List.set_cons_succ]
                exact stepF_out (by first | rfl | (simp [Region.wanted, yielded, *]; done) | (simp [Region.wanted, yielded, undef, *]; done)) ⟨rfl, Below.refl _ _, hR⟩
              · refine ⟨fun _ _ _ _ _ h => h, fun _ _ _ _ h _ => h, fun v nR x hnR hR hk => ?_⟩
                have h9 : v 9 = .bool q := hk 9 (by kernel_rfl)
                simp only [List.take_succ_cons, List.take_zero, frameF, Act.put, List.setIfInBounds_toArray, List.set_cons_zero, List.set_cons_succ]
                exact stepF_out (by first | rfl | (simp [Region.wanted, yielded, *]; done) | (simp [Region.wanted, yielded, undef, *]; done)) ⟨rfl, Below.refl _ _, hR⟩
              · refine ⟨fun _ _ _ _ _ h => h, fun _ _ _ _ h _ => h, fun v nR x hnR hR hk => ?_⟩
                have h9 : v 9 = .bool q := hk 9 (by kernel_rfl)
                simp only [List.take_succ_cons, List.take_zero, frameF, Act.put, List.setIfInBounds_toArray, List.set_cons_zero, List.set_cons_succ]
                exact stepF_out (by first | rfl | (simp [Region.wanted, yielded, *]; done) | (simp [Region.wanted, yielded, undef, *]; done)) ⟨rfl, Below.refl _ _, hR⟩
              · refine ⟨fun _ _ _ _ _ h => h, fun _ _ _ _ h _ => h, fun v nR x hnR hR hk => ?_⟩
                have h9 : v 9 = .bool q := hk 9 (by kernel_rfl)
                simp only [List.take_succ_cons, List.take_zero, frameF, Act.put, List.setIfInBounds_toArray, List.set_cons_zero, List.set_cons_succ]
                exact stepF_out (by first | rfl | (simp [Region.wanted, yielded, *]; done) | (simp [Region.wanted, yielded, undef, *]; done)) ⟨rfl, Below.refl _ _, hR⟩
              · refine ⟨fun _ _ _ _ _ h => h, fun _ _ _ _ h _ => h, fun v nR x hnR hR hk => ?_⟩
                have h9 : v 9 = .bool q := hk 9 (by kernel_rfl)
                simp only [List.take_succ_cons, List.take_zero, frameF, Act.put, List.setIfInBounds_toArray, List.set_cons_zero, List.set_cons_succ]
                exact stepF_out (by first | rfl | (simp [Region.wanted, yielded, *]; done) | (simp [Region.wanted, yielded, undef, *]; done)) ⟨rfl, Below.refl _ _, hR⟩
              · refine ⟨fun _ _ _ _ _ h => h, fun _ _ _ _ h _ => h, fun v nR x hnR hR hk => ?_⟩
                have h9 : v 9 = .bool q := hk 9 (by kernel_rfl)
                simp only [List.take_succ_cons, List.take_zero, frameF, Act.put, List.setIfInBounds_toArray, List.set_cons_zero, List.set_cons_succ]
                exact stepF_out (by first | rfl | (simp [Region.wanted, yielded, *]; done) | (simp [Region.wanted, yielded, undef, *]; done)) ⟨rfl, Below.refl _ _, hR⟩
              · refine ⟨fun _ _ _ _ _ h => h, fun _ _ _ _ h _ => h, fun v nR x hnR hR hk => ?_⟩
                have h9 : v 9 = .bool q := hk 9 (by kernel_rfl)
                simp only [List.take_succ_cons, List.take_zero, frameF, Act.put, List.setIfInBounds_toArray, List.set_cons_zero, List.set_cons_succ]
                exact stepF_out (by first | rfl | (simp [Region.wanted, yielded, *]; done) | (simp [Region.wanted, yielded, undef, *]; done)) ⟨rfl, Below.refl _ _, hR⟩
              · refine ⟨fun _ _ _ _ _ h => h, fun _ _ _ _ h _ => h, fun v nR x hnR hR hk => ?_⟩
                have h9 : v 9 = .bool q := hk 9 (by kernel_rfl)
                simp only [List.take_succ_cons, List.take_zero, frameF, Act.put, List.setIfInBounds_toArray, List.set_cons_zero, List.set_cons_succ]
                exact stepF_out (by first | rfl | (simp [Region.wanted, yielded, *]; done) | (simp [Region.wanted, yielded, undef, *]; done)) ⟨rfl, Below.refl _ _, hR⟩
              · refine ⟨fun _ _ _ _ _ h => h, fun _ _ _ _ h _ => h, fun v nR x hnR hR hk => ?_⟩
                have h9 : v 9 = .bool q := hk 9 (by kernel_rfl)
                simp only [List.take_succ_cons, List.take_zero, frameF, Act.put, List.setIfInBounds_toArray, List.set_cons_zero, List.set_cons_succ]
                exact stepF_out (by first | rfl | (simp [Region.wanted, yielded, *]; done) | (simp [Region.wanted, yielded, undef, *]; done)) ⟨rfl, Below.refl _ _, hR⟩
              · refine ⟨fun _ _ _ _ _ h => h, fun _ _ _ _ h _ => h, fun v nR x hnR hR hk => ?_⟩
                have h9 : v 9 = .bool q := hk 9 (by kernel_rfl)
                simp only [List.take_succ_cons, List.take_zero, frameF, Act.put, List.setIfInBounds_toArray, List.set_cons_zero, List.set_cons_succ]
                exact stepF_out (by first | rfl | (simp [Region.wanted, yielded, *]; done) | (simp [Region.wanted, yielded, undef, *]; done)) ⟨rfl, Below.refl _ _, hR⟩
              · refine ⟨fun _ _ _ _ _ h => h, fun _ _ _ _ h _ => h, fun v nR x hnR hR hk => ?_⟩
                have h9 : v 9 = .bool q := hk 9 (by kernel_rfl)
                have h21 : v 21 = undef := hk 21 (by kernel_rfl)
                simp only [List.take_succ_cons, List.take_zero, frameF, Act.put, List.setIfInBounds_toArray, List.set_cons_zero, List.set_cons_succ]
                exact stepF_val (by first | rfl | simp [Region.wanted, yielded, *]) (by go_simp <;> omega) ⟨rfl, Below.refl _ _, hR⟩
            · intro v nR x1 hnR hR hall
              have h22 : v 22 = .bool false := hall 22 (by decide)
              clear hall hnR
              simp only [List.drop_succ_cons, List.drop_zero, List.take_succ_cons, List.take_zero, frameF, Act.put, List.setIfInBounds_toArray, List.set_cons_zero, List.set_cons_succ, Nat.zero_add, Nat.reduceAdd, h22]
              have hb2 := hbx.next hR (Nat.le_refl _)
              go_wp2_with fail
              go_roundw
              case rel => exact ⟨p2 + 1, by omega, by go_num, HN, hb2⟩
              case measure => simp [intOf]; omega
          · obtain ⟨t, ht⟩ : ∃ t, (((F : Int) + 1) == (left : Int)) = t := ⟨_, rfl⟩
            have htd : t = decide (F + 1 = left) := by
              rw [← ht, Bool.eq_iff_iff]
              simp
              omega
            have HT := Lib.hid htd
            clear htd
            go_upto_region 7 with fail
            refine wp_free_lit (by kernel_rfl) 23 (by kernel_rfl) (by kernel_rfl) (by decide) (fun _ x => Below wr.heap.size wr x) (fun x x' => Below x.heap.size x x')
              [fun _ u _ => u = .slice (some ⟨ba, oa, none⟩) a.length c,
               fun _ u _ => u = iv (p1 : Int),
               fun _ u _ => u = .pointer (some ⟨ba, oa + p1, none⟩),
               fun _ u _ => u = .string sa,
               fun _ u _ => u = .slice (some ⟨bb, ob, none⟩) b.length c',
               fun _ u _ => u = iv (p2 : Int),
               fun _ u _ => u = .pointer (some ⟨bb, ob + p2, none⟩),
               fun _ u _ => u = .string sb,
               fun _ u _ => u = .bool q,
               fun _ u _ => u = .bool q,
               fun _ u _ => u = .slice (some ⟨ba, oa, none⟩) a.length c,
               fun _ u _ => u = iv (p1 : Int),
               fun _ u _ => u = iv ((p1 : Int) + 1),
               fun _ u _ => u = .slice X1 ya.length n1,
               fun _ u _ => u = .slice (some ⟨bb, ob, none⟩) b.length c',
               fun _ u _ => u = iv (p2 : Int),
               fun _ u _ => u = iv ((p2 : Int) + 1),
               fun _ u _ => u = .slice X2 yb.length n2,
               fun _ u _ => u = iv (F : Int),
               fun _ u _ => u = iv ((F : Int) + 1),
               fun _ u _ => u = iv (left : Int),
               fun _ u _ => u = .bool t,
               fun _ u _ => u = .bool t]
              (Below.refl _ wr).drew ?_ ?_
            · simp only [List.take_succ_cons, List.take_zero, HopL]
              refine ⟨?_, ?_, ?_, ?_, ?_, ?_, ?_, ?_, ?_, ?_, ?_, ?_, ?_, ?_, ?_, ?_, ?_, ?_, ?_, ?_, ?_, ?_, ?_, trivial⟩
              · refine ⟨fun _ _ _ _ _ h => h, fun _ _ _ _ h _ => h, fun v nR x hnR hR hk => ?_⟩
                simp only [List.take_succ_cons, List.take_zero, frameF, Act.put, List.setIfInBounds_toArray, List.set_cons_zero, List.set_cons_succ]
                exact stepF_val (by first | rfl | simp [Region.wanted, yielded, *]) (by go_simp <;> omega) ⟨rfl, Below.refl _ _, hR⟩
              · refine ⟨fun _ _ _ _ _ h => h, fun _ _ _ _ h _ => h, fun v nR x hnR hR hk => ?_⟩
                simp only [List.take_succ_cons, List.take_zero, frameF, Act.put, List.setIfInBounds_toArray, List.set_cons_zero, List.set_cons_succ]
                exact stepF_val (by first | rfl | simp [Region.wanted, yielded, *]) (by go_simp <;> omega) ⟨rfl, Below.refl _ _, hR⟩
              · refine ⟨fun _ _ _ _ _ h => h, fun _ _ _ _ h _ => h, fun v nR x hnR hR hk => ?_⟩
                have h0 : v 0 = .slice (some ⟨ba, oa, none⟩) a.length c := hk 0 (by kernel_rfl)
                have h1 : v 1 = iv (p1 : Int) := hk 1 (by kernel_rfl)
                simp only [List.take_succ_cons, List.take_zero, frameF, Act.put, List.setIfInBounds_toArray, List.set_cons_zero, List.set_cons_succ]
                exact stepF_val (by first | rfl | simp [Region.wanted, yielded, *]) (by go_simp <;> omega) ⟨rfl, Below.refl _ _, hR⟩
              · refine ⟨fun _ _ _ _ _ h => h, fun _ _ _ _ h _ => h, fun v nR x hnR hR hk => ?_⟩
                have h2 : v 2 = .pointer (some ⟨ba, oa + p1, none⟩) := hk 2 (by kernel_rfl)
                have g1 := HSA.out x hR
                simp only [List.take_succ_cons, List.take_zero, frameF, Act.put, List.setIfInBounds_toArray, List.set_cons_zero, List.set_cons_succ]
                exact stepF_val (by first | rfl | simp [Region.wanted, yielded, *]) (by go_simp <;> omega) ⟨rfl, Below.refl _ _, hR⟩
              · refine ⟨fun _ _ _ _ _ h => h, fun _ _ _ _ h _ => h, fun v nR x hnR hR hk => ?_⟩
                simp only [List.take_succ_cons, List.take_zero, frameF, Act.put, List.setIfInBounds_toArray, List.set_cons_zero, List.set_cons_succ]
                exact stepF_val (by first | rfl | simp [Region.wanted, yielded, *]) (by go_simp <;> omega) ⟨rfl, Below.refl _ _, hR⟩
              · refine ⟨fun _ _ _ _ _ h => h, fun _ _ _ _ h _ => h, fun v nR x hnR hR hk => ?_⟩
                simp only [List.take_succ_cons, List.take_zero, frameF, Act.put, List.setIfInBounds_toArray, List.set_cons_zero, List.set_cons_succ]
                exact stepF_val (by first | rfl | simp [Region.wanted, yielded, *]) (by go_simp <;> omega) ⟨rfl, Below.refl _ _, hR⟩
              · refine ⟨fun _ _ _ _ _ h => h, fun _ _ _ _ h _ => h, fun v nR x hnR hR hk => ?_⟩
                have h4 : v 4 = .slice (some ⟨bb, ob, none⟩) b.length c' := hk 4 (by kernel_rfl)
                have h5 : v 5 = iv (p2 : Int) := hk 5 (by kernel_rfl)
                simp only [List.take_succ_cons, List.take_zero, frameF, Act.put, List.setIfInBounds_toArray, List.set_cons_zero, List.set_cons_succ]
                exact stepF_val (by first | rfl | simp [Region.wanted, yielded, *]) (by go_simp <;> omega) ⟨rfl, Below.refl _ _, hR⟩
              · refine ⟨fun _ _ _ _ _ h => h, fun _ _ _ _ h _ => h, fun v nR x hnR hR hk => ?_⟩
                have h6 : v 6 = .pointer (some ⟨bb, ob + p2, none⟩) := hk 6 (by kernel_rfl)
                have g1 := HSB.out x hR
                simp only [List.take_succ_cons, List.take_zero, frameF, Act.put, List.setIfInBounds_toArray, List.set_cons_zero, List.set_cons_succ]
                exact stepF_val (by first | rfl | simp [Region.wanted, yielded, *]) (by go_simp <;> omega) ⟨rfl, Below.refl _ _, hR⟩
              · refine ⟨fun _ _ _ _ _ h => h, fun _ _ _ _ h _ => h, fun v nR x hnR hR hk => ?_⟩
                have h3 : v 3 = .string sa := hk 3 (by kernel_rfl)
                have h7 : v 7 = .string sb := hk 7 (by kernel_rfl)
                simp only [List.take_succ_cons, List.take_zero, frameF, Act.put, List.setIfInBounds_toArray, List.set_cons_zero, List.set_cons_succ]
                exact stepF_val (by first | rfl | simp [Region.wanted, yielded, *]) (by go_simp <;> omega) ⟨rfl, Below.refl _ _, hR⟩
              · refine ⟨fun _ _ _ _ _ h => h, fun _ _ _ _ h _ => h, fun v nR x hnR hR hk => ?_⟩
                have h8 : v 8 = .bool q := hk 8 (by kernel_rfl)
                simp only [List.take_succ_cons, List.take_zero, frameF, Act.put, List.setIfInBounds_toArray, List.set_cons_zero, List.set_cons_succ]
                exact stepF_val (by first | rfl | simp [Region.wanted, yielded, *]) (by go_simp <;> omega) ⟨rfl, Below.refl _ _, hR⟩
              · refine ⟨fun _ _ _ _ _ h => h, fun _ _ _ _ h _ => h, fun v nR x hnR hR hk => ?_⟩
                have h9 : v 9 = .bool q := hk 9 (by kernel_rfl)
                simp only [List.take_succ_cons, List.take_zero, frameF, Act.put, List.setIfInBounds_toArray, List.set_cons_zero, List.set_cons_succ]
                exact stepF_val (by first | rfl | simp [Region.wanted, yielded, *]) (by go_simp <;> omega) ⟨rfl, Below.refl _ _, hR⟩
              · refine ⟨fun _ _ _ _ _ h => h, fun _ _ _ _ h _ => h, fun v nR x hnR hR hk => ?_⟩
                have h9 : v 9 = .bool q := hk 9 (by kernel_rfl)
                simp only [List.take_succ_cons, List.take_zero, frameF, Act.put, List.setIfInBounds_toArray, List.set_cons_zero, List.set_cons_succ]
                exact stepF_val (by first | rfl | simp [Region.wanted, yielded, *]) (by go_simp <;> omega) ⟨rfl, Below.refl _ _, hR⟩
              · refine ⟨fun _ _ _ _ _ h => h, fun _ _ _ _ h _ => h, fun v nR x hnR hR hk => ?_⟩
                have h11 : v 11 = iv (p1 : Int) := hk 11 (by kernel_rfl)
                have h9 : v 9 = .bool q := hk 9 (by kernel_rfl)
                simp only [List.take_succ_cons, List.take_zero, frameF, Act.put, List.setIfInBounds_toArray, List.set_cons_zero, List.set_cons_succ]
                exact stepF_val (by first | rfl | simp [Region.wanted, yielded, *]) (by go_simp <;> omega) ⟨rfl, Below.refl _ _, hR⟩
              · refine ⟨fun _ _ _ _ _ h => h, fun _ _ _ _ h _ => h, fun v nR x hnR hR hk => ?_⟩
                have h10 : v 10 = .slice (some ⟨ba, oa, none⟩) a.length c := hk 10 (by kernel_rfl)
                have h12 : v 12 = iv ((p1 : Int) + 1) := hk 12 (by kernel_rfl)
                have h9 : v 9 = .bool q := hk 9 (by kernel_rfl)
                simp only [List.take_succ_cons, List.take_zero, frameF, Act.put, List.setIfInBounds_toArray, List.set_cons_zero, List.set_cons_succ]
                exact stepF_val (by first | rfl | simp [Region.wanted, yielded, *]) (by go_simp <;> omega) ⟨rfl, Below.refl _ _, hR⟩
              · refine ⟨fun _ _ _ _ _ h => h, fun _ _ _ _ h _ => h, fun v nR x hnR hR hk => ?_⟩
                have h9 : v 9 = .bool q := hk 9 (by kernel_rfl)
                simp only [List.take_succ_cons, List.take_zero, frameF, Act.put, List.setIfInBounds_toArray, List.set_cons_zero, List.set_cons_succ]
                exact stepF_val (by first | rfl | simp [Region.wanted, yielded, *]) (by go_simp <;> omega) ⟨rfl, Below.refl _ _, hR⟩
              · refine ⟨fun _ _ _ _ _ h => h, fun _ _ _ _ h _ => h, fun v nR x hnR hR hk => ?_⟩
                have h9 : v 9 = .bool q := hk 9 (by kernel_rfl)
                simp only [List.take_succ_cons, List.take_zero, frameF, Act.put, List.setIfInBounds_toArray, List.set_cons_zero, List.set_cons_succ]
                exact stepF_val (by first | rfl | simp [Region.wanted, yielded, *]) (by go_simp <;> omega) ⟨rfl, Below.refl _ _, hR⟩
              · refine ⟨fun _ _ _ _ _ h => h, fun _ _ _ _ h _ => h, fun v nR x hnR hR hk => ?_⟩
                have h15 : v 15 = iv (p2 : Int) := hk 15 (by kernel_rfl)
                have h9 : v 9 = .bool q := hk 9 (by kernel_rfl)
                simp only [List.take_succ_cons, List.take_zero, frameF, Act.put, List.setIfInBounds_toArray, List.set_cons_zero, List.set_cons_succ]
                exact stepF_val (by first | rfl | simp [Region.wanted, yielded, *]) (by go_simp <;> omega) ⟨rfl, Below.refl _ _, hR⟩
              · refine ⟨fun _ _ _ _ _ h => h, fun _ _ _ _ h _ => h, fun v nR x hnR hR hk => ?_⟩
                have h14 : v 14 = .slice (some ⟨bb, ob, none⟩) b.length c' := hk 14 (by kernel_rfl)
                have h16 : v 16 = iv ((p2 : Int) + 1) := hk 16 (by kernel_rfl)
                have h9 : v 9 = .bool q := hk 9 (by kernel_rfl)
                simp only [List.take_succ_cons, List.take_zero, frameF, Act.put, List.setIfInBounds_toArray, List.set_cons_zero, List.set_cons_succ]
                exact stepF_val (by first | rfl | simp [Region.wanted, yielded, *]) (by go_simp <;> omega) ⟨rfl, Below.refl _ _, hR⟩
              · refine ⟨fun _ _ _ _ _ h => h, fun _ _ _ _ h _ => h, fun v nR x hnR hR hk => ?_⟩
                have h13 : v 13 = .slice X1 ya.length n1 := hk 13 (by kernel_rfl)
                have h17 : v 17 = .slice X2 yb.length n2 := hk 17 (by kernel_rfl)
                have h9 : v 9 = .bool q := hk 9 (by kernel_rfl)
                simp only [List.take_succ_cons, List.take_zero, frameF, Act.put, List.setIfInBounds_toArray, List.set_cons_zero, List.set_cons_succ]
                refine stepF_call (by first | rfl | simp [Region.wanted, yielded, *]) (by go_simp) (hM.out x hR) ?_
                rintro e x' ⟨rfl, hb⟩
                exact ⟨_, rfl, rfl, hb, hR.next hb (Nat.le_refl _)⟩
              · refine ⟨fun _ _ _ _ _ h => h, fun _ _ _ _ h _ => h, fun v nR x hnR hR hk => ?_⟩
                have h18 : v 18 = iv (F : Int) := hk 18 (by kernel_rfl)
                have h9 : v 9 = .bool q := hk 9 (by kernel_rfl)
                simp only [List.take_succ_cons, List.take_zero, frameF, Act.put, List.setIfInBounds_toArray, List.set_cons_zero, List.set_cons_succ]
                exact stepF_val (by first | rfl | simp [Region.wanted, yielded, *]) (by go_simp <;> omega) ⟨rfl, Below.refl _ _, hR⟩
              · refine ⟨fun _ _ _ _ _ h => h, fun _ _ _ _ h _ => h, fun v nR x hnR hR hk => ?_⟩
                have h9 : v 9 = .bool q := hk 9 (by kernel_rfl)
                simp only [List.take_succ_cons, List.take_zero, frameF, Act.put, List.setIfInBounds_toArray, List.set_cons_zero, List.set_cons_succ]
                exact stepF_val (by first | rfl | simp [Region.wanted, yielded, *]) (by go_simp <;> omega) ⟨rfl, Below.refl _ _, hR⟩
              · refine ⟨fun _ _ _ _ _ h => h, fun _ _ _ _ h _ => h, fun v nR x hnR hR hk => ?_⟩
                have h19 : v 19 = iv ((F : Int) + 1) := hk 19 (by kernel_rfl)
                have h20 : v 20 = iv (left : Int) := hk 20 (by kernel_rfl)
                have h9 : v 9 = .bool q := hk 9 (by kernel_rfl)
                simp only [List.take_succ_cons, List.take_zero, frameF, Act.put, List.setIfInBounds_toArray, List.set_cons_zero, List.set_cons_succ]
                exact stepF_val (by first | rfl | simp [Region.wanted, yielded, *]) (by go_simp <;> omega) ⟨rfl, Below.refl _ _, hR⟩
              · refine ⟨fun _ _ _ _ _ h => h, fun _ _ _ _ h _ => h, fun v nR x hnR hR hk => ?_⟩
                have h9 : v 9 = .bool q := hk 9 (by kernel_rfl)
                have h21 : v 21 = .bool t := hk 21 (by kernel_rfl)
                simp only [List.take_succ_cons, List.take_zero, frameF, Act.put, List.setIfInBounds_toArray, List.set_cons_zero, List.set_cons_succ]
                exact stepF_val (by first | rfl | simp [Region.wanted, yielded, *]) (by go_simp <;> omega) ⟨rfl, Below.refl _ _, hR⟩
            · intro v nR x1 hnR hR hall
              have h22 : v 22 = .bool t := hall 22 (by decide)
              clear hall hnR
              simp only [List.drop_succ_cons, List.drop_zero, List.take_succ_cons, List.take_zero, frameF, Act.put, List.setIfInBounds_toArray, List.set_cons_zero, List.set_cons_succ, Nat.zero_add, Nat.reduceAdd, h22]
              have hb2 := hbx.next hR (Nat.le_refl _)
              cases t
              · have HN : Hid ((match File.rowFirst a b left p1 (b.length - (p2 + 1)) (p2 + 1) with | some p2 => some (p1, p2) | none => File.firstGo a b left j (a.length - (p1 + 1)) (p1 + 1)) = R) := Lib.hid (by rw [← HRR.out, ← HT.out, hqv]; simp)
                go_wp2_with fail
                go_roundw
                case rel => exact ⟨p2 + 1, by omega, by go_num, HN, hb2⟩
                case measure => simp [intOf]; omega
              · have HN : Hid (some (p1, p2) = R) := Lib.hid (by rw [← HRR.out, ← HT.out, hqv]; simp)
                go_wp2_with fail
                go_ret2
                exact ⟨by rw [← HN.out]; rfl, hb2⟩
        · have hyi : ¬ (p2 : Int) < (b.length : Int) := by omega
          have hr := HR.out
          rw [show b.length - p2 = 0 by omega, File.rowFirst] at hr
          have HN := Lib.hid hr
          clear hr HR
          go_wp2_with fail
          go_roundw
          case rel => exact ⟨p1 + 1, by omega, by go_num, HN, hbx⟩
          case measure => simp [intOf]; omega
    · have hxi : ¬ (p1 : Int) < (a.length : Int) := by omega
      have hr := HR.out
      rw [show a.length - p1 = 0 by omega, File.firstGo] at hr
      have HN : Hid (none = R) := Lib.hid hr
      clear hr HR
      go_wp2_with fail
      go_ret2
      exact ⟨by rw [← HN.out]; rfl, hbr⟩
set_option maxHeartbeats 8000000 in
theorem rcommon_spec (A : Option Addr) (a : List ByteArray) (c : Nat) (A' : Option Addr) (b : List ByteArray) (c' : Nat) (w : World) (ha : a.length ≤ 24) (hb : b.length ≤ 24) (hac : a.length ≤ c) (hbc : b.length ≤ c') (hsa : Sl strE w A a) (hsb : Sl strE w A' b) :
    Calls Tryd.prog 11 #[.slice A a.length c, .slice A' b.length c'] w fun e w' => ∃ v, e = .returned v ∧ Own pairE 46 w.heap.size w' v (File.common a b) ∧ Below w.heap.size w w' := by
  obtain ⟨L, hL⟩ : ∃ L, L = File.common a b := ⟨_, rfl⟩
  have HL := Lib.hid hL.symm
  rw [← hL]
  have hLl : L.length ≤ 24 := by rw [hL, File.common_length]; exact Nat.le_trans (File.lcs_most _ _) ha
  clear hL
  go_enter Tryd.func11, Tryd.ntmps11
  go_wp2_with fail
  go_loopw [5, 6, 7, 8, 9, 10] (fun u v1 v2 _ _ _ wr => ∃ (i j n : Nat) (out : List (Nat × Nat)), i ≤ a.length ∧ j ≤ b.length ∧ v1 = iv (i : Int) ∧ v2 = iv (j : Int) ∧ Hid (a.length - i < n) ∧ Hid (out ++ File.commonGo a b n i j = L) ∧ Hid (Own pairE 46 w.heap.size wr u out) ∧ Below w.heap.size w wr) (fun _ v1 _ _ _ _ _ => a.length - (intOf v1).toNat)
  case atStart => exact ⟨0, 0, a.length + 1, [], Nat.zero_le _, Nat.zero_le _, rfl, rfl, Lib.hid (by omega), HL, Own.nil, Below.refl _ _⟩
  case round =>
    obtain ⟨i, j, fu, out, hi, hj, rfl, rfl, Hn, HC, HO, hbr⟩ := hrel
    obtain ⟨X1, n1, ya, hya, hyal, hyn, hsy, hC1⟩ := cut_from' (i := i) hac hi (hsa.below hbr)
    obtain ⟨X2, n2, yb, hyb, hybl, hyn2, hsz, hC2⟩ := cut_from' (i := j) hbc hj (hsb.below hbr)
    obtain ⟨F, hF⟩ : ∃ F, F = File.from_ a b i j := ⟨_, rfl⟩
    have hFl : File.lcs ya yb = F := by rw [hF, hya, hyb]; rfl
    have hF24 : F ≤ 24 := by rw [hF]; have := File.from_le a b i j; omega
    have hM := Lib.hid fun W (h : Below wr.heap.size wr W) => most_spec X1 ya n1 X2 yb n2 W (by omega) (by omega) (hsy.below h) (hsz.below h)
    rw [hFl] at hM
    have HF := Lib.hid hF
    clear hF hFl hya hyb hsy hsz
    go_upto_region 3 with fail
    refine wp_free_lit (by kernel_rfl) 8 (by kernel_rfl) (by kernel_rfl) (by decide) (fun _ x => Below wr.heap.size wr x) (fun x x' => Below x.heap.size x x')
      [fun _ u _ => u = .slice A a.length c,
       fun _ u _ => u = iv (i : Int),
       fun _ u _ => u = .slice X1 ya.length n1,
       fun _ u _ => u = .slice A' b.length c',
       fun _ u _ => u = iv (j : Int),
       fun _ u _ => u = .slice X2 yb.length n2,
       fun _ u _ => u = iv (F : Int),
       fun _ u _ => u = iv (F : Int)]
      (Below.refl _ wr).drew ?_ ?_
    · simp only [List.take_succ_cons, List.take_zero, HopL]
      refine ⟨?_, ?_, ?_, ?_, ?_, ?_, ?_, ?_, trivial⟩
      · refine ⟨fun _ _ _ _ _ h => h, fun _ _ _ _ h _ => h, fun v nR x hnR hR hk => ?_⟩
        simp only [List.take_succ_cons, List.take_zero, frameF, Act.put, List.setIfInBounds_toArray, List.set_cons_zero, List.set_cons_succ]
        exact stepF_val (by first | rfl | simp [Region.wanted, yielded, *]) (by go_simp <;> omega) ⟨rfl, Below.refl _ _, hR⟩
      · refine ⟨fun _ _ _ _ _ h => h, fun _ _ _ _ h _ => h, fun v nR x hnR hR hk => ?_⟩
        simp only [List.take_succ_cons, List.take_zero, frameF, Act.put, List.setIfInBounds_toArray, List.set_cons_zero, List.set_cons_succ]
        exact stepF_val (by first | rfl | simp [Region.wanted, yielded, *]) (by go_simp <;> omega) ⟨rfl, Below.refl _ _, hR⟩
      · refine ⟨fun _ _ _ _ _ h => h, fun _ _ _ _ h _ => h, fun v nR x hnR hR hk => ?_⟩
        have h0 : v 0 = .slice A a.length c := hk 0 (by kernel_rfl)
        have h1 : v 1 = iv (i : Int) := hk 1 (by kernel_rfl)
        simp only [List.take_succ_cons, List.take_zero, frameF, Act.put, List.setIfInBounds_toArray, List.set_cons_zero, List.set_cons_succ]
        exact stepF_val (by first | rfl | simp [Region.wanted, yielded, *]) (by go_simp <;> omega) ⟨rfl, Below.refl _ _, hR⟩
      · refine ⟨fun _ _ _ _ _ h => h, fun _ _ _ _ h _ => h, fun v nR x hnR hR hk => ?_⟩
        simp only [List.take_succ_cons, List.take_zero, frameF, Act.put, List.setIfInBounds_toArray, List.set_cons_zero, List.set_cons_succ]
        exact stepF_val (by first | rfl | simp [Region.wanted, yielded, *]) (by go_simp <;> omega) ⟨rfl, Below.refl _ _, hR⟩
      · refine ⟨fun _ _ _ _ _ h => h, fun _ _ _ _ h _ => h, fun v nR x hnR hR hk => ?_⟩
        simp only [List.take_succ_cons, List.take_zero, frameF, Act.put, List.setIfInBounds_toArray, List.set_cons_zero, List.set_cons_succ]
        exact stepF_val (by first | rfl | simp [Region.wanted, yielded, *]) (by go_simp <;> omega) ⟨rfl, Below.refl _ _, hR⟩
      · refine ⟨fun _ _ _ _ _ h => h, fun _ _ _ _ h _ => h, fun v nR x hnR hR hk => ?_⟩
        have h3 : v 3 = .slice A' b.length c' := hk 3 (by kernel_rfl)
        have h4 : v 4 = iv (j : Int) := hk 4 (by kernel_rfl)
        simp only [List.take_succ_cons, List.take_zero, frameF, Act.put, List.setIfInBounds_toArray, List.set_cons_zero, List.set_cons_succ]
        exact stepF_val (by first | rfl | simp [Region.wanted, yielded, *]) (by go_simp <;> omega) ⟨rfl, Below.refl _ _, hR⟩
      · refine ⟨fun _ _ _ _ _ h => h, fun _ _ _ _ h _ => h, fun v nR x hnR hR hk => ?_⟩
        have h2 : v 2 = .slice X1 ya.length n1 := hk 2 (by kernel_rfl)
        have h5 : v 5 = .slice X2 yb.length n2 := hk 5 (by kernel_rfl)
        simp only [List.take_succ_cons, List.take_zero, frameF, Act.put, List.setIfInBounds_toArray, List.set_cons_zero, List.set_cons_succ]
        refine stepF_call (by first | rfl | simp [Region.wanted, yielded, *]) (by go_simp) (hM.out x hR) ?_
        rintro e x' ⟨rfl, hb⟩
        exact ⟨_, rfl, rfl, hb, hR.next hb (Nat.le_refl _)⟩
      · refine ⟨fun _ _ _ _ _ h => h, fun _ _ _ _ h _ => h, fun v nR x hnR hR hk => ?_⟩
        have h6 : v 6 = iv (F : Int) := hk 6 (by kernel_rfl)
        simp only [List.take_succ_cons, List.take_zero, frameF, Act.put, List.setIfInBounds_toArray, List.set_cons_zero, List.set_cons_succ]
        exact stepF_val (by first | rfl | simp [Region.wanted, yielded, *]) (by go_simp <;> omega) ⟨rfl, Below.refl _ _, hR⟩
    · intro v nR x1 hnR hR hall
      have h7 : v 7 = iv (F : Int) := hall 7 (by decide)
      clear hall hnR
      simp only [List.drop_succ_cons, List.drop_zero, List.take_succ_cons, List.take_zero, frameF, Act.put, List.setIfInBounds_toArray, List.set_cons_zero, List.set_cons_succ, Nat.zero_add, Nat.reduceAdd, h7]
      have hb2 := hbr.next hR (Nat.le_refl _)
      have HO2 := Lib.hid (HO.out.below hR)
      obtain ⟨m, hm⟩ : ∃ m, fu = m + 1 := ⟨fu - 1, by have := Hn.out; omega⟩
      have hc := HC.out
      rw [hm, File.commonGo] at hc
      clear HO HC
      by_cases h0 : F = 0
      · have hn := File.first_none (a := a) (b := b) (i := i) (j := j) (by rw [← HF.out]; exact h0)
        rw [hn] at hc
        have hc : out = L := by simpa using hc
        have HC := Lib.hid hc
        have hq : ((F : Int) == 0) = true := by simp; omega
        clear hc hn
        go_wp2_with fail
        go_ret
        exact ⟨_, rfl, by rw [← HC.out]; exact HO2.out, hb2⟩
      · obtain ⟨p, hp⟩ := File.first_some (a := a) (b := b) (i := i) (j := j) (by rw [← HF.out]; omega)
        rw [hp] at hc
        have hps := File.firstGo_some hp
        obtain ⟨f1, f2, _⟩ := File.fits_iff.1 hps.2.2.2.1
        obtain ⟨x, y⟩ := p
        simp only at hc hps f1 f2
        have hFS := first_spec A a c A' b c' i j F x1 ha hb hi hj hF24 hac hbc (hsa.below hb2) (hsb.below hb2)
        rw [HF.out, show File.firstGo a b (File.from_ a b i j) j (a.length - i) i = some (x, y) from hp] at hFS
        have hFS : Calls Tryd.prog 37 #[.slice A a.length c, .slice A' b.length c', iv (i : Int), iv (j : Int), iv (F : Int)] x1 fun e w' => e = .returned (.tuple #[iv (x : Int), iv (y : Int)]) ∧ Below x1.heap.size x1 w' := by rw [HF.out]; exact hFS
        have HC : Hid ((out ++ [(x, y)]) ++ File.commonGo a b m (x + 1) (y + 1) = L) := Lib.hid (by rw [← hc]; simp)
        have hol : out.length + 1 ≤ 24 := by have := congrArg List.length HC.out; simp at this; omega
        have Hm : Hid (a.length - (x + 1) < m) := Lib.hid (by have := Hn.out; have := hps.1; omega)
        have hix := hps.1
        have hq : ((F : Int) == 0) = false := by simp; omega
        have ewx : IntKind.i64.wrap ((x : Int) + 1) = (x : Int) + 1 := IntWalk.i64_in _ (by omega)
        have ewy : IntKind.i64.wrap ((y : Int) + 1) = (y : Int) + 1 := IntWalk.i64_in _ (by omega)
        clear hc hps hp Hn
        go_wp2_with fail
        refine hFS.mono ?_
        rintro e w3 ⟨rfl, hb3⟩
        have hb23 := hb2.next hb3 (Nat.le_refl _)
        have HO3 := Lib.hid (HO2.out.below hb3)
        clear HO2 hFS
        go_wp2_with (first
          | (at_builtin; refine wpApp1 pairE tyArr2 rfl _ _ rfl HO3.out (x, y) rfl rfl rfl hb23.size (by unfold big; omega) ?_; intro v1 w4 hown1 hb1 hk1))
        go_roundw
        case rel => exact ⟨x + 1, y + 1, m, out ++ [(x, y)], by omega, by omega, by go_num, by go_num, Hm, HC, hown1, hb23.trans hb1⟩
        case measure => simp [intOf]; omega
end Fl
end Go.Proofs.YtekkhnjepcebkaaDoor
