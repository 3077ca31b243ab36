/- petershamlaw11's pairs, at lists of common pairs. Condition: lengths are below a great bound. -/
import Derived.Test.YtekkhnjepcebkaaGreatDoorFlW
import Derived.Test.YtekkhnjepcebkaaGreatDoorFree
set_option linter.unusedVariables false
set_option linter.unusedSimpArgs false
namespace Go.Proofs.YtekkhnjepcebkaaGreatDoor
namespace File
theorem pairs_at {α : Type} [DecidableEq α] {a b : List α} : ∀ {l : List (Nat × Nat)} {i j k : Nat} {p : Nat × Nat}, Pairs a b i j l → l[k]? = some p → i ≤ p.1 ∧ j ≤ p.2 ∧ ∃ h1 : p.1 < a.length, ∃ h2 : p.2 < b.length, a[p.1] = b[p.2]
  | [], _, _, _, _, _, h => by simp at h
  | q :: r, i, j, 0, p, ⟨h1, h2, h3, _⟩, h => by
    simp at h; subst h; exact ⟨h1, h2, h3⟩
  | q :: r, i, j, k + 1, p, ⟨h1, h2, _, h4⟩, h => by
    obtain ⟨a1, a2, a3⟩ := pairs_at h4 (show r[k]? = some p by simpa using h)
    exact ⟨by omega, by omega, a3⟩
theorem pairs_next {α : Type} [DecidableEq α] {a b : List α} : ∀ {l : List (Nat × Nat)} {i j k : Nat} {p q : Nat × Nat}, Pairs a b i j l → l[k]? = some p → l[k + 1]? = some q → p.1 < q.1 ∧ p.2 < q.2
  | [], _, _, _, _, _, _, h, _ => by simp at h
  | x :: r, i, j, 0, p, q, ⟨_, _, _, h4⟩, h, h' => by
    simp at h; subst h
    obtain ⟨a1, a2, _⟩ := pairs_at h4 (show r[0]? = some q by simpa using h')
    exact ⟨by omega, by omega⟩
  | x :: r, i, j, k + 1, p, q, ⟨_, _, _, h4⟩, h, h' => pairs_next h4 (show r[k]? = some p by simpa using h) (show r[k + 1]? = some q by simpa using h')
end File
namespace Fl
open Go.RowKit
set_option maxRecDepth 100000
theorem stepF_un {P : Program} {ops : Array Oper} {o : Oper} {a : Act} {w : World} {K : Value → World → Prop} (hw : Region.wanted o (yielded ops a.tmps) = false) (hK : K undef w) : StepF P ops o a w K := by
  refine ⟨?_⟩; unfold StepG; rw [if_neg (by rw [hw]; decide)]; exact hK
set_option maxHeartbeats 8000000 in
theorem pairs_spec (A : Option Addr) (a : List ByteArray) (ca : Nat) (B : Option Addr) (b : List ByteArray) (cb : Nat) (Lv : Option Addr) (l : List (Nat × Nat)) (cl : Nat) (w : World) (ha : a.length ≤ big) (hb : b.length ≤ big) (hl : l.length ≤ big) (hsa : Sl strE w A a) (hsb : Sl strE w B b) (hsl : Sl pairE w Lv l) (hp : File.Pairs a b 0 0 l) :
    Calls Tryz.prog 51 #[.slice A a.length ca, .slice B b.length cb, .slice Lv l.length cl] w fun e w' => e = .returned (.bool true) ∧ Below w.heap.size w w' := by
  have HP := Lib.hid hp
  unfold big at ha hb hl
  clear hp
  go_enter Tryz.func51, Tryz.ntmps51
  go_wp2_with fail
  go_loopw [7, 8, 11] (fun _ _ i wr => ∃ k : Nat, k ≤ l.length ∧ i = iv k ∧ Below w.heap.size w wr) (fun _ _ i _ => l.length - (intOf i).toNat)
  case atStart => exact ⟨0, by omega, rfl, Below.refl _ _⟩
  case round =>
    obtain ⟨k, hk, rfl, hbr⟩ := hrel
    by_cases hlt : k < l.length
    · have hki : (k : Int) < (l.length : Int) := by omega
      obtain ⟨bl, ol, x, rfl, hbl, hx, hc0, hc1⟩ := Sl.atPr (hsl.below hbr) hlt
      obtain ⟨_, _, h1, h2, h3⟩ := File.pairs_at HP.out hx
      obtain ⟨px, py⟩ := x
      simp only at h1 h2 h3 hc0 hc1
      obtain ⟨ba, oa, s0, rfl, hba, hs0, hca⟩ := Sl.atS (hsa.below hbr) h1
      obtain ⟨bb, ob, s1, rfl, hbb, hs1, hcb⟩ := Sl.atS (hsb.below hbr) h2
      have hse : s1 = s0 := by
        rw [List.getElem?_eq_getElem h1] at hs0
        rw [List.getElem?_eq_getElem h2] at hs1
        rw [← Option.some.inj hs0, ← Option.some.inj hs1, h3]
      subst hse
      have hbM : Below wr.heap.size wr (wr.alloc (.cells #[iv (px : Int), iv (py : Int)] 83)) := (Below.refl _ _).alloc (Nat.le_refl _) _
      have HBX : Hid (Blk (wr.alloc (.cells #[iv (px : Int), iv (py : Int)] 83)) wr.heap.size 83 #[iv (px : Int), iv (py : Int)]) := Lib.hid (Blk.new _ _ _)
      go_upto_region 4 with fail
      generalize wr.alloc (.cells #[iv (px : Int), iv (py : Int)] 83) = wM at *
      have HCA : Hid (∀ x, Below wM.heap.size wM x → x.cell? ⟨ba, oa + px, none⟩ = some (.string s1)) := Lib.hid fun x h => ((hbM.next h (Nat.le_refl _)).cell (p := ⟨ba, oa + px, none⟩) hba).trans hca
      have HCB : Hid (∀ x, Below wM.heap.size wM x → x.cell? ⟨bb, ob + py, none⟩ = some (.string s1)) := Lib.hid fun x h => ((hbM.next h (Nat.le_refl _)).cell (p := ⟨bb, ob + py, none⟩) hbb).trans hcb
      have q1 : ¬ (px : Int) < 0 := by omega
      have q2 : ¬ (py : Int) < 0 := by omega
      have q3 : ¬ (a.length : Int) ≤ (px : Int) := by omega
      have q4 : ¬ (b.length : Int) ≤ (py : Int) := by omega
      have q5 : (px : Int) < (a.length : Int) := by omega
      have q6 : (py : Int) < (b.length : Int) := by omega
      by_cases hkz : k = 0
      · have q7 : ¬ (0 : Int) < (k : Int) := by omega
        clear hkz hc0 hc1 hca hcb hs0 hs1 h3 hx
        refine wp_free_lit (by kernel_rfl) 61 (by kernel_rfl) (by kernel_rfl) (by decide) (fun _ x => Below wM.heap.size wM x) (fun x x' => Below x.heap.size x x')
          [fun _ u _ => u = .pointer (some ⟨wr.heap.size, 0, none⟩),
           fun _ u _ => u = iv (px : Int),
           fun _ u _ => u = .bool false,
           fun _ u _ => u = .bool false,
           fun _ u _ => u = .pointer (some ⟨wr.heap.size, 0, none⟩),
           fun _ u _ => u = iv (px : Int),
           fun _ u _ => u = .slice (some ⟨ba, oa, none⟩) a.length ca,
           fun _ u _ => u = iv (a.length : Int),
           fun _ u _ => u = .bool false,
           fun _ u _ => u = .bool false,
           fun _ u _ => u = .bool false,
           fun _ u _ => u = .pointer (some ⟨wr.heap.size, 1, none⟩),
           fun _ u _ => u = iv (py : Int),
           fun _ u _ => u = .bool false,
           fun _ u _ => u = .bool false,
           fun _ u _ => u = .bool false,
           fun _ u _ => u = .pointer (some ⟨wr.heap.size, 1, none⟩),
           fun _ u _ => u = iv (py : Int),
           fun _ u _ => u = .slice (some ⟨bb, ob, none⟩) b.length cb,
           fun _ u _ => u = iv (b.length : Int),
           fun _ u _ => u = .bool false,
           fun _ u _ => u = .bool false,
           fun _ u _ => u = .bool false,
           fun _ u _ => u = .slice (some ⟨ba, oa, none⟩) a.length ca,
           fun _ u _ => u = .pointer (some ⟨wr.heap.size, 0, none⟩),
           fun _ u _ => u = iv (px : Int),
           fun _ u _ => u = .pointer (some ⟨ba, oa + px, none⟩),
           fun _ u _ => u = .string s1,
           fun _ u _ => u = .slice (some ⟨bb, ob, none⟩) b.length cb,
           fun _ u _ => u = .pointer (some ⟨wr.heap.size, 1, none⟩),
           fun _ u _ => u = iv (py : Int),
           fun _ u _ => u = .pointer (some ⟨bb, ob + py, none⟩),
           fun _ u _ => u = .string s1,
           fun _ u _ => u = .bool false,
           fun _ u _ => u = .bool false,
           fun _ u _ => u = .bool false,
           fun _ u _ => u = iv (k : Int),
           fun _ u _ => u = .bool false,
           fun _ u _ => u = .bool false,
           fun _ u _ => u = undef,
           fun _ u _ => u = undef,
           fun _ u _ => u = undef,
           fun _ u _ => u = undef,
           fun _ u _ => u = undef,
           fun _ u _ => u = undef,
           fun _ u _ => u = undef,
           fun _ u _ => u = undef,
           fun _ u _ => u = undef,
           fun _ u _ => u = undef,
           fun _ u _ => u = undef,
           fun _ u _ => u = undef,
           fun _ u _ => u = undef,
           fun _ u _ => u = undef,
           fun _ u _ => u = undef,
           fun _ u _ => u = undef,
           fun _ u _ => u = undef,
           fun _ u _ => u = undef,
           fun _ u _ => u = undef,
           fun _ u _ => u = undef,
           fun _ u _ => u = .bool false,
           fun _ u _ => u = .bool false]
          (Below.refl _ wM).drew ?_ ?_
        · simp only [List.take_succ_cons, List.take_zero, HopL]
          refine ⟨?_, ?_, ?_, ?_, ?_, ?_, ?_, ?_, ?_, ?_, ?_, ?_, ?_, ?_, ?_, ?_, ?_, ?_, ?_, ?_, ?_, ?_, ?_, ?_, ?_, ?_, ?_, ?_, ?_, ?_, ?_, ?_, ?_, ?_, ?_, ?_, ?_, ?_, ?_, ?_, ?_, ?_, ?_, ?_, ?_, ?_, ?_, ?_, ?_, ?_, ?_, ?_, ?_, ?_, ?_, ?_, ?_, ?_, ?_, ?_, ?_, trivial⟩
          · refine ⟨fun _ _ _ _ _ h => h, fun _ _ _ _ h _ => h, fun v n x hn hR hk => ?_⟩
            simp only [List.take_succ_cons, List.take_zero, frameF, Act.put, List.setIfInBounds_toArray, List.set_cons_zero, List.set_cons_succ]
            exact stepF_val (by first | rfl | simp [Region.wanted, yielded, *]) (by go_simp <;> omega) ⟨rfl, Below.refl _ _, hR⟩
          · refine ⟨fun _ _ _ _ _ h => h, fun _ _ _ _ h _ => h, fun v n x hn hR hk => ?_⟩
            have h0 : v 0 = .pointer (some ⟨wr.heap.size, 0, none⟩) := hk 0 (by kernel_rfl)
            have g0 := (Blk.under HBX.out hR).cell 0
            have g1 := (Blk.under HBX.out hR).cell 1
            simp only [List.take_succ_cons, List.take_zero, frameF, Act.put, List.setIfInBounds_toArray, List.set_cons_zero, List.set_cons_succ]
            exact stepF_val (by first | rfl | simp [Region.wanted, yielded, *]) (by go_simp <;> omega) ⟨rfl, Below.refl _ _, hR⟩
          · refine ⟨fun _ _ _ _ _ h => h, fun _ _ _ _ h _ => h, fun v n x hn hR hk => ?_⟩
            have h1 : v 1 = iv (px : Int) := hk 1 (by kernel_rfl)
            simp only [List.take_succ_cons, List.take_zero, frameF, Act.put, List.setIfInBounds_toArray, List.set_cons_zero, List.set_cons_succ]
            exact stepF_val (by first | rfl | simp [Region.wanted, yielded, *]) (by go_simp <;> omega) ⟨rfl, Below.refl _ _, hR⟩
          · refine ⟨fun _ _ _ _ _ h => h, fun _ _ _ _ h _ => h, fun v n x hn hR hk => ?_⟩
            have h2 : v 2 = .bool false := hk 2 (by kernel_rfl)
            simp only [List.take_succ_cons, List.take_zero, frameF, Act.put, List.setIfInBounds_toArray, List.set_cons_zero, List.set_cons_succ]
            exact stepF_val (by first | rfl | simp [Region.wanted, yielded, *]) (by go_simp <;> omega) ⟨rfl, Below.refl _ _, hR⟩
          · refine ⟨fun _ _ _ _ _ h => h, fun _ _ _ _ h _ => h, fun v n x hn hR hk => ?_⟩
            have h3 : v 3 = .bool false := hk 3 (by kernel_rfl)
            simp only [List.take_succ_cons, List.take_zero, frameF, Act.put, List.setIfInBounds_toArray, List.set_cons_zero, List.set_cons_succ]
            exact stepF_val (by first | rfl | simp [Region.wanted, yielded, *]) (by go_simp <;> omega) ⟨rfl, Below.refl _ _, hR⟩
          · refine ⟨fun _ _ _ _ _ h => h, fun _ _ _ _ h _ => h, fun v n x hn hR hk => ?_⟩
            have h3 : v 3 = .bool false := hk 3 (by kernel_rfl)
            have h4 : v 4 = .pointer (some ⟨wr.heap.size, 0, none⟩) := hk 4 (by kernel_rfl)
            have g0 := (Blk.under HBX.out hR).cell 0
            have g1 := (Blk.under HBX.out hR).cell 1
            simp only [List.take_succ_cons, List.take_zero, frameF, Act.put, List.setIfInBounds_toArray, List.set_cons_zero, List.set_cons_succ]
            exact stepF_val (by first | rfl | simp [Region.wanted, yielded, *]) (by go_simp <;> omega) ⟨rfl, Below.refl _ _, hR⟩
          · refine ⟨fun _ _ _ _ _ h => h, fun _ _ _ _ h _ => h, fun v n x hn hR hk => ?_⟩
            have h3 : v 3 = .bool false := hk 3 (by kernel_rfl)
            simp only [List.take_succ_cons, List.take_zero, frameF, Act.put, List.setIfInBounds_toArray, List.set_cons_zero, List.set_cons_succ]
            exact stepF_val (by first | rfl | simp [Region.wanted, yielded, *]) (by go_simp <;> omega) ⟨rfl, Below.refl _ _, hR⟩
          · refine ⟨fun _ _ _ _ _ h => h, fun _ _ _ _ h _ => h, fun v n x hn hR hk => ?_⟩
            have h3 : v 3 = .bool false := hk 3 (by kernel_rfl)
            have h6 : v 6 = .slice (some ⟨ba, oa, none⟩) a.length ca := hk 6 (by kernel_rfl)
            simp only [List.take_succ_cons, List.take_zero, frameF, Act.put, List.setIfInBounds_toArray, List.set_cons_zero, List.set_cons_succ]
            exact stepF_val (by first | rfl | simp [Region.wanted, yielded, *]) (by go_simp <;> omega) ⟨rfl, Below.refl _ _, hR⟩
          · refine ⟨fun _ _ _ _ _ h => h, fun _ _ _ _ h _ => h, fun v n x hn hR hk => ?_⟩
            have h3 : v 3 = .bool false := hk 3 (by kernel_rfl)
            have h5 : v 5 = iv (px : Int) := hk 5 (by kernel_rfl)
            have h7 : v 7 = iv (a.length : Int) := hk 7 (by kernel_rfl)
            simp only [List.take_succ_cons, List.take_zero, frameF, Act.put, List.setIfInBounds_toArray, List.set_cons_zero, List.set_cons_succ]
            exact stepF_val (by first | rfl | simp [Region.wanted, yielded, *]) (by go_simp <;> omega) ⟨rfl, Below.refl _ _, hR⟩
          · refine ⟨fun _ _ _ _ _ h => h, fun _ _ _ _ h _ => h, fun v n x hn hR hk => ?_⟩
            have h3 : v 3 = .bool false := hk 3 (by kernel_rfl)
            have h8 : v 8 = .bool false := hk 8 (by kernel_rfl)
            simp only [List.take_succ_cons, List.take_zero, frameF, Act.put, List.setIfInBounds_toArray, List.set_cons_zero, List.set_cons_succ]
            exact stepF_val (by first | rfl | simp [Region.wanted, yielded, *]) (by go_simp <;> omega) ⟨rfl, Below.refl _ _, hR⟩
          · refine ⟨fun _ _ _ _ _ h => h, fun _ _ _ _ h _ => h, fun v n x hn hR hk => ?_⟩
            have h9 : v 9 = .bool false := hk 9 (by kernel_rfl)
            simp only [List.take_succ_cons, List.take_zero, frameF, Act.put, List.setIfInBounds_toArray, List.set_cons_zero, List.set_cons_succ]
            exact stepF_val (by first | rfl | simp [Region.wanted, yielded, *]) (by go_simp <;> omega) ⟨rfl, Below.refl _ _, hR⟩
          · refine ⟨fun _ _ _ _ _ h => h, fun _ _ _ _ h _ => h, fun v n x hn hR hk => ?_⟩
            have h10 : v 10 = .bool false := hk 10 (by kernel_rfl)
            simp only [List.take_succ_cons, List.take_zero, frameF, Act.put, List.setIfInBounds_toArray, List.set_cons_zero, List.set_cons_succ]
            exact stepF_val (by first | rfl | simp [Region.wanted, yielded, *]) (by go_simp <;> omega) ⟨rfl, Below.refl _ _, hR⟩
          · refine ⟨fun _ _ _ _ _ h => h, fun _ _ _ _ h _ => h, fun v n x hn hR hk => ?_⟩
            have h10 : v 10 = .bool false := hk 10 (by kernel_rfl)
            have h11 : v 11 = .pointer (some ⟨wr.heap.size, 1, none⟩) := hk 11 (by kernel_rfl)
            have g0 := (Blk.under HBX.out hR).cell 0
            have g1 := (Blk.under HBX.out hR).cell 1
            simp only [List.take_succ_cons, List.take_zero, frameF, Act.put, List.setIfInBounds_toArray, List.set_cons_zero, List.set_cons_succ]
            exact stepF_val (by first | rfl | simp [Region.wanted, yielded, *]) (by go_simp <;> omega) ⟨rfl, Below.refl _ _, hR⟩
          · refine ⟨fun _ _ _ _ _ h => h, fun _ _ _ _ h _ => h, fun v n x hn hR hk => ?_⟩
            have h10 : v 10 = .bool false := hk 10 (by kernel_rfl)
            have h12 : v 12 = iv (py : Int) := hk 12 (by kernel_rfl)
            simp only [List.take_succ_cons, List.take_zero, frameF, Act.put, List.setIfInBounds_toArray, List.set_cons_zero, List.set_cons_succ]
            exact stepF_val (by first | rfl | simp [Region.wanted, yielded, *]) (by go_simp <;> omega) ⟨rfl, Below.refl _ _, hR⟩
          · refine ⟨fun _ _ _ _ _ h => h, fun _ _ _ _ h _ => h, fun v n x hn hR hk => ?_⟩
            have h10 : v 10 = .bool false := hk 10 (by kernel_rfl)
            have h13 : v 13 = .bool false := hk 13 (by kernel_rfl)
            simp only [List.take_succ_cons, List.take_zero, frameF, Act.put, List.setIfInBounds_toArray, List.set_cons_zero, List.set_cons_succ]
            exact stepF_val (by first | rfl | simp [Region.wanted, yielded, *]) (by go_simp <;> omega) ⟨rfl, Below.refl _ _, hR⟩
          · refine ⟨fun _ _ _ _ _ h => h, fun _ _ _ _ h _ => h, fun v n x hn hR hk => ?_⟩
            have h14 : v 14 = .bool false := hk 14 (by kernel_rfl)
            simp only [List.take_succ_cons, List.take_zero, frameF, Act.put, List.setIfInBounds_toArray, List.set_cons_zero, List.set_cons_succ]
            exact stepF_val (by first | rfl | simp [Region.wanted, yielded, *]) (by go_simp <;> omega) ⟨rfl, Below.refl _ _, hR⟩
          · refine ⟨fun _ _ _ _ _ h => h, fun _ _ _ _ h _ => h, fun v n x hn hR hk => ?_⟩
            have h15 : v 15 = .bool false := hk 15 (by kernel_rfl)
            simp only [List.take_succ_cons, List.take_zero, frameF, Act.put, List.setIfInBounds_toArray, List.set_cons_zero, List.set_cons_succ]
            exact stepF_val (by first | rfl | simp [Region.wanted, yielded, *]) (by go_simp <;> omega) ⟨rfl, Below.refl _ _, hR⟩
          · refine ⟨fun _ _ _ _ _ h => h, fun _ _ _ _ h _ => h, fun v n x hn hR hk => ?_⟩
            have h15 : v 15 = .bool false := hk 15 (by kernel_rfl)
            have h16 : v 16 = .pointer (some ⟨wr.heap.size, 1, none⟩) := hk 16 (by kernel_rfl)
            have g0 := (Blk.under HBX.out hR).cell 0
            have g1 := (Blk.under HBX.out hR).cell 1
            simp only [List.take_succ_cons, List.take_zero, frameF, Act.put, List.setIfInBounds_toArray, List.set_cons_zero, List.set_cons_succ]
            exact stepF_val (by first | rfl | simp [Region.wanted, yielded, *]) (by go_simp <;> omega) ⟨rfl, Below.refl _ _, hR⟩
          · refine ⟨fun _ _ _ _ _ h => h, fun _ _ _ _ h _ => h, fun v n x hn hR hk => ?_⟩
            have h15 : v 15 = .bool false := hk 15 (by kernel_rfl)
            simp only [List.take_succ_cons, List.take_zero, frameF, Act.put, List.setIfInBounds_toArray, List.set_cons_zero, List.set_cons_succ]
            exact stepF_val (by first | rfl | simp [Region.wanted, yielded, *]) (by go_simp <;> omega) ⟨rfl, Below.refl _ _, hR⟩
          · refine ⟨fun _ _ _ _ _ h => h, fun _ _ _ _ h _ => h, fun v n x hn hR hk => ?_⟩
            have h15 : v 15 = .bool false := hk 15 (by kernel_rfl)
            have h18 : v 18 = .slice (some ⟨bb, ob, none⟩) b.length cb := hk 18 (by kernel_rfl)
            simp only [List.take_succ_cons, List.take_zero, frameF, Act.put, List.setIfInBounds_toArray, List.set_cons_zero, List.set_cons_succ]
            exact stepF_val (by first | rfl | simp [Region.wanted, yielded, *]) (by go_simp <;> omega) ⟨rfl, Below.refl _ _, hR⟩
          · refine ⟨fun _ _ _ _ _ h => h, fun _ _ _ _ h _ => h, fun v n x hn hR hk => ?_⟩
            have h15 : v 15 = .bool false := hk 15 (by kernel_rfl)
            have h17 : v 17 = iv (py : Int) := hk 17 (by kernel_rfl)
            have h19 : v 19 = iv (b.length : Int) := hk 19 (by kernel_rfl)
            simp only [List.take_succ_cons, List.take_zero, frameF, Act.put, List.setIfInBounds_toArray, List.set_cons_zero, List.set_cons_succ]
            exact stepF_val (by first | rfl | simp [Region.wanted, yielded, *]) (by go_simp <;> omega) ⟨rfl, Below.refl _ _, hR⟩
          · refine ⟨fun _ _ _ _ _ h => h, fun _ _ _ _ h _ => h, fun v n x hn hR hk => ?_⟩
            have h15 : v 15 = .bool false := hk 15 (by kernel_rfl)
            have h20 : v 20 = .bool false := hk 20 (by kernel_rfl)
            simp only [List.take_succ_cons, List.take_zero, frameF, Act.put, List.setIfInBounds_toArray, List.set_cons_zero, List.set_cons_succ]
            exact stepF_val (by first | rfl | simp [Region.wanted, yielded, *]) (by go_simp <;> omega) ⟨rfl, Below.refl _ _, hR⟩
          · refine ⟨fun _ _ _ _ _ h => h, fun _ _ _ _ h _ => h, fun v n x hn hR hk => ?_⟩
            have h21 : v 21 = .bool false := hk 21 (by kernel_rfl)
            simp only [List.take_succ_cons, List.take_zero, frameF, Act.put, List.setIfInBounds_toArray, List.set_cons_zero, List.set_cons_succ]
            exact stepF_val (by first | rfl | simp [Region.wanted, yielded, *]) (by go_simp <;> omega) ⟨rfl, Below.refl _ _, hR⟩
          · refine ⟨fun _ _ _ _ _ h => h, fun _ _ _ _ h _ => h, fun v n x hn hR hk => ?_⟩
            have h22 : v 22 = .bool false := hk 22 (by kernel_rfl)
            simp only [List.take_succ_cons, List.take_zero, frameF, Act.put, List.setIfInBounds_toArray, List.set_cons_zero, List.set_cons_succ]
            exact stepF_val (by first | rfl | simp [Region.wanted, yielded, *]) (by go_simp <;> omega) ⟨rfl, Below.refl _ _, hR⟩
          · refine ⟨fun _ _ _ _ _ h => h, fun _ _ _ _ h _ => h, fun v n x hn hR hk => ?_⟩
            have h22 : v 22 = .bool false := hk 22 (by kernel_rfl)
            simp only [List.take_succ_cons, List.take_zero, frameF, Act.put, List.setIfInBounds_toArray, List.set_cons_zero, List.set_cons_succ]
            exact stepF_val (by first | rfl | simp [Region.wanted, yielded, *]) (by go_simp <;> omega) ⟨rfl, Below.refl _ _, hR⟩
          · refine ⟨fun _ _ _ _ _ h => h, fun _ _ _ _ h _ => h, fun v n x hn hR hk => ?_⟩
            have h22 : v 22 = .bool false := hk 22 (by kernel_rfl)
            have h24 : v 24 = .pointer (some ⟨wr.heap.size, 0, none⟩) := hk 24 (by kernel_rfl)
            have g0 := (Blk.under HBX.out hR).cell 0
            have g1 := (Blk.under HBX.out hR).cell 1
            simp only [List.take_succ_cons, List.take_zero, frameF, Act.put, List.setIfInBounds_toArray, List.set_cons_zero, List.set_cons_succ]
            exact stepF_val (by first | rfl | simp [Region.wanted, yielded, *]) (by go_simp <;> omega) ⟨rfl, Below.refl _ _, hR⟩
          · refine ⟨fun _ _ _ _ _ h => h, fun _ _ _ _ h _ => h, fun v n x hn hR hk => ?_⟩
            have h22 : v 22 = .bool false := hk 22 (by kernel_rfl)
            have h23 : v 23 = .slice (some ⟨ba, oa, none⟩) a.length ca := hk 23 (by kernel_rfl)
            have h25 : v 25 = iv (px : Int) := hk 25 (by kernel_rfl)
            simp only [List.take_succ_cons, List.take_zero, frameF, Act.put, List.setIfInBounds_toArray, List.set_cons_zero, List.set_cons_succ]
            exact stepF_val (by first | rfl | simp [Region.wanted, yielded, *]) (by go_simp <;> omega) ⟨rfl, Below.refl _ _, hR⟩
          · refine ⟨fun _ _ _ _ _ h => h, fun _ _ _ _ h _ => h, fun v n x hn hR hk => ?_⟩
            have h22 : v 22 = .bool false := hk 22 (by kernel_rfl)
            have h26 : v 26 = .pointer (some ⟨ba, oa + px, none⟩) := hk 26 (by kernel_rfl)
            have g2 := HCA.out x hR
            simp only [List.take_succ_cons, List.take_zero, frameF, Act.put, List.setIfInBounds_toArray, List.set_cons_zero, List.set_cons_succ]
            exact stepF_val (by first | rfl | simp [Region.wanted, yielded, *]) (by go_simp <;> omega) ⟨rfl, Below.refl _ _, hR⟩
          · refine ⟨fun _ _ _ _ _ h => h, fun _ _ _ _ h _ => h, fun v n x hn hR hk => ?_⟩
            have h22 : v 22 = .bool false := hk 22 (by kernel_rfl)
            simp only [List.take_succ_cons, List.take_zero, frameF, Act.put, List.setIfInBounds_toArray, List.set_cons_zero, List.set_cons_succ]
            exact stepF_val (by first | rfl | simp [Region.wanted, yielded, *]) (by go_simp <;> omega) ⟨rfl, Below.refl _ _, hR⟩
          · refine ⟨fun _ _ _ _ _ h => h, fun _ _ _ _ h _ => h, fun v n x hn hR hk => ?_⟩
            have h22 : v 22 = .bool false := hk 22 (by kernel_rfl)
            simp only [List.take_succ_cons, List.take_zero, frameF, Act.put, List.setIfInBounds_toArray, List.set_cons_zero, List.set_cons_succ]
            exact stepF_val (by first | rfl | simp [Region.wanted, yielded, *]) (by go_simp <;> omega) ⟨rfl, Below.refl _ _, hR⟩
          · refine ⟨fun _ _ _ _ _ h => h, fun _ _ _ _ h _ => h, fun v n x hn hR hk => ?_⟩
            have h22 : v 22 = .bool false := hk 22 (by kernel_rfl)
            have h29 : v 29 = .pointer (some ⟨wr.heap.size, 1, none⟩) := hk 29 (by kernel_rfl)
            have g0 := (Blk.under HBX.out hR).cell 0
            have g1 := (Blk.under HBX.out hR).cell 1
            simp only [List.take_succ_cons, List.take_zero, frameF, Act.put, List.setIfInBounds_toArray, List.set_cons_zero, List.set_cons_succ]
            exact stepF_val (by first | rfl | simp [Region.wanted, yielded, *]) (by go_simp <;> omega) ⟨rfl, Below.refl _ _, hR⟩
          · refine ⟨fun _ _ _ _ _ h => h, fun _ _ _ _ h _ => h, fun v n x hn hR hk => ?_⟩
            have h22 : v 22 = .bool false := hk 22 (by kernel_rfl)
            have h28 : v 28 = .slice (some ⟨bb, ob, none⟩) b.length cb := hk 28 (by kernel_rfl)
            have h30 : v 30 = iv (py : Int) := hk 30 (by kernel_rfl)
            simp only [List.take_succ_cons, List.take_zero, frameF, Act.put, List.setIfInBounds_toArray, List.set_cons_zero, List.set_cons_succ]
            exact stepF_val (by first | rfl | simp [Region.wanted, yielded, *]) (by go_simp <;> omega) ⟨rfl, Below.refl _ _, hR⟩
          · refine ⟨fun _ _ _ _ _ h => h, fun _ _ _ _ h _ => h, fun v n x hn hR hk => ?_⟩
            have h22 : v 22 = .bool false := hk 22 (by kernel_rfl)
            have h31 : v 31 = .pointer (some ⟨bb, ob + py, none⟩) := hk 31 (by kernel_rfl)
            have g3 := HCB.out x hR
            simp only [List.take_succ_cons, List.take_zero, frameF, Act.put, List.setIfInBounds_toArray, List.set_cons_zero, List.set_cons_succ]
            exact stepF_val (by first | rfl | simp [Region.wanted, yielded, *]) (by go_simp <;> omega) ⟨rfl, Below.refl _ _, hR⟩
          · refine ⟨fun _ _ _ _ _ h => h, fun _ _ _ _ h _ => h, fun v n x hn hR hk => ?_⟩
            have h22 : v 22 = .bool false := hk 22 (by kernel_rfl)
            have h27 : v 27 = .string s1 := hk 27 (by kernel_rfl)
            have h32 : v 32 = .string s1 := hk 32 (by kernel_rfl)
            simp only [List.take_succ_cons, List.take_zero, frameF, Act.put, List.setIfInBounds_toArray, List.set_cons_zero, List.set_cons_succ]
            exact stepF_val (by first | rfl | simp [Region.wanted, yielded, *]) (by go_simp <;> omega) ⟨rfl, Below.refl _ _, hR⟩
          · refine ⟨fun _ _ _ _ _ h => h, fun _ _ _ _ h _ => h, fun v n x hn hR hk => ?_⟩
            have h22 : v 22 = .bool false := hk 22 (by kernel_rfl)
            have h33 : v 33 = .bool false := hk 33 (by kernel_rfl)
            simp only [List.take_succ_cons, List.take_zero, frameF, Act.put, List.setIfInBounds_toArray, List.set_cons_zero, List.set_cons_succ]
            exact stepF_val (by first | rfl | simp [Region.wanted, yielded, *]) (by go_simp <;> omega) ⟨rfl, Below.refl _ _, hR⟩
          · refine ⟨fun _ _ _ _ _ h => h, fun _ _ _ _ h _ => h, fun v n x hn hR hk => ?_⟩
            have h34 : v 34 = .bool false := hk 34 (by kernel_rfl)
            simp only [List.take_succ_cons, List.take_zero, frameF, Act.put, List.setIfInBounds_toArray, List.set_cons_zero, List.set_cons_succ]
            exact stepF_val (by first | rfl | simp [Region.wanted, yielded, *]) (by go_simp <;> omega) ⟨rfl, Below.refl _ _, hR⟩
          · refine ⟨fun _ _ _ _ _ h => h, fun _ _ _ _ h _ => h, fun v n x hn hR hk => ?_⟩
            have h35 : v 35 = .bool false := hk 35 (by kernel_rfl)
            simp only [List.take_succ_cons, List.take_zero, frameF, Act.put, List.setIfInBounds_toArray, List.set_cons_zero, List.set_cons_succ]
            exact stepF_val (by first | rfl | simp [Region.wanted, yielded, *]) (by go_simp <;> omega) ⟨rfl, Below.refl _ _, hR⟩
          · refine ⟨fun _ _ _ _ _ h => h, fun _ _ _ _ h _ => h, fun v n x hn hR hk => ?_⟩
            have h35 : v 35 = .bool false := hk 35 (by kernel_rfl)
            have h36 : v 36 = iv (k : Int) := hk 36 (by kernel_rfl)
            simp only [List.take_succ_cons, List.take_zero, frameF, Act.put, List.setIfInBounds_toArray, List.set_cons_zero, List.set_cons_succ]
            exact stepF_val (by first | rfl | simp [Region.wanted, yielded, *]) (by go_simp <;> omega) ⟨rfl, Below.refl _ _, hR⟩
          · refine ⟨fun _ _ _ _ _ h => h, fun _ _ _ _ h _ => h, fun v n x hn hR hk => ?_⟩
            have h35 : v 35 = .bool false := hk 35 (by kernel_rfl)
            have h37 : v 37 = .bool false := hk 37 (by kernel_rfl)
            simp only [List.take_succ_cons, List.take_zero, frameF, Act.put, List.setIfInBounds_toArray, List.set_cons_zero, List.set_cons_succ]
            exact stepF_val (by first | rfl | simp [Region.wanted, yielded, *]) (by go_simp <;> omega) ⟨rfl, Below.refl _ _, hR⟩
          · refine ⟨fun _ _ _ _ _ h => h, fun _ _ _ _ h _ => h, fun v n x hn hR hk => ?_⟩
            have h38 : v 38 = .bool false := hk 38 (by kernel_rfl)
            simp only [List.take_succ_cons, List.take_zero, frameF, Act.put, List.setIfInBounds_toArray, List.set_cons_zero, List.set_cons_succ]
            exact stepF_un (by first | rfl | (simp [Region.wanted, yielded, *]; done) | (simp [Region.wanted, yielded, undef, *]; done)) ⟨rfl, Below.refl _ _, hR⟩
          · refine ⟨fun _ _ _ _ _ h => h, fun _ _ _ _ h _ => h, fun v n x hn hR hk => ?_⟩
            have h38 : v 38 = .bool false := hk 38 (by kernel_rfl)
            simp only [List.take_succ_cons, List.take_zero, frameF, Act.put, List.setIfInBounds_toArray, List.set_cons_zero, List.set_cons_succ]
            exact stepF_un (by first | rfl | (simp [Region.wanted, yielded, *]; done) | (simp [Region.wanted, yielded, undef, *]; done)) ⟨rfl, Below.refl _ _, hR⟩
          · refine ⟨fun _ _ _ _ _ h => h, fun _ _ _ _ h _ => h, fun v n x hn hR hk => ?_⟩
            have h38 : v 38 = .bool false := hk 38 (by kernel_rfl)
            simp only [List.take_succ_cons, List.take_zero, frameF, Act.put, List.setIfInBounds_toArray, List.set_cons_zero, List.set_cons_succ]
            exact stepF_un (by first | rfl | (simp [Region.wanted, yielded, *]; done) | (simp [Region.wanted, yielded, undef, *]; done)) ⟨rfl, Below.refl _ _, hR⟩
          · refine ⟨fun _ _ _ _ _ h => h, fun _ _ _ _ h _ => h, fun v n x hn hR hk => ?_⟩
            have h38 : v 38 = .bool false := hk 38 (by kernel_rfl)
            simp only [List.take_succ_cons, List.take_zero, frameF, Act.put, List.setIfInBounds_toArray, List.set_cons_zero, List.set_cons_succ]
            exact stepF_un (by first | rfl | (simp [Region.wanted, yielded, *]; done) | (simp [Region.wanted, yielded, undef, *]; done)) ⟨rfl, Below.refl _ _, hR⟩
          · refine ⟨fun _ _ _ _ _ h => h, fun _ _ _ _ h _ => h, fun v n x hn hR hk => ?_⟩
            have h38 : v 38 = .bool false := hk 38 (by kernel_rfl)
            simp only [List.take_succ_cons, List.take_zero, frameF, Act.put, List.setIfInBounds_toArray, List.set_cons_zero, List.set_cons_succ]
            exact stepF_un (by first | rfl | (simp [Region.wanted, yielded, *]; done) | (simp [Region.wanted, yielded, undef, *]; done)) ⟨rfl, Below.refl _ _, hR⟩
          · refine ⟨fun _ _ _ _ _ h => h, fun _ _ _ _ h _ => h, fun v n x hn hR hk => ?_⟩
            have h38 : v 38 = .bool false := hk 38 (by kernel_rfl)
            simp only [List.take_succ_cons, List.take_zero, frameF, Act.put, List.setIfInBounds_toArray, List.set_cons_zero, List.set_cons_succ]
            exact stepF_un (by first | rfl | (simp [Region.wanted, yielded, *]; done) | (simp [Region.wanted, yielded, undef, *]; done)) ⟨rfl, Below.refl _ _, hR⟩
          · refine ⟨fun _ _ _ _ _ h => h, fun _ _ _ _ h _ => h, fun v n x hn hR hk => ?_⟩
            have h38 : v 38 = .bool false := hk 38 (by kernel_rfl)
            simp only [List.take_succ_cons, List.take_zero, frameF, Act.put, List.setIfInBounds_toArray, List.set_cons_zero, List.set_cons_succ]
            exact stepF_un (by first | rfl | (simp [Region.wanted, yielded, *]; done) | (simp [Region.wanted, yielded, undef, *]; done)) ⟨rfl, Below.refl _ _, hR⟩
          · refine ⟨fun _ _ _ _ _ h => h, fun _ _ _ _ h _ => h, fun v n x hn hR hk => ?_⟩
            have h38 : v 38 = .bool false := hk 38 (by kernel_rfl)
            simp only [List.take_succ_cons, List.take_zero, frameF, Act.put, List.setIfInBounds_toArray, List.set_cons_zero, List.set_cons_succ]
            exact stepF_un (by first | rfl | (simp [Region.wanted, yielded, *]; done) | (simp [Region.wanted, yielded, undef, *]; done)) ⟨rfl, Below.refl _ _, hR⟩
          · refine ⟨fun _ _ _ _ _ h => h, fun _ _ _ _ h _ => h, fun v n x hn hR hk => ?_⟩
            have h38 : v 38 = .bool false := hk 38 (by kernel_rfl)
            simp only [List.take_succ_cons, List.take_zero, frameF, Act.put, List.setIfInBounds_toArray, List.set_cons_zero, List.set_cons_succ]
            exact stepF_un (by first | rfl | (simp [Region.wanted, yielded, *]; done) | (simp [Region.wanted, yielded, undef, *]; done)) ⟨rfl, Below.refl _ _, hR⟩
          · refine ⟨fun _ _ _ _ _ h => h, fun _ _ _ _ h _ => h, fun v n x hn hR hk => ?_⟩
            have h38 : v 38 = .bool false := hk 38 (by kernel_rfl)
            simp only [List.take_succ_cons, List.take_zero, frameF, Act.put, List.setIfInBounds_toArray, List.set_cons_zero, List.set_cons_succ]
            exact stepF_un (by first | rfl | (simp [Region.wanted, yielded, *]; done) | (simp [Region.wanted, yielded, undef, *]; done)) ⟨rfl, Below.refl _ _, hR⟩
          · refine ⟨fun _ _ _ _ _ h => h, fun _ _ _ _ h _ => h, fun v n x hn hR hk => ?_⟩
            have h48 : v 48 = undef := hk 48 (by kernel_rfl)
            simp only [List.take_succ_cons, List.take_zero, frameF, Act.put, List.setIfInBounds_toArray, List.set_cons_zero, List.set_cons_succ]
            exact stepF_un (by first | rfl | (simp [Region.wanted, yielded, *]; done) | (simp [Region.wanted, yielded, undef, *]; done)) ⟨rfl, Below.refl _ _, hR⟩
          · refine ⟨fun _ _ _ _ _ h => h, fun _ _ _ _ h _ => h, fun v n x hn hR hk => ?_⟩
            have h48 : v 48 = undef := hk 48 (by kernel_rfl)
            simp only [List.take_succ_cons, List.take_zero, frameF, Act.put, List.setIfInBounds_toArray, List.set_cons_zero, List.set_cons_succ]
            exact stepF_un (by first | rfl | (simp [Region.wanted, yielded, *]; done) | (simp [Region.wanted, yielded, undef, *]; done)) ⟨rfl, Below.refl _ _, hR⟩
          · refine ⟨fun _ _ _ _ _ h => h, fun _ _ _ _ h _ => h, fun v n x hn hR hk => ?_⟩
            have h48 : v 48 = undef := hk 48 (by kernel_rfl)
            simp only [List.take_succ_cons, List.take_zero, frameF, Act.put, List.setIfInBounds_toArray, List.set_cons_zero, List.set_cons_succ]
            exact stepF_un (by first | rfl | (simp [Region.wanted, yielded, *]; done) | (simp [Region.wanted, yielded, undef, *]; done)) ⟨rfl, Below.refl _ _, hR⟩
          · refine ⟨fun _ _ _ _ _ h => h, fun _ _ _ _ h _ => h, fun v n x hn hR hk => ?_⟩
            have h48 : v 48 = undef := hk 48 (by kernel_rfl)
            simp only [List.take_succ_cons, List.take_zero, frameF, Act.put, List.setIfInBounds_toArray, List.set_cons_zero, List.set_cons_succ]
            exact stepF_un (by first | rfl | (simp [Region.wanted, yielded, *]; done) | (simp [Region.wanted, yielded, undef, *]; done)) ⟨rfl, Below.refl _ _, hR⟩
          · refine ⟨fun _ _ _ _ _ h => h, fun _ _ _ _ h _ => h, fun v n x hn hR hk => ?_⟩
            have h48 : v 48 = undef := hk 48 (by kernel_rfl)
            simp only [List.take_succ_cons, List.take_zero, frameF, Act.put, List.setIfInBounds_toArray, List.set_cons_zero, List.set_cons_succ]
            exact stepF_un (by first | rfl | (simp [Region.wanted, yielded, *]; done) | (simp [Region.wanted, yielded, undef, *]; done)) ⟨rfl, Below.refl _ _, hR⟩
          · refine ⟨fun _ _ _ _ _ h => h, fun _ _ _ _ h _ => h, fun v n x hn hR hk => ?_⟩
            have h48 : v 48 = undef := hk 48 (by kernel_rfl)
            simp only [List.take_succ_cons, List.take_zero, frameF, Act.put, List.setIfInBounds_toArray, List.set_cons_zero, List.set_cons_succ]
            exact stepF_un (by first | rfl | (simp [Region.wanted, yielded, *]; done) | (simp [Region.wanted, yielded, undef, *]; done)) ⟨rfl, Below.refl _ _, hR⟩
          · refine ⟨fun _ _ _ _ _ h => h, fun _ _ _ _ h _ => h, fun v n x hn hR hk => ?_⟩
            have h48 : v 48 = undef := hk 48 (by kernel_rfl)
            simp only [List.take_succ_cons, List.take_zero, frameF, Act.put, List.setIfInBounds_toArray, List.set_cons_zero, List.set_cons_succ]
            exact stepF_un (by first | rfl | (simp [Region.wanted, yielded, *]; done) | (simp [Region.wanted, yielded, undef, *]; done)) ⟨rfl, Below.refl _ _, hR⟩
          · refine ⟨fun _ _ _ _ _ h => h, fun _ _ _ _ h _ => h, fun v n x hn hR hk => ?_⟩
            have h48 : v 48 = undef := hk 48 (by kernel_rfl)
            simp only [List.take_succ_cons, List.take_zero, frameF, Act.put, List.setIfInBounds_toArray, List.set_cons_zero, List.set_cons_succ]
            exact stepF_un (by first | rfl | (simp [Region.wanted, yielded, *]; done) | (simp [Region.wanted, yielded, undef, *]; done)) ⟨rfl, Below.refl _ _, hR⟩
          · refine ⟨fun _ _ _ _ _ h => h, fun _ _ _ _ h _ => h, fun v n x hn hR hk => ?_⟩
            have h48 : v 48 = undef := hk 48 (by kernel_rfl)
            simp only [List.take_succ_cons, List.take_zero, frameF, Act.put, List.setIfInBounds_toArray, List.set_cons_zero, List.set_cons_succ]
            exact stepF_un (by first | rfl | (simp [Region.wanted, yielded, *]; done) | (simp [Region.wanted, yielded, undef, *]; done)) ⟨rfl, Below.refl _ _, hR⟩
          · refine ⟨fun _ _ _ _ _ h => h, fun _ _ _ _ h _ => h, fun v n x hn hR hk => ?_⟩
            have h38 : v 38 = .bool false := hk 38 (by kernel_rfl)
            simp only [List.take_succ_cons, List.take_zero, frameF, Act.put, List.setIfInBounds_toArray, List.set_cons_zero, List.set_cons_succ]
            exact stepF_un (by first | rfl | (simp [Region.wanted, yielded, *]; done) | (simp [Region.wanted, yielded, undef, *]; done)) ⟨rfl, Below.refl _ _, hR⟩
          · refine ⟨fun _ _ _ _ _ h => h, fun _ _ _ _ h _ => h, fun v n x hn hR hk => ?_⟩
            have h35 : v 35 = .bool false := hk 35 (by kernel_rfl)
            have h38 : v 38 = .bool false := hk 38 (by kernel_rfl)
            simp only [List.take_succ_cons, List.take_zero, frameF, Act.put, List.setIfInBounds_toArray, List.set_cons_zero, List.set_cons_succ]
            exact stepF_val (by first | rfl | simp [Region.wanted, yielded, *]) (by go_simp <;> omega) ⟨rfl, Below.refl _ _, hR⟩
          · refine ⟨fun _ _ _ _ _ h => h, fun _ _ _ _ h _ => h, fun v n x hn hR hk => ?_⟩
            have h35 : v 35 = .bool false := hk 35 (by kernel_rfl)
            have h59 : v 59 = .bool false := hk 59 (by kernel_rfl)
            simp only [List.take_succ_cons, List.take_zero, frameF, Act.put, List.setIfInBounds_toArray, List.set_cons_zero, List.set_cons_succ]
            exact stepF_val (by first | rfl | simp [Region.wanted, yielded, *]) (by go_simp <;> omega) ⟨rfl, Below.refl _ _, hR⟩
        · intro v n x hn hR hall
          have h60 : v 60 = .bool false := hall 60 (by decide)
          clear hall hn
          simp only [List.drop_succ_cons, List.drop_zero, List.drop_nil, List.take_succ_cons, List.take_zero, frameF, Act.put, List.setIfInBounds_toArray, List.set_cons_zero, List.set_cons_succ, Nat.zero_add, Nat.reduceAdd, h60]
          have hbz := hbr.trans ((hbM.mono hbr.size).trans (hR.mono (Nat.le_trans hbr.size hbM.size)))
          go_wp2_with fail
          go_roundw
          case rel => exact ⟨k + 1, by omega, by go_num, hbz⟩
          case measure => simp [intOf]; omega
      · obtain ⟨q, hq⟩ : ∃ q, k = q + 1 := ⟨k - 1, by omega⟩
        have q7 : (0 : Int) < (k : Int) := by omega
        obtain ⟨b0', off', y, hA1', hb0', hy, hd0, hd1⟩ := Sl.atPr (hsl.below hbr) (show q < l.length by omega)
        injection hA1' with hA1'
        injection hA1' with e1 e2 _
        subst e1; subst e2
        obtain ⟨n1, n2⟩ := File.pairs_next HP.out hy (by rw [← hq]; exact hx)
        obtain ⟨rx, ry⟩ := y
        simp only at n1 n2 hd0 hd1
        have HCP : Hid (∀ x, Below wM.heap.size wM x → x.cell? ⟨bl, ol + q * 2, none⟩ = some (iv (rx : Int)) ∧ x.cell? ⟨bl, ol + q * 2 + 1, none⟩ = some (iv (ry : Int))) := Lib.hid fun x h => ⟨((hbM.next h (Nat.le_refl _)).cell (p := ⟨bl, ol + q * 2, none⟩) hbl).trans hd0, ((hbM.next h (Nat.le_refl _)).cell (p := ⟨bl, ol + q * 2 + 1, none⟩) hbl).trans hd1⟩
        have q8 : ¬ (px : Int) ≤ (rx : Int) := by omega
        have q9 : ¬ (py : Int) ≤ (ry : Int) := by omega
        have eq2 : (k : Int) - 1 = (q : Int) := by omega
        have eq3 : IntKind.i64.wrap (q : Int) = (q : Int) := IntWalk.i64_in _ (by omega)
        have eq1 : IntKind.i64.wrap ((k : Int) - 1) = (q : Int) := by rw [eq2]; exact eq3
        have hql : q < l.length := by omega
        have hqli : (q : Int) < (l.length : Int) := by omega
        have HKQ := Lib.hid hq
        clear hkz hc0 hc1 hca hcb hs0 hs1 h3 hx hd0 hd1 hy hq
        refine wp_free_lit (by kernel_rfl) 61 (by kernel_rfl) (by kernel_rfl) (by decide) (fun _ x => Below wM.heap.size wM x) (fun x x' => Below x.heap.size x x')
          [fun _ u _ => u = .pointer (some ⟨wr.heap.size, 0, none⟩),
           fun _ u _ => u = iv (px : Int),
           fun _ u _ => u = .bool false,
           fun _ u _ => u = .bool false,
           fun _ u _ => u = .pointer (some ⟨wr.heap.size, 0, none⟩),
           fun _ u _ => u = iv (px : Int),
           fun _ u _ => u = .slice (some ⟨ba, oa, none⟩) a.length ca,
           fun _ u _ => u = iv (a.length : Int),
           fun _ u _ => u = .bool false,
           fun _ u _ => u = .bool false,
           fun _ u _ => u = .bool false,
           fun _ u _ => u = .pointer (some ⟨wr.heap.size, 1, none⟩),
           fun _ u _ => u = iv (py : Int),
           fun _ u _ => u = .bool false,
           fun _ u _ => u = .bool false,
           fun _ u _ => u = .bool false,
           fun _ u _ => u = .pointer (some ⟨wr.heap.size, 1, none⟩),
           fun _ u _ => u = iv (py : Int),
           fun _ u _ => u = .slice (some ⟨bb, ob, none⟩) b.length cb,
           fun _ u _ => u = iv (b.length : Int),
           fun _ u _ => u = .bool false,
           fun _ u _ => u = .bool false,
           fun _ u _ => u = .bool false,
           fun _ u _ => u = .slice (some ⟨ba, oa, none⟩) a.length ca,
           fun _ u _ => u = .pointer (some ⟨wr.heap.size, 0, none⟩),
           fun _ u _ => u = iv (px : Int),
           fun _ u _ => u = .pointer (some ⟨ba, oa + px, none⟩),
           fun _ u _ => u = .string s1,
           fun _ u _ => u = .slice (some ⟨bb, ob, none⟩) b.length cb,
           fun _ u _ => u = .pointer (some ⟨wr.heap.size, 1, none⟩),
           fun _ u _ => u = iv (py : Int),
           fun _ u _ => u = .pointer (some ⟨bb, ob + py, none⟩),
           fun _ u _ => u = .string s1,
           fun _ u _ => u = .bool false,
           fun _ u _ => u = .bool false,
           fun _ u _ => u = .bool false,
           fun _ u _ => u = iv (k : Int),
           fun _ u _ => u = .bool true,
           fun _ u _ => u = .bool true,
           fun _ u _ => u = .pointer (some ⟨wr.heap.size, 0, none⟩),
           fun _ u _ => u = iv (px : Int),
           fun _ u _ => u = .slice (some ⟨bl, ol, none⟩) l.length cl,
           fun _ u _ => u = iv (k : Int),
           fun _ u _ => u = iv (q : Int),
           fun _ u _ => u = .pointer (some ⟨bl, ol + q * 2, none⟩),
           fun _ u _ => u = .pointer (some ⟨bl, ol + q * 2, none⟩),
           fun _ u _ => u = iv (rx : Int),
           fun _ u _ => u = .bool false,
           fun _ u _ => u = .bool false,
           fun _ u _ => u = .pointer (some ⟨wr.heap.size, 1, none⟩),
           fun _ u _ => u = iv (py : Int),
           fun _ u _ => u = .slice (some ⟨bl, ol, none⟩) l.length cl,
           fun _ u _ => u = iv (k : Int),
           fun _ u _ => u = iv (q : Int),
           fun _ u _ => u = .pointer (some ⟨bl, ol + q * 2, none⟩),
           fun _ u _ => u = .pointer (some ⟨bl, ol + q * 2 + 1, none⟩),
           fun _ u _ => u = iv (ry : Int),
           fun _ u _ => u = .bool false,
           fun _ u _ => u = .bool false,
           fun _ u _ => u = .bool false,
           fun _ u _ => u = .bool false]
          (Below.refl _ wM).drew ?_ ?_
        · simp only [List.take_succ_cons, List.take_zero, HopL]
          refine ⟨?_, ?_, ?_, ?_, ?_, ?_, ?_, ?_, ?_, ?_, ?_, ?_, ?_, ?_, ?_, ?_, ?_, ?_, ?_, ?_, ?_, ?_, ?_, ?_, ?_, ?_, ?_, ?_, ?_, ?_, ?_, ?_, ?_, ?_, ?_, ?_, ?_, ?_, ?_, ?_, ?_, ?_, ?_, ?_, ?_, ?_, ?_, ?_, ?_, ?_, ?_, ?_, ?_, ?_, ?_, ?_, ?_, ?_, ?_, ?_, ?_, trivial⟩
          · refine ⟨fun _ _ _ _ _ h => h, fun _ _ _ _ h _ => h, fun v n x hn hR hk => ?_⟩
            simp only [List.take_succ_cons, List.take_zero, frameF, Act.put, List.setIfInBounds_toArray, List.set_cons_zero, List.set_cons_succ]
            exact stepF_val (by first | rfl | simp [Region.wanted, yielded, *]) (by go_simp <;> omega) ⟨rfl, Below.refl _ _, hR⟩
          · refine ⟨fun _ _ _ _ _ h => h, fun _ _ _ _ h _ => h, fun v n x hn hR hk => ?_⟩
            have h0 : v 0 = .pointer (some ⟨wr.heap.size, 0, none⟩) := hk 0 (by kernel_rfl)
            have g0 := (Blk.under HBX.out hR).cell 0
            have g1 := (Blk.under HBX.out hR).cell 1
            simp only [List.take_succ_cons, List.take_zero, frameF, Act.put, List.setIfInBounds_toArray, List.set_cons_zero, List.set_cons_succ]
            exact stepF_val (by first | rfl | simp [Region.wanted, yielded, *]) (by go_simp <;> omega) ⟨rfl, Below.refl _ _, hR⟩
          · refine ⟨fun _ _ _ _ _ h => h, fun _ _ _ _ h _ => h, fun v n x hn hR hk => ?_⟩
            have h1 : v 1 = iv (px : Int) := hk 1 (by kernel_rfl)
            simp only [List.take_succ_cons, List.take_zero, frameF, Act.put, List.setIfInBounds_toArray, List.set_cons_zero, List.set_cons_succ]
            exact stepF_val (by first | rfl | simp [Region.wanted, yielded, *]) (by go_simp <;> omega) ⟨rfl, Below.refl _ _, hR⟩
          · refine ⟨fun _ _ _ _ _ h => h, fun _ _ _ _ h _ => h, fun v n x hn hR hk => ?_⟩
            have h2 : v 2 = .bool false := hk 2 (by kernel_rfl)
            simp only [List.take_succ_cons, List.take_zero, frameF, Act.put, List.setIfInBounds_toArray, List.set_cons_zero, List.set_cons_succ]
            exact stepF_val (by first | rfl | simp [Region.wanted, yielded, *]) (by go_simp <;> omega) ⟨rfl, Below.refl _ _, hR⟩
          · refine ⟨fun _ _ _ _ _ h => h, fun _ _ _ _ h _ => h, fun v n x hn hR hk => ?_⟩
            have h3 : v 3 = .bool false := hk 3 (by kernel_rfl)
            simp only [List.take_succ_cons, List.take_zero, frameF, Act.put, List.setIfInBounds_toArray, List.set_cons_zero, List.set_cons_succ]
            exact stepF_val (by first | rfl | simp [Region.wanted, yielded, *]) (by go_simp <;> omega) ⟨rfl, Below.refl _ _, hR⟩
          · refine ⟨fun _ _ _ _ _ h => h, fun _ _ _ _ h _ => h, fun v n x hn hR hk => ?_⟩
            have h3 : v 3 = .bool false := hk 3 (by kernel_rfl)
            have h4 : v 4 = .pointer (some ⟨wr.heap.size, 0, none⟩) := hk 4 (by kernel_rfl)
            have g0 := (Blk.under HBX.out hR).cell 0
            have g1 := (Blk.under HBX.out hR).cell 1
            simp only [List.take_succ_cons, List.take_zero, frameF, Act.put, List.setIfInBounds_toArray, List.set_cons_zero, List.set_cons_succ]
            exact stepF_val (by first | rfl | simp [Region.wanted, yielded, *]) (by go_simp <;> omega) ⟨rfl, Below.refl _ _, hR⟩
          · refine ⟨fun _ _ _ _ _ h => h, fun _ _ _ _ h _ => h, fun v n x hn hR hk => ?_⟩
            have h3 : v 3 = .bool false := hk 3 (by kernel_rfl)
            simp only [List.take_succ_cons, List.take_zero, frameF, Act.put, List.setIfInBounds_toArray, List.set_cons_zero, List.set_cons_succ]
            exact stepF_val (by first | rfl | simp [Region.wanted, yielded, *]) (by go_simp <;> omega) ⟨rfl, Below.refl _ _, hR⟩
          · refine ⟨fun _ _ _ _ _ h => h, fun _ _ _ _ h _ => h, fun v n x hn hR hk => ?_⟩
            have h3 : v 3 = .bool false := hk 3 (by kernel_rfl)
            have h6 : v 6 = .slice (some ⟨ba, oa, none⟩) a.length ca := hk 6 (by kernel_rfl)
            simp only [List.take_succ_cons, List.take_zero, frameF, Act.put, List.setIfInBounds_toArray, List.set_cons_zero, List.set_cons_succ]
            exact stepF_val (by first | rfl | simp [Region.wanted, yielded, *]) (by go_simp <;> omega) ⟨rfl, Below.refl _ _, hR⟩
          · refine ⟨fun _ _ _ _ _ h => h, fun _ _ _ _ h _ => h, fun v n x hn hR hk => ?_⟩
            have h3 : v 3 = .bool false := hk 3 (by kernel_rfl)
            have h5 : v 5 = iv (px : Int) := hk 5 (by kernel_rfl)
            have h7 : v 7 = iv (a.length : Int) := hk 7 (by kernel_rfl)
            simp only [List.take_succ_cons, List.take_zero, frameF, Act.put, List.setIfInBounds_toArray, List.set_cons_zero, List.set_cons_succ]
            exact stepF_val (by first | rfl | simp [Region.wanted, yielded, *]) (by go_simp <;> omega) ⟨rfl, Below.refl _ _, hR⟩
          · refine ⟨fun _ _ _ _ _ h => h, fun _ _ _ _ h _ => h, fun v n x hn hR hk => ?_⟩
            have h3 : v 3 = .bool false := hk 3 (by kernel_rfl)
            have h8 : v 8 = .bool false := hk 8 (by kernel_rfl)
            simp only [List.take_succ_cons, List.take_zero, frameF, Act.put, List.setIfInBounds_toArray, List.set_cons_zero, List.set_cons_succ]
            exact stepF_val (by first | rfl | simp [Region.wanted, yielded, *]) (by go_simp <;> omega) ⟨rfl, Below.refl _ _, hR⟩
          · refine ⟨fun _ _ _ _ _ h => h, fun _ _ _ _ h _ => h, fun v n x hn hR hk => ?_⟩
            have h9 : v 9 = .bool false := hk 9 (by kernel_rfl)
            simp only [List.take_succ_cons, List.take_zero, frameF, Act.put, List.setIfInBounds_toArray, List.set_cons_zero, List.set_cons_succ]
            exact stepF_val (by first | rfl | simp [Region.wanted, yielded, *]) (by go_simp <;> omega) ⟨rfl, Below.refl _ _, hR⟩
          · refine ⟨fun _ _ _ _ _ h => h, fun _ _ _ _ h _ => h, fun v n x hn hR hk => ?_⟩
            have h10 : v 10 = .bool false := hk 10 (by kernel_rfl)
            simp only [List.take_succ_cons, List.take_zero, frameF, Act.put, List.setIfInBounds_toArray, List.set_cons_zero, List.set_cons_succ]
            exact stepF_val (by first | rfl | simp [Region.wanted, yielded, *]) (by go_simp <;> omega) ⟨rfl, Below.refl _ _, hR⟩
          · refine ⟨fun _ _ _ _ _ h => h, fun _ _ _ _ h _ => h, fun v n x hn hR hk => ?_⟩
            have h10 : v 10 = .bool false := hk 10 (by kernel_rfl)
            have h11 : v 11 = .pointer (some ⟨wr.heap.size, 1, none⟩) := hk 11 (by kernel_rfl)
            have g0 := (Blk.under HBX.out hR).cell 0
            have g1 := (Blk.under HBX.out hR).cell 1
            simp only [List.take_succ_cons, List.take_zero, frameF, Act.put, List.setIfInBounds_toArray, List.set_cons_zero, List.set_cons_succ]
            exact stepF_val (by first | rfl | simp [Region.wanted, yielded, *]) (by go_simp <;> omega) ⟨rfl, Below.refl _ _, hR⟩
          · refine ⟨fun _ _ _ _ _ h => h, fun _ _ _ _ h _ => h, fun v n x hn hR hk => ?_⟩
            have h10 : v 10 = .bool false := hk 10 (by kernel_rfl)
            have h12 : v 12 = iv (py : Int) := hk 12 (by kernel_rfl)
            simp only [List.take_succ_cons, List.take_zero, frameF, Act.put, List.setIfInBounds_toArray, List.set_cons_zero, List.set_cons_succ]
            exact stepF_val (by first | rfl | simp [Region.wanted, yielded, *]) (by go_simp <;> omega) ⟨rfl, Below.refl _ _, hR⟩
          · refine ⟨fun _ _ _ _ _ h => h, fun _ _ _ _ h _ => h, fun v n x hn hR hk => ?_⟩
            have h10 : v 10 = .bool false := hk 10 (by kernel_rfl)
            have h13 : v 13 = .bool false := hk 13 (by kernel_rfl)
            simp only [List.take_succ_cons, List.take_zero, frameF, Act.put, List.setIfInBounds_toArray, List.set_cons_zero, List.set_cons_succ]
            exact stepF_val (by first | rfl | simp [Region.wanted, yielded, *]) (by go_simp <;> omega) ⟨rfl, Below.refl _ _, hR⟩
          · refine ⟨fun _ _ _ _ _ h => h, fun _ _ _ _ h _ => h, fun v n x hn hR hk => ?_⟩
            have h14 : v 14 = .bool false := hk 14 (by kernel_rfl)
            simp only [List.take_succ_cons, List.take_zero, frameF, Act.put, List.setIfInBounds_toArray, List.set_cons_zero, List.set_cons_succ]
            exact stepF_val (by first | rfl | simp [Region.wanted, yielded, *]) (by go_simp <;> omega) ⟨rfl, Below.refl _ _, hR⟩
          · refine ⟨fun _ _ _ _ _ h => h, fun _ _ _ _ h _ => h, fun v n x hn hR hk => ?_⟩
            have h15 : v 15 = .bool false := hk 15 (by kernel_rfl)
            simp only [List.take_succ_cons, List.take_zero, frameF, Act.put, List.setIfInBounds_toArray, List.set_cons_zero, List.set_cons_succ]
            exact stepF_val (by first | rfl | simp [Region.wanted, yielded, *]) (by go_simp <;> omega) ⟨rfl, Below.refl _ _, hR⟩
          · refine ⟨fun _ _ _ _ _ h => h, fun _ _ _ _ h _ => h, fun v n x hn hR hk => ?_⟩
            have h15 : v 15 = .bool false := hk 15 (by kernel_rfl)
            have h16 : v 16 = .pointer (some ⟨wr.heap.size, 1, none⟩) := hk 16 (by kernel_rfl)
            have g0 := (Blk.under HBX.out hR).cell 0
            have g1 := (Blk.under HBX.out hR).cell 1
            simp only [List.take_succ_cons, List.take_zero, frameF, Act.put, List.setIfInBounds_toArray, List.set_cons_zero, List.set_cons_succ]
            exact stepF_val (by first | rfl | simp [Region.wanted, yielded, *]) (by go_simp <;> omega) ⟨rfl, Below.refl _ _, hR⟩
          · refine ⟨fun _ _ _ _ _ h => h, fun _ _ _ _ h _ => h, fun v n x hn hR hk => ?_⟩
            have h15 : v 15 = .bool false := hk 15 (by kernel_rfl)
            simp only [List.take_succ_cons, List.take_zero, frameF, Act.put, List.setIfInBounds_toArray, List.set_cons_zero, List.set_cons_succ]
            exact stepF_val (by first | rfl | simp [Region.wanted, yielded, *]) (by go_simp <;> omega) ⟨rfl, Below.refl _ _, hR⟩
          · refine ⟨fun _ _ _ _ _ h => h, fun _ _ _ _ h _ => h, fun v n x hn hR hk => ?_⟩
            have h15 : v 15 = .bool false := hk 15 (by kernel_rfl)
            have h18 : v 18 = .slice (some ⟨bb, ob, none⟩) b.length cb := hk 18 (by kernel_rfl)
            simp only [List.take_succ_cons, List.take_zero, frameF, Act.put, List.setIfInBounds_toArray, List.set_cons_zero, List.set_cons_succ]
            exact stepF_val (by first | rfl | simp [Region.wanted, yielded, *]) (by go_simp <;> omega) ⟨rfl, Below.refl _ _, hR⟩
          · refine ⟨fun _ _ _ _ _ h => h, fun _ _ _ _ h _ => h, fun v n x hn hR hk => ?_⟩
            have h15 : v 15 = .bool false := hk 15 (by kernel_rfl)
            have h17 : v 17 = iv (py : Int) := hk 17 (by kernel_rfl)
            have h19 : v 19 = iv (b.length : Int) := hk 19 (by kernel_rfl)
            simp only [List.take_succ_cons, List.take_zero, frameF, Act.put, List.setIfInBounds_toArray, List.set_cons_zero, List.set_cons_succ]
            exact stepF_val (by first | rfl | simp [Region.wanted, yielded, *]) (by go_simp <;> omega) ⟨rfl, Below.refl _ _, hR⟩
          · refine ⟨fun _ _ _ _ _ h => h, fun _ _ _ _ h _ => h, fun v n x hn hR hk => ?_⟩
            have h15 : v 15 = .bool false := hk 15 (by kernel_rfl)
            have h20 : v 20 = .bool false := hk 20 (by kernel_rfl)
            simp only [List.take_succ_cons, List.take_zero, frameF, Act.put, List.setIfInBounds_toArray, List.set_cons_zero, List.set_cons_succ]
            exact stepF_val (by first | rfl | simp [Region.wanted, yielded, *]) (by go_simp <;> omega) ⟨rfl, Below.refl _ _, hR⟩
          · refine ⟨fun _ _ _ _ _ h => h, fun _ _ _ _ h _ => h, fun v n x hn hR hk => ?_⟩
            have h21 : v 21 = .bool false := hk 21 (by kernel_rfl)
            simp only [List.take_succ_cons, List.take_zero, frameF, Act.put, List.setIfInBounds_toArray, List.set_cons_zero, List.set_cons_succ]
            exact stepF_val (by first | rfl | simp [Region.wanted, yielded, *]) (by go_simp <;> omega) ⟨rfl, Below.refl _ _, hR⟩
          · refine ⟨fun _ _ _ _ _ h => h, fun _ _ _ _ h _ => h, fun v n x hn hR hk => ?_⟩
            have h22 : v 22 = .bool false := hk 22 (by kernel_rfl)
            simp only [List.take_succ_cons, List.take_zero, frameF, Act.put, List.setIfInBounds_toArray, List.set_cons_zero, List.set_cons_succ]
            exact stepF_val (by first | rfl | simp [Region.wanted, yielded, *]) (by go_simp <;> omega) ⟨rfl, Below.refl _ _, hR⟩
          · refine ⟨fun _ _ _ _ _ h => h, fun _ _ _ _ h _ => h, fun v n x hn hR hk => ?_⟩
            have h22 : v 22 = .bool false := hk 22 (by kernel_rfl)
            simp only [List.take_succ_cons, List.take_zero, frameF, Act.put, List.setIfInBounds_toArray, List.set_cons_zero, List.set_cons_succ]
            exact stepF_val (by first | rfl | simp [Region.wanted, yielded, *]) (by go_simp <;> omega) ⟨rfl, Below.refl _ _, hR⟩
          · refine ⟨fun _ _ _ _ _ h => h, fun _ _ _ _ h _ => h, fun v n x hn hR hk => ?_⟩
            have h22 : v 22 = .bool false := hk 22 (by kernel_rfl)
            have h24 : v 24 = .pointer (some ⟨wr.heap.size, 0, none⟩) := hk 24 (by kernel_rfl)
            have g0 := (Blk.under HBX.out hR).cell 0
            have g1 := (Blk.under HBX.out hR).cell 1
            simp only [List.take_succ_cons, List.take_zero, frameF, Act.put, List.setIfInBounds_toArray, List.set_cons_zero, List.set_cons_succ]
            exact stepF_val (by first | rfl | simp [Region.wanted, yielded, *]) (by go_simp <;> omega) ⟨rfl, Below.refl _ _, hR⟩
          · refine ⟨fun _ _ _ _ _ h => h, fun _ _ _ _ h _ => h, fun v n x hn hR hk => ?_⟩
            have h22 : v 22 = .bool false := hk 22 (by kernel_rfl)
            have h23 : v 23 = .slice (some ⟨ba, oa, none⟩) a.length ca := hk 23 (by kernel_rfl)
            have h25 : v 25 = iv (px : Int) := hk 25 (by kernel_rfl)
            simp only [List.take_succ_cons, List.take_zero, frameF, Act.put, List.setIfInBounds_toArray, List.set_cons_zero, List.set_cons_succ]
            exact stepF_val (by first | rfl | simp [Region.wanted, yielded, *]) (by go_simp <;> omega) ⟨rfl, Below.refl _ _, hR⟩
          · refine ⟨fun _ _ _ _ _ h => h, fun _ _ _ _ h _ => h, fun v n x hn hR hk => ?_⟩
            have h22 : v 22 = .bool false := hk 22 (by kernel_rfl)
            have h26 : v 26 = .pointer (some ⟨ba, oa + px, none⟩) := hk 26 (by kernel_rfl)
            have g2 := HCA.out x hR
            simp only [List.take_succ_cons, List.take_zero, frameF, Act.put, List.setIfInBounds_toArray, List.set_cons_zero, List.set_cons_succ]
            exact stepF_val (by first | rfl | simp [Region.wanted, yielded, *]) (by go_simp <;> omega) ⟨rfl, Below.refl _ _, hR⟩
          · refine ⟨fun _ _ _ _ _ h => h, fun _ _ _ _ h _ => h, fun v n x hn hR hk => ?_⟩
            have h22 : v 22 = .bool false := hk 22 (by kernel_rfl)
            simp only [List.take_succ_cons, List.take_zero, frameF, Act.put, List.setIfInBounds_toArray, List.set_cons_zero, List.set_cons_succ]
            exact stepF_val (by first | rfl | simp [Region.wanted, yielded, *]) (by go_simp <;> omega) ⟨rfl, Below.refl _ _, hR⟩
          · refine ⟨fun _ _ _ _ _ h => h, fun _ _ _ _ h _ => h, fun v n x hn hR hk => ?_⟩
            have h22 : v 22 = .bool false := hk 22 (by kernel_rfl)
            simp only [List.take_succ_cons, List.take_zero, frameF, Act.put, List.setIfInBounds_toArray, List.set_cons_zero, List.set_cons_succ]
            exact stepF_val (by first | rfl | simp [Region.wanted, yielded, *]) (by go_simp <;> omega) ⟨rfl, Below.refl _ _, hR⟩
          · refine ⟨fun _ _ _ _ _ h => h, fun _ _ _ _ h _ => h, fun v n x hn hR hk => ?_⟩
            have h22 : v 22 = .bool false := hk 22 (by kernel_rfl)
            have h29 : v 29 = .pointer (some ⟨wr.heap.size, 1, none⟩) := hk 29 (by kernel_rfl)
            have g0 := (Blk.under HBX.out hR).cell 0
            have g1 := (Blk.under HBX.out hR).cell 1
            simp only [List.take_succ_cons, List.take_zero, frameF, Act.put, List.setIfInBounds_toArray, List.set_cons_zero, List.set_cons_succ]
            exact stepF_val (by first | rfl | simp [Region.wanted, yielded, *]) (by go_simp <;> omega) ⟨rfl, Below.refl _ _, hR⟩
          · refine ⟨fun _ _ _ _ _ h => h, fun _ _ _ _ h _ => h, fun v n x hn hR hk => ?_⟩
            have h22 : v 22 = .bool false := hk 22 (by kernel_rfl)
            have h28 : v 28 = .slice (some ⟨bb, ob, none⟩) b.length cb := hk 28 (by kernel_rfl)
            have h30 : v 30 = iv (py : Int) := hk 30 (by kernel_rfl)
            simp only [List.take_succ_cons, List.take_zero, frameF, Act.put, List.setIfInBounds_toArray, List.set_cons_zero, List.set_cons_succ]
            exact stepF_val (by first | rfl | simp [Region.wanted, yielded, *]) (by go_simp <;> omega) ⟨rfl, Below.refl _ _, hR⟩
          · refine ⟨fun _ _ _ _ _ h => h, fun _ _ _ _ h _ => h, fun v n x hn hR hk => ?_⟩
            have h22 : v 22 = .bool false := hk 22 (by kernel_rfl)
            have h31 : v 31 = .pointer (some ⟨bb, ob + py, none⟩) := hk 31 (by kernel_rfl)
            have g3 := HCB.out x hR
            simp only [List.take_succ_cons, List.take_zero, frameF, Act.put, List.setIfInBounds_toArray, List.set_cons_zero, List.set_cons_succ]
            exact stepF_val (by first | rfl | simp [Region.wanted, yielded, *]) (by go_simp <;> omega) ⟨rfl, Below.refl _ _, hR⟩
          · refine ⟨fun _ _ _ _ _ h => h, fun _ _ _ _ h _ => h, fun v n x hn hR hk => ?_⟩
            have h22 : v 22 = .bool false := hk 22 (by kernel_rfl)
            have h27 : v 27 = .string s1 := hk 27 (by kernel_rfl)
            have h32 : v 32 = .string s1 := hk 32 (by kernel_rfl)
            simp only [List.take_succ_cons, List.take_zero, frameF, Act.put, List.setIfInBounds_toArray, List.set_cons_zero, List.set_cons_succ]
            exact stepF_val (by first | rfl | simp [Region.wanted, yielded, *]) (by go_simp <;> omega) ⟨rfl, Below.refl _ _, hR⟩
          · refine ⟨fun _ _ _ _ _ h => h, fun _ _ _ _ h _ => h, fun v n x hn hR hk => ?_⟩
            have h22 : v 22 = .bool false := hk 22 (by kernel_rfl)
            have h33 : v 33 = .bool false := hk 33 (by kernel_rfl)
            simp only [List.take_succ_cons, List.take_zero, frameF, Act.put, List.setIfInBounds_toArray, List.set_cons_zero, List.set_cons_succ]
            exact stepF_val (by first | rfl | simp [Region.wanted, yielded, *]) (by go_simp <;> omega) ⟨rfl, Below.refl _ _, hR⟩
          · refine ⟨fun _ _ _ _ _ h => h, fun _ _ _ _ h _ => h, fun v n x hn hR hk => ?_⟩
            have h34 : v 34 = .bool false := hk 34 (by kernel_rfl)
            simp only [List.take_succ_cons, List.take_zero, frameF, Act.put, List.setIfInBounds_toArray, List.set_cons_zero, List.set_cons_succ]
            exact stepF_val (by first | rfl | simp [Region.wanted, yielded, *]) (by go_simp <;> omega) ⟨rfl, Below.refl _ _, hR⟩
          · refine ⟨fun _ _ _ _ _ h => h, fun _ _ _ _ h _ => h, fun v n x hn hR hk => ?_⟩
            have h35 : v 35 = .bool false := hk 35 (by kernel_rfl)
            simp only [List.take_succ_cons, List.take_zero, frameF, Act.put, List.setIfInBounds_toArray, List.set_cons_zero, List.set_cons_succ]
            exact stepF_val (by first | rfl | simp [Region.wanted, yielded, *]) (by go_simp <;> omega) ⟨rfl, Below.refl _ _, hR⟩
          · refine ⟨fun _ _ _ _ _ h => h, fun _ _ _ _ h _ => h, fun v n x hn hR hk => ?_⟩
            have h35 : v 35 = .bool false := hk 35 (by kernel_rfl)
            have h36 : v 36 = iv (k : Int) := hk 36 (by kernel_rfl)
            simp only [List.take_succ_cons, List.take_zero, frameF, Act.put, List.setIfInBounds_toArray, List.set_cons_zero, List.set_cons_succ]
            exact stepF_val (by first | rfl | simp [Region.wanted, yielded, *]) (by go_simp <;> omega) ⟨rfl, Below.refl _ _, hR⟩
          · refine ⟨fun _ _ _ _ _ h => h, fun _ _ _ _ h _ => h, fun v n x hn hR hk => ?_⟩
            have h35 : v 35 = .bool false := hk 35 (by kernel_rfl)
            have h37 : v 37 = .bool true := hk 37 (by kernel_rfl)
            simp only [List.take_succ_cons, List.take_zero, frameF, Act.put, List.setIfInBounds_toArray, List.set_cons_zero, List.set_cons_succ]
            exact stepF_val (by first | rfl | simp [Region.wanted, yielded, *]) (by go_simp <;> omega) ⟨rfl, Below.refl _ _, hR⟩
          · refine ⟨fun _ _ _ _ _ h => h, fun _ _ _ _ h _ => h, fun v n x hn hR hk => ?_⟩
            have h38 : v 38 = .bool true := hk 38 (by kernel_rfl)
            simp only [List.take_succ_cons, List.take_zero, frameF, Act.put, List.setIfInBounds_toArray, List.set_cons_zero, List.set_cons_succ]
            exact stepF_val (by first | rfl | simp [Region.wanted, yielded, *]) (by go_simp <;> omega) ⟨rfl, Below.refl _ _, hR⟩
          · refine ⟨fun _ _ _ _ _ h => h, fun _ _ _ _ h _ => h, fun v n x hn hR hk => ?_⟩
            have h38 : v 38 = .bool true := hk 38 (by kernel_rfl)
            have h39 : v 39 = .pointer (some ⟨wr.heap.size, 0, none⟩) := hk 39 (by kernel_rfl)
            have g0 := (Blk.under HBX.out hR).cell 0
            have g1 := (Blk.under HBX.out hR).cell 1
            simp only [List.take_succ_cons, List.take_zero, frameF, Act.put, List.setIfInBounds_toArray, List.set_cons_zero, List.set_cons_succ]
            exact stepF_val (by first | rfl | simp [Region.wanted, yielded, *]) (by go_simp <;> omega) ⟨rfl, Below.refl _ _, hR⟩
          · refine ⟨fun _ _ _ _ _ h => h, fun _ _ _ _ h _ => h, fun v n x hn hR hk => ?_⟩
            have h38 : v 38 = .bool true := hk 38 (by kernel_rfl)
            simp only [List.take_succ_cons, List.take_zero, frameF, Act.put, List.setIfInBounds_toArray, List.set_cons_zero, List.set_cons_succ]
            exact stepF_val (by first | rfl | simp [Region.wanted, yielded, *]) (by go_simp <;> omega) ⟨rfl, Below.refl _ _, hR⟩
          · refine ⟨fun _ _ _ _ _ h => h, fun _ _ _ _ h _ => h, fun v n x hn hR hk => ?_⟩
            have h38 : v 38 = .bool true := hk 38 (by kernel_rfl)
            simp only [List.take_succ_cons, List.take_zero, frameF, Act.put, List.setIfInBounds_toArray, List.set_cons_zero, List.set_cons_succ]
            exact stepF_val (by first | rfl | simp [Region.wanted, yielded, *]) (by go_simp <;> omega) ⟨rfl, Below.refl _ _, hR⟩
          · refine ⟨fun _ _ _ _ _ h => h, fun _ _ _ _ h _ => h, fun v n x hn hR hk => ?_⟩
            have h38 : v 38 = .bool true := hk 38 (by kernel_rfl)
            have h42 : v 42 = iv (k : Int) := hk 42 (by kernel_rfl)
            simp only [List.take_succ_cons, List.take_zero, frameF, Act.put, List.setIfInBounds_toArray, List.set_cons_zero, List.set_cons_succ]
            exact stepF_val (by first | rfl | simp [Region.wanted, yielded, *]) (by go_simp <;> omega) ⟨rfl, Below.refl _ _, hR⟩
          · refine ⟨fun _ _ _ _ _ h => h, fun _ _ _ _ h _ => h, fun v n x hn hR hk => ?_⟩
            have h38 : v 38 = .bool true := hk 38 (by kernel_rfl)
            have h41 : v 41 = .slice (some ⟨bl, ol, none⟩) l.length cl := hk 41 (by kernel_rfl)
            have h43 : v 43 = iv (q : Int) := hk 43 (by kernel_rfl)
            simp only [List.take_succ_cons, List.take_zero, frameF, Act.put, List.setIfInBounds_toArray, List.set_cons_zero, List.set_cons_succ]
            exact stepF_val (by first | rfl | simp [Region.wanted, yielded, *]) (by go_simp <;> omega) ⟨rfl, Below.refl _ _, hR⟩
          · refine ⟨fun _ _ _ _ _ h => h, fun _ _ _ _ h _ => h, fun v n x hn hR hk => ?_⟩
            have h38 : v 38 = .bool true := hk 38 (by kernel_rfl)
            have h44 : v 44 = .pointer (some ⟨bl, ol + q * 2, none⟩) := hk 44 (by kernel_rfl)
            simp only [List.take_succ_cons, List.take_zero, frameF, Act.put, List.setIfInBounds_toArray, List.set_cons_zero, List.set_cons_succ]
            exact stepF_val (by first | rfl | simp [Region.wanted, yielded, *]) (by go_simp <;> omega) ⟨rfl, Below.refl _ _, hR⟩
          · refine ⟨fun _ _ _ _ _ h => h, fun _ _ _ _ h _ => h, fun v n x hn hR hk => ?_⟩
            have h38 : v 38 = .bool true := hk 38 (by kernel_rfl)
            have h45 : v 45 = .pointer (some ⟨bl, ol + q * 2, none⟩) := hk 45 (by kernel_rfl)
            obtain ⟨g4, g5⟩ := HCP.out x hR
            simp only [List.take_succ_cons, List.take_zero, frameF, Act.put, List.setIfInBounds_toArray, List.set_cons_zero, List.set_cons_succ]
            exact stepF_val (by first | rfl | simp [Region.wanted, yielded, *]) (by go_simp <;> omega) ⟨rfl, Below.refl _ _, hR⟩
          · refine ⟨fun _ _ _ _ _ h => h, fun _ _ _ _ h _ => h, fun v n x hn hR hk => ?_⟩
            have h38 : v 38 = .bool true := hk 38 (by kernel_rfl)
            have h40 : v 40 = iv (px : Int) := hk 40 (by kernel_rfl)
            have h46 : v 46 = iv (rx : Int) := hk 46 (by kernel_rfl)
            simp only [List.take_succ_cons, List.take_zero, frameF, Act.put, List.setIfInBounds_toArray, List.set_cons_zero, List.set_cons_succ]
            exact stepF_val (by first | rfl | simp [Region.wanted, yielded, *]) (by go_simp <;> omega) ⟨rfl, Below.refl _ _, hR⟩
          · refine ⟨fun _ _ _ _ _ h => h, fun _ _ _ _ h _ => h, fun v n x hn hR hk => ?_⟩
            have h38 : v 38 = .bool true := hk 38 (by kernel_rfl)
            have h47 : v 47 = .bool false := hk 47 (by kernel_rfl)
            simp only [List.take_succ_cons, List.take_zero, frameF, Act.put, List.setIfInBounds_toArray, List.set_cons_zero, List.set_cons_succ]
            exact stepF_val (by first | rfl | simp [Region.wanted, yielded, *]) (by go_simp <;> omega) ⟨rfl, Below.refl _ _, hR⟩
          · refine ⟨fun _ _ _ _ _ h => h, fun _ _ _ _ h _ => h, fun v n x hn hR hk => ?_⟩
            have h48 : v 48 = .bool false := hk 48 (by kernel_rfl)
            simp only [List.take_succ_cons, List.take_zero, frameF, Act.put, List.setIfInBounds_toArray, List.set_cons_zero, List.set_cons_succ]
            exact stepF_val (by first | rfl | simp [Region.wanted, yielded, *]) (by go_simp <;> omega) ⟨rfl, Below.refl _ _, hR⟩
          · refine ⟨fun _ _ _ _ _ h => h, fun _ _ _ _ h _ => h, fun v n x hn hR hk => ?_⟩
            have h48 : v 48 = .bool false := hk 48 (by kernel_rfl)
            have h49 : v 49 = .pointer (some ⟨wr.heap.size, 1, none⟩) := hk 49 (by kernel_rfl)
            have g0 := (Blk.under HBX.out hR).cell 0
            have g1 := (Blk.under HBX.out hR).cell 1
            simp only [List.take_succ_cons, List.take_zero, frameF, Act.put, List.setIfInBounds_toArray, List.set_cons_zero, List.set_cons_succ]
            exact stepF_val (by first | rfl | simp [Region.wanted, yielded, *]) (by go_simp <;> omega) ⟨rfl, Below.refl _ _, hR⟩
          · refine ⟨fun _ _ _ _ _ h => h, fun _ _ _ _ h _ => h, fun v n x hn hR hk => ?_⟩
            have h48 : v 48 = .bool false := hk 48 (by kernel_rfl)
            simp only [List.take_succ_cons, List.take_zero, frameF, Act.put, List.setIfInBounds_toArray, List.set_cons_zero, List.set_cons_succ]
            exact stepF_val (by first | rfl | simp [Region.wanted, yielded, *]) (by go_simp <;> omega) ⟨rfl, Below.refl _ _, hR⟩
          · refine ⟨fun _ _ _ _ _ h => h, fun _ _ _ _ h _ => h, fun v n x hn hR hk => ?_⟩
            have h48 : v 48 = .bool false := hk 48 (by kernel_rfl)
            simp only [List.take_succ_cons, List.take_zero, frameF, Act.put, List.setIfInBounds_toArray, List.set_cons_zero, List.set_cons_succ]
            exact stepF_val (by first | rfl | simp [Region.wanted, yielded, *]) (by go_simp <;> omega) ⟨rfl, Below.refl _ _, hR⟩
          · refine ⟨fun _ _ _ _ _ h => h, fun _ _ _ _ h _ => h, fun v n x hn hR hk => ?_⟩
            have h48 : v 48 = .bool false := hk 48 (by kernel_rfl)
            have h52 : v 52 = iv (k : Int) := hk 52 (by kernel_rfl)
            simp only [List.take_succ_cons, List.take_zero, frameF, Act.put, List.setIfInBounds_toArray, List.set_cons_zero, List.set_cons_succ]
            exact stepF_val (by first | rfl | simp [Region.wanted, yielded, *]) (by go_simp <;> omega) ⟨rfl, Below.refl _ _, hR⟩
          · refine ⟨fun _ _ _ _ _ h => h, fun _ _ _ _ h _ => h, fun v n x hn hR hk => ?_⟩
            have h48 : v 48 = .bool false := hk 48 (by kernel_rfl)
            have h51 : v 51 = .slice (some ⟨bl, ol, none⟩) l.length cl := hk 51 (by kernel_rfl)
            have h53 : v 53 = iv (q : Int) := hk 53 (by kernel_rfl)
            simp only [List.take_succ_cons, List.take_zero, frameF, Act.put, List.setIfInBounds_toArray, List.set_cons_zero, List.set_cons_succ]
            exact stepF_val (by first | rfl | simp [Region.wanted, yielded, *]) (by go_simp <;> omega) ⟨rfl, Below.refl _ _, hR⟩
          · refine ⟨fun _ _ _ _ _ h => h, fun _ _ _ _ h _ => h, fun v n x hn hR hk => ?_⟩
            have h48 : v 48 = .bool false := hk 48 (by kernel_rfl)
            have h54 : v 54 = .pointer (some ⟨bl, ol + q * 2, none⟩) := hk 54 (by kernel_rfl)
            simp only [List.take_succ_cons, List.take_zero, frameF, Act.put, List.setIfInBounds_toArray, List.set_cons_zero, List.set_cons_succ]
            exact stepF_val (by first | rfl | simp [Region.wanted, yielded, *]) (by go_simp <;> omega) ⟨rfl, Below.refl _ _, hR⟩
          · refine ⟨fun _ _ _ _ _ h => h, fun _ _ _ _ h _ => h, fun v n x hn hR hk => ?_⟩
            have h48 : v 48 = .bool false := hk 48 (by kernel_rfl)
            have h55 : v 55 = .pointer (some ⟨bl, ol + q * 2 + 1, none⟩) := hk 55 (by kernel_rfl)
            obtain ⟨g4, g5⟩ := HCP.out x hR
            simp only [List.take_succ_cons, List.take_zero, frameF, Act.put, List.setIfInBounds_toArray, List.set_cons_zero, List.set_cons_succ]
            exact stepF_val (by first | rfl | simp [Region.wanted, yielded, *]) (by go_simp <;> omega) ⟨rfl, Below.refl _ _, hR⟩
          · refine ⟨fun _ _ _ _ _ h => h, fun _ _ _ _ h _ => h, fun v n x hn hR hk => ?_⟩
            have h48 : v 48 = .bool false := hk 48 (by kernel_rfl)
            have h50 : v 50 = iv (py : Int) := hk 50 (by kernel_rfl)
            have h56 : v 56 = iv (ry : Int) := hk 56 (by kernel_rfl)
            simp only [List.take_succ_cons, List.take_zero, frameF, Act.put, List.setIfInBounds_toArray, List.set_cons_zero, List.set_cons_succ]
            exact stepF_val (by first | rfl | simp [Region.wanted, yielded, *]) (by go_simp <;> omega) ⟨rfl, Below.refl _ _, hR⟩
          · refine ⟨fun _ _ _ _ _ h => h, fun _ _ _ _ h _ => h, fun v n x hn hR hk => ?_⟩
            have h38 : v 38 = .bool true := hk 38 (by kernel_rfl)
            have h48 : v 48 = .bool false := hk 48 (by kernel_rfl)
            have h57 : v 57 = .bool false := hk 57 (by kernel_rfl)
            simp only [List.take_succ_cons, List.take_zero, frameF, Act.put, List.setIfInBounds_toArray, List.set_cons_zero, List.set_cons_succ]
            exact stepF_val (by first | rfl | simp [Region.wanted, yielded, *]) (by go_simp <;> omega) ⟨rfl, Below.refl _ _, hR⟩
          · refine ⟨fun _ _ _ _ _ h => h, fun _ _ _ _ h _ => h, fun v n x hn hR hk => ?_⟩
            have h35 : v 35 = .bool false := hk 35 (by kernel_rfl)
            have h38 : v 38 = .bool true := hk 38 (by kernel_rfl)
            have h58 : v 58 = .bool false := hk 58 (by kernel_rfl)
            simp only [List.take_succ_cons, List.take_zero, frameF, Act.put, List.setIfInBounds_toArray, List.set_cons_zero, List.set_cons_succ]
            exact stepF_val (by first | rfl | simp [Region.wanted, yielded, *]) (by go_simp <;> omega) ⟨rfl, Below.refl _ _, hR⟩
          · refine ⟨fun _ _ _ _ _ h => h, fun _ _ _ _ h _ => h, fun v n x hn hR hk => ?_⟩
            have h35 : v 35 = .bool false := hk 35 (by kernel_rfl)
            have h59 : v 59 = .bool false := hk 59 (by kernel_rfl)
            simp only [List.take_succ_cons, List.take_zero, frameF, Act.put, List.setIfInBounds_toArray, List.set_cons_zero, List.set_cons_succ]
            exact stepF_val (by first | rfl | simp [Region.wanted, yielded, *]) (by go_simp <;> omega) ⟨rfl, Below.refl _ _, hR⟩
        · intro v n x hn hR hall
          have h60 : v 60 = .bool false := hall 60 (by decide)
          clear hall hn
          simp only [List.drop_succ_cons, List.drop_zero, List.drop_nil, List.take_succ_cons, List.take_zero, frameF, Act.put, List.setIfInBounds_toArray, List.set_cons_zero, List.set_cons_succ, Nat.zero_add, Nat.reduceAdd, h60]
          have hbz := hbr.trans ((hbM.mono hbr.size).trans (hR.mono (Nat.le_trans hbr.size hbM.size)))
          go_wp2_with fail
          go_roundw
          case rel => exact ⟨k + 1, by omega, by go_num, hbz⟩
          case measure => simp [intOf]; omega
    · have hki : ¬ (k : Int) < (l.length : Int) := by omega
      go_wp2_with fail
      go_ret
      exact ⟨rfl, hbr⟩
end Fl
end Go.Proofs.YtekkhnjepcebkaaGreatDoor
