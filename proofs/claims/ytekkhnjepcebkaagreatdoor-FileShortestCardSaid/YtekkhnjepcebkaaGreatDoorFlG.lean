/- Package file: the greatest of some numbers; the lengths of the longest common pairs. Conditions: files that are right. -/
import Derived.Test.YtekkhnjepcebkaaGreatDoorFlC
import Derived.Test.YtekkhnjepcebkaaGreatDoorFree
import Derived.Test.YtekkhnjepcebkaaGreatDoorFileLcs
set_option linter.unusedVariables false
set_option linter.unusedSimpArgs false
namespace Go.Proofs.YtekkhnjepcebkaaGreatDoor
namespace File
def great (l : List Int) : Int := l.foldl max 0
end File
namespace Fl
open Go.RowKit
set_option maxRecDepth 100000
theorem greatest_spec (A : Option Addr) (xs : List Int) (c : Nat) (w : World) (hm : xs.length ≤ big) (hs : Sl intE w A xs) :
    Calls Tryz.prog 119 #[.slice A xs.length c] w fun e w' => e = .returned (iv (File.great xs)) ∧ w = w' := by
  unfold big at hm
  go_enter Tryz.func119, Tryz.ntmps119
  go_wp2
  go_loop [3, 8] (fun v i => ∃ (k : Nat) (m : Int), k ≤ xs.length ∧ i = iv k ∧ v = iv m ∧ Hid ((xs.drop k).foldl max m = File.great xs)) (fun _ i => xs.length - (intOf i).toNat)
  case atStart => exact ⟨0, 0, by omega, rfl, rfl, rfl⟩
  case round =>
    obtain ⟨k, m, hk, rfl, rfl, hr⟩ := hrel
    by_cases hlt : k < xs.length
    · obtain ⟨b, off, x, rfl, hb, hx, hc⟩ := hs.atI hlt
      have hr' := hr.out
      rw [drop_at hx, List.foldl_cons] at hr'
      have HR := Lib.hid hr'
      clear hr hr' hx
      go_wp2
      all_goals
        go_round
        case rel => exact ⟨k + 1, max m x, by omega, by go_num, by first | rfl | (congr 1; omega), HR⟩
        case measure => simp [intOf]; omega
    · have hr' := hr.out
      rw [drop_end hlt] at hr'
      go_wp2
      go_ret
      exact ⟨ret_eq (by rw [← hr']; rfl), rfl⟩
/-- Block g is the table of the numbers f. -/
def Grid (w : World) (g : Nat) (f : Nat → Nat → Nat) : Prop := ∃ cs : Array Value, Blk w g 237 cs ∧ cs.size = 625 ∧ ∀ i j, i < 25 → j < 25 → cs[i * 25 + j]? = some (iv (f i j))
theorem Grid.below {w w' : World} {g : Nat} {f : Nat → Nat → Nat} (h : Grid w g f) (hb : Below w.heap.size w w') : Grid w' g f := by
  obtain ⟨cs, h1, h2, h3⟩ := h
  exact ⟨cs, h1.under hb, h2, h3⟩
theorem Grid.cell {w : World} {g : Nat} {f : Nat → Nat → Nat} (h : Grid w g f) {i j : Nat} (hi : i < 25) (hj : j < 25) : w.cell? ⟨g, i * 25 + j, none⟩ = some (iv (f i j)) := by
  obtain ⟨cs, h1, h2, h3⟩ := h
  rw [h1.cell]; exact h3 i j hi hj
theorem Grid.lt {w : World} {g : Nat} {f : Nat → Nat → Nat} (h : Grid w g f) : g < w.heap.size := by
  obtain ⟨cs, h1, _⟩ := h; exact h1.lt
theorem Grid.frozen {w : World} {g : Nat} {f : Nat → Nat → Nat} (h : Grid w g f) : ∀ o, w.frozen? ⟨g, o, none⟩ = false := by
  obtain ⟨cs, h1, _⟩ := h; exact h1.frozen
theorem Grid.set_ {w : World} {g : Nat} {f : Nat → Nat → Nat} (h : Grid w g f) {i j : Nat} (hi : i < 25) (hj : j < 25) (n : Nat) : Grid (w.setCell ⟨g, i * 25 + j, none⟩ (iv n)) g (fun p q => if p = i ∧ q = j then n else f p q) := by
  obtain ⟨cs, h1, h2, h3⟩ := h
  refine ⟨_, h1.set_ (i * 25 + j) (iv n), by simpa using h2, fun p q hp hq => ?_⟩
  by_cases he : p = i ∧ q = j
  · obtain ⟨rfl, rfl⟩ := he
    rw [Array.getElem?_setIfInBounds_self_of_lt (by omega)]
    simp
  · show _ = some (iv ((if p = i ∧ q = j then n else f p q : Nat) : Int))
    rw [if_neg he, Array.getElem?_setIfInBounds_ne (by omega)]
    exact h3 p q hp hq
theorem zeroCells : ∀ i j : Nat, i < 25 → j < 25 → Tryz.zeroCells237[i * 25 + j]? = some (iv 0) := by
  intro i j hi hj
  have h : Tryz.zeroCells237 = Array.replicate 625 (iv 0) := by kernel_rfl
  rw [h, Array.getElem?_replicate, if_pos (by omega)]
theorem Sl.fresh {α : Type} (E : Enc α) (w : World) (t : TypeId) (arr : Array Value) (xs : List α) (h : arr.toList = xs.flatMap E.cells) (hm : xs.length ≤ maxLen) : Sl E (w.alloc (.cells arr t)) (some ⟨w.heap.size, 0, none⟩) xs := by
  have hb : Blk (w.alloc (.cells arr t)) w.heap.size t (xs.flatMap E.cells).toArray := by
    rw [← h]; exact Blk.new w t arr
  exact (Own.ofBlk (E := E) (B := 0) hb (Nat.zero_le _) hm).sl
theorem str_eq (x y : ByteArray) : (x.toList == y.toList) = decide (x = y) := by
  rw [ByteArray.toList_eq, ByteArray.toList_eq]
  by_cases h : x = y
  · subst h; simp
  · rw [decide_eq_false h, beq_eq_false_iff_ne]
    intro he
    apply h
    apply ByteArray.ext
    exact Array.toList_inj.1 he
theorem great2 (X Y : Nat) : iv (File.great [(X : Int), Y]) = iv (max X Y : Nat) := by
  show iv (max (max 0 (X : Int)) Y) = _
  congr 1
  omega
def partTab (a b : List ByteArray) (i j : Nat) (p q : Nat) : Nat := if i < p ∨ (p = i ∧ j ≤ q) then File.from_ a b p q else 0
theorem Grid.congr {w : World} {g : Nat} {f f' : Nat → Nat → Nat} (h : Grid w g f) (he : ∀ i j, i < 25 → j < 25 → f i j = f' i j) : Grid w g f' := by
  obtain ⟨cs, h1, h2, h3⟩ := h
  exact ⟨cs, h1, h2, fun i j hi hj => by rw [← he i j hi hj]; exact h3 i j hi hj⟩
set_option maxHeartbeats 4000000 in
theorem lens_spec (A : Option Addr) (a : List ByteArray) (c : Nat) (A' : Option Addr) (b : List ByteArray) (c' : Nat) (w : World) (hal : a.length ≤ 24) (hbl : b.length ≤ 24) (hsa : Sl strE w A a) (hsb : Sl strE w A' b) :
    Calls Tryz.prog 148 #[.slice A a.length c, .slice A' b.length c'] w fun e w' => ∃ g, e = .returned (.pointer (some ⟨g, 0, none⟩)) ∧ Grid w' g (File.from_ a b) ∧ Below w.heap.size w w' := by
  go_enter Tryz.func148, Tryz.ntmps148
  go_upto_region 2 with fail
  have hB0 : Blk (w.alloc (.cells Tryz.zeroCells237 237)) w.heap.size 237 Tryz.zeroCells237 := Blk.new _ _ _
  have hG0 : Grid (w.alloc (.cells Tryz.zeroCells237 237)) w.heap.size (fun _ _ => 0) := ⟨_, hB0, by kernel_rfl, fun i j hi hj => zeroCells i j hi hj⟩
  have hb0 : Below w.heap.size w (w.alloc (.cells Tryz.zeroCells237 237)) := (Below.refl _ _).alloc (Nat.le_refl _) _
  generalize w.alloc (.cells Tryz.zeroCells237 237) = w1 at *
  clear hB0
  go_wp2_with fail
  go_loopw [6, 7] (fun v _ wr => ∃ (i : Nat), i ≤ a.length ∧ v = iv ((i : Int) - 1) ∧ Grid wr w.heap.size (partTab a b i 0) ∧ Below w.heap.size w wr) (fun v _ _ => (intOf v + 1).toNat)
  case atStart =>
    refine ⟨a.length, Nat.le_refl _, rfl, hG0.congr fun p q hp hq => ?_, hb0⟩
    unfold partTab
    split
    · rename_i h
      rw [File.from_endA (by omega)]
    · rfl
  case round =>
    obtain ⟨i, hi, rfl, hG, hbw⟩ := hrel
    by_cases hlt : 0 < i
    · obtain ⟨p, rfl⟩ : ∃ p, i = p + 1 := ⟨i - 1, by omega⟩
      have hpi : (0 : Int) ≤ (p : Int) := by omega
      have e1 : ((p + 1 : Nat) : Int) - 1 = (p : Int) := by omega
      rw [e1]
      clear e1
      go_wp2_with fail
      go_loopw [7] (fun v wx => ∃ (j : Nat), j ≤ b.length ∧ v = iv ((j : Int) - 1) ∧ Grid wx w.heap.size (partTab a b p j) ∧ Below w.heap.size w wx) (fun v _ => (intOf v + 1).toNat)
      case atStart =>
        refine ⟨b.length, Nat.le_refl _, rfl, hG.congr fun r s hr hs => ?_, hbw⟩
        unfold partTab
        by_cases h1 : p + 1 ≤ r
        · rw [if_pos (by omega), if_pos (by omega)]
        · rw [if_neg (by omega)]
          split
          · rw [File.from_endB (by omega)]
          · rfl
      case round =>
        clear hG hbw
        obtain ⟨j, hj, rfl, hGx, hbx⟩ := hrel
        by_cases hlt2 : 0 < j
        · obtain ⟨q, rfl⟩ : ∃ q, j = q + 1 := ⟨j - 1, by omega⟩
          have hqi : (0 : Int) ≤ (q : Int) := by omega
          have e1 : ((q + 1 : Nat) : Int) - 1 = (q : Int) := by omega
          rw [e1]
          clear e1
          have hp25 : p + 1 < 25 := by omega
          have hq25 : q + 1 < 25 := by omega
          have hX : partTab a b p (q + 1) (p + 1) q = File.from_ a b (p + 1) q := by unfold partTab; rw [if_pos (by omega)]
          have hY : partTab a b p (q + 1) p (q + 1) = File.from_ a b p (q + 1) := by unfold partTab; rw [if_pos (by omega)]
          have hZ : partTab a b p (q + 1) (p + 1) (q + 1) = File.from_ a b (p + 1) (q + 1) := by unfold partTab; rw [if_pos (by omega)]
          obtain ⟨X, hXe⟩ : ∃ X, X = File.from_ a b (p + 1) q := ⟨_, rfl⟩
          obtain ⟨Y, hYe⟩ : ∃ Y, Y = File.from_ a b p (q + 1) := ⟨_, rfl⟩
          obtain ⟨Z, hZe⟩ : ∃ Z, Z = File.from_ a b (p + 1) (q + 1) := ⟨_, rfl⟩
          rw [← hXe] at hX
          rw [← hYe] at hY
          rw [← hZe] at hZ
          have HX := Lib.hid hXe
          have HY := Lib.hid hYe
          have HZ := Lib.hid hZe
          have e1 : IntKind.i64.wrap ((p : Int) + 1) = ((p + 1 : Nat) : Int) := IntWalk.i64_in _ (by omega)
          have e2 : IntKind.i64.wrap ((q : Int) + 1) = ((q + 1 : Nat) : Int) := IntWalk.i64_in _ (by omega)
          have hpl : (p : Int) < 25 := by omega
          have hql : (q : Int) < 25 := by omega
          have hpl1 : (p : Int) + 1 < 25 := by omega
          have hql1 : (q : Int) + 1 < 25 := by omega
          have hpl0 : (0 : Int) ≤ (p : Int) + 1 := by omega
          have hql0 : (0 : Int) ≤ (q : Int) + 1 := by omega
          have hpt : ((p : Int) + 1).toNat = p + 1 := by omega
          have hqt : ((q : Int) + 1).toNat = q + 1 := by omega
          clear hXe hYe hZe
          go_upto_region 8 with fail
          have HFF : Hid (∀ x : World, Below wr.heap.size wr x → x.cell? ⟨w.heap.size, (p + 1) * 25 + q, none⟩ = some (iv X) ∧ x.cell? ⟨w.heap.size, p * 25 + (q + 1), none⟩ = some (iv Y) ∧ w.heap.size < x.heap.size) := Lib.hid fun x h =>
            ⟨by rw [(hGx.below h).cell (by omega) (by omega), hX], by rw [(hGx.below h).cell (by omega) (by omega), hY], (hGx.below h).lt⟩
          have HGX := Lib.hid hGx
          have HBX := Lib.hid hbx
          clear hGx hbx hX hY
          refine wp_free_lit (by kernel_rfl) 18 (by kernel_rfl) (by kernel_rfl) (by decide) (fun _ x => Below wr.heap.size wr x) (fun x x' => Below x.heap.size x x')
            [fun _ u _ => u = iv p,
             fun _ u _ => u = iv q,
             fun _ u _ => u = iv p,
             fun _ u _ => u = iv ((p + 1 : Nat) : Int),
             fun _ u _ => u = iv q,
             fun _ u _ => u = .pointer (some ⟨w.heap.size, (p + 1) * 25, none⟩),
             fun _ u _ => u = .pointer (some ⟨w.heap.size, (p + 1) * 25 + q, none⟩),
             fun _ u _ => u = iv X,
             fun _ u _ => u = iv p,
             fun _ u _ => u = iv q,
             fun _ u _ => u = iv ((q + 1 : Nat) : Int),
             fun _ u _ => u = .pointer (some ⟨w.heap.size, p * 25, none⟩),
             fun _ u _ => u = .pointer (some ⟨w.heap.size, p * 25 + (q + 1), none⟩),
             fun _ u _ => u = iv Y,
             fun _ u x => ∃ g, u = .slice (some ⟨g, 0, none⟩) 2 2 ∧ Sl intE x (some ⟨g, 0, none⟩) [(X : Int), Y],
             fun _ u _ => u = iv (max X Y : Nat),
             fun _ u _ => u = .pointer (some ⟨w.heap.size, p * 25, none⟩),
             fun _ u _ => u = .pointer (some ⟨w.heap.size, p * 25 + q, none⟩)]
            (Below.refl _ wr).drew ?_ ?_
          · simp only [List.take_succ_cons, List.take_zero, HopL]
            refine ⟨?_, ?_, ?_, ?_, ?_, ?_, ?_, ?_, ?_, ?_, ?_, ?_, ?_, ?_, ?_, ?_, ?_, ?_, trivial⟩
            · refine ⟨fun _ _ _ _ _ h => h, fun _ _ _ _ h _ => h, fun v n x hn hR hk => ?_⟩
              obtain ⟨f0, f1, f2⟩ := HFF.out x hR
              skip
              simp only [List.take_succ_cons, List.take_zero, frameF, Act.put, List.setIfInBounds_toArray, List.set_cons_zero, List.set_cons_succ]
              exact stepF_val (by rfl) (by go_simp) ⟨rfl, Below.refl _ _, hR⟩
            · refine ⟨fun _ _ _ _ _ h => h, fun _ _ _ _ h _ => h, fun v n x hn hR hk => ?_⟩
              obtain ⟨f0, f1, f2⟩ := HFF.out x hR
              skip
              simp only [List.take_succ_cons, List.take_zero, frameF, Act.put, List.setIfInBounds_toArray, List.set_cons_zero, List.set_cons_succ]
              exact stepF_val (by rfl) (by go_simp) ⟨rfl, Below.refl _ _, hR⟩
            · refine ⟨fun _ _ _ _ _ h => h, fun _ _ _ _ h _ => h, fun v n x hn hR hk => ?_⟩
              obtain ⟨f0, f1, f2⟩ := HFF.out x hR
              skip
              simp only [List.take_succ_cons, List.take_zero, frameF, Act.put, List.setIfInBounds_toArray, List.set_cons_zero, List.set_cons_succ]
              exact stepF_val (by rfl) (by go_simp) ⟨rfl, Below.refl _ _, hR⟩
            · refine ⟨fun _ _ _ _ _ h => h, fun _ _ _ _ h _ => h, fun v n x hn hR hk => ?_⟩
              obtain ⟨f0, f1, f2⟩ := HFF.out x hR
              have h0 : v 2 = iv p := hk 2 (by kernel_rfl)
              simp only [List.take_succ_cons, List.take_zero, frameF, Act.put, List.setIfInBounds_toArray, List.set_cons_zero, List.set_cons_succ]
              exact stepF_val (by rfl) (by go_simp) ⟨rfl, Below.refl _ _, hR⟩
            · refine ⟨fun _ _ _ _ _ h => h, fun _ _ _ _ h _ => h, fun v n x hn hR hk => ?_⟩
              obtain ⟨f0, f1, f2⟩ := HFF.out x hR
              skip
              simp only [List.take_succ_cons, List.take_zero, frameF, Act.put, List.setIfInBounds_toArray, List.set_cons_zero, List.set_cons_succ]
              exact stepF_val (by rfl) (by go_simp) ⟨rfl, Below.refl _ _, hR⟩
            · refine ⟨fun _ _ _ _ _ h => h, fun _ _ _ _ h _ => h, fun v n x hn hR hk => ?_⟩
              obtain ⟨f0, f1, f2⟩ := HFF.out x hR
              have h0 : v 3 = iv ((p + 1 : Nat) : Int) := hk 3 (by kernel_rfl)
              simp only [List.take_succ_cons, List.take_zero, frameF, Act.put, List.setIfInBounds_toArray, List.set_cons_zero, List.set_cons_succ]
              exact stepF_val (by rfl) (by go_simp) ⟨rfl, Below.refl _ _, hR⟩
            · refine ⟨fun _ _ _ _ _ h => h, fun _ _ _ _ h _ => h, fun v n x hn hR hk => ?_⟩
              obtain ⟨f0, f1, f2⟩ := HFF.out x hR
              (have h0 : v 5 = .pointer (some ⟨w.heap.size, (p + 1) * 25, none⟩) := hk 5 (by kernel_rfl); have h1 : v 4 = iv q := hk 4 (by kernel_rfl))
              simp only [List.take_succ_cons, List.take_zero, frameF, Act.put, List.setIfInBounds_toArray, List.set_cons_zero, List.set_cons_succ]
              exact stepF_val (by rfl) (by go_simp) ⟨rfl, Below.refl _ _, hR⟩
            · refine ⟨fun _ _ _ _ _ h => h, fun _ _ _ _ h _ => h, fun v n x hn hR hk => ?_⟩
              obtain ⟨f0, f1, f2⟩ := HFF.out x hR
              have h0 : v 6 = .pointer (some ⟨w.heap.size, (p + 1) * 25 + q, none⟩) := hk 6 (by kernel_rfl)
              simp only [List.take_succ_cons, List.take_zero, frameF, Act.put, List.setIfInBounds_toArray, List.set_cons_zero, List.set_cons_succ]
              exact stepF_val (by rfl) (by go_simp) ⟨rfl, Below.refl _ _, hR⟩
            · refine ⟨fun _ _ _ _ _ h => h, fun _ _ _ _ h _ => h, fun v n x hn hR hk => ?_⟩
              obtain ⟨f0, f1, f2⟩ := HFF.out x hR
              skip
              simp only [List.take_succ_cons, List.take_zero, frameF, Act.put, List.setIfInBounds_toArray, List.set_cons_zero, List.set_cons_succ]
              exact stepF_val (by rfl) (by go_simp) ⟨rfl, Below.refl _ _, hR⟩
            · refine ⟨fun _ _ _ _ _ h => h, fun _ _ _ _ h _ => h, fun v n x hn hR hk => ?_⟩
              obtain ⟨f0, f1, f2⟩ := HFF.out x hR
              skip
              simp only [List.take_succ_cons, List.take_zero, frameF, Act.put, List.setIfInBounds_toArray, List.set_cons_zero, List.set_cons_succ]
              exact stepF_val (by rfl) (by go_simp) ⟨rfl, Below.refl _ _, hR⟩
            · refine ⟨fun _ _ _ _ _ h => h, fun _ _ _ _ h _ => h, fun v n x hn hR hk => ?_⟩
              obtain ⟨f0, f1, f2⟩ := HFF.out x hR
              have h0 : v 9 = iv q := hk 9 (by kernel_rfl)
              simp only [List.take_succ_cons, List.take_zero, frameF, Act.put, List.setIfInBounds_toArray, List.set_cons_zero, List.set_cons_succ]
              exact stepF_val (by rfl) (by go_simp) ⟨rfl, Below.refl _ _, hR⟩
            · refine ⟨fun _ _ _ _ _ h => h, fun _ _ _ _ h _ => h, fun v n x hn hR hk => ?_⟩
              obtain ⟨f0, f1, f2⟩ := HFF.out x hR
              have h0 : v 8 = iv p := hk 8 (by kernel_rfl)
              simp only [List.take_succ_cons, List.take_zero, frameF, Act.put, List.setIfInBounds_toArray, List.set_cons_zero, List.set_cons_succ]
              exact stepF_val (by rfl) (by go_simp) ⟨rfl, Below.refl _ _, hR⟩
            · refine ⟨fun _ _ _ _ _ h => h, fun _ _ _ _ h _ => h, fun v n x hn hR hk => ?_⟩
              obtain ⟨f0, f1, f2⟩ := HFF.out x hR
              (have h0 : v 11 = .pointer (some ⟨w.heap.size, p * 25, none⟩) := hk 11 (by kernel_rfl); have h1 : v 10 = iv ((q + 1 : Nat) : Int) := hk 10 (by kernel_rfl))
              simp only [List.take_succ_cons, List.take_zero, frameF, Act.put, List.setIfInBounds_toArray, List.set_cons_zero, List.set_cons_succ]
              exact stepF_val (by rfl) (by go_simp) ⟨rfl, Below.refl _ _, hR⟩
            · refine ⟨fun _ _ _ _ _ h => h, fun _ _ _ _ h _ => h, fun v n x hn hR hk => ?_⟩
              obtain ⟨f0, f1, f2⟩ := HFF.out x hR
              have h0 : v 12 = .pointer (some ⟨w.heap.size, p * 25 + (q + 1), none⟩) := hk 12 (by kernel_rfl)
              simp only [List.take_succ_cons, List.take_zero, frameF, Act.put, List.setIfInBounds_toArray, List.set_cons_zero, List.set_cons_succ]
              exact stepF_val (by rfl) (by go_simp) ⟨rfl, Below.refl _ _, hR⟩
            · refine ⟨fun _ _ _ _ _ h => h, fun _ _ _ _ h hS => ?_, fun v n x hn hR hk => ?_⟩
              · obtain ⟨g, h1, h2⟩ := h
                exact ⟨g, h1, h2.below hS⟩
              · have h0 : v 7 = iv X := hk 7 (by kernel_rfl)
                have h1 : v 13 = iv Y := hk 13 (by kernel_rfl)
                simp only [List.take_succ_cons, List.take_zero, frameF, Act.put, List.setIfInBounds_toArray, List.set_cons_zero, List.set_cons_succ]
                exact stepF_new (u := .slice (some ⟨x.heap.size, 0, none⟩) 2 2) (w' := x.alloc (.cells #[iv X, iv Y] 3)) (by rfl) (by go_simp) ⟨⟨x.heap.size, rfl, Sl.fresh intE x 3 #[iv X, iv Y] [(X : Int), Y] rfl (by simp [maxLen])⟩, (Below.refl _ _).alloc (Nat.le_refl _) _, hR.alloc hR.size _⟩
            · refine ⟨fun _ _ _ _ _ h => h, fun _ _ _ _ h _ => h, fun v n x hn hR hk => ?_⟩
              have h14 : ∃ g, v 14 = .slice (some ⟨g, 0, none⟩) 2 2 ∧ Sl intE x (some ⟨g, 0, none⟩) [(X : Int), Y] := hk 14 (by kernel_rfl)
              obtain ⟨g, h1, h2⟩ := h14
              simp only [List.take_succ_cons, List.take_zero, frameF, Act.put, List.setIfInBounds_toArray, List.set_cons_zero, List.set_cons_succ]
              refine stepF_call (by rfl) (by go_simp) (greatest_spec (some ⟨g, 0, none⟩) [(X : Int), Y] 2 x (by simp [big]) h2) ?_
              rintro e x' ⟨rfl, rfl⟩
              exact ⟨_, rfl, great2 X Y, Below.refl _ _, hR⟩
            · refine ⟨fun _ _ _ _ _ h => h, fun _ _ _ _ h _ => h, fun v n x hn hR hk => ?_⟩
              obtain ⟨f0, f1, f2⟩ := HFF.out x hR
              have h0 : v 0 = iv p := hk 0 (by kernel_rfl)
              simp only [List.take_succ_cons, List.take_zero, frameF, Act.put, List.setIfInBounds_toArray, List.set_cons_zero, List.set_cons_succ]
              exact stepF_val (by rfl) (by go_simp) ⟨rfl, Below.refl _ _, hR⟩
            · refine ⟨fun _ _ _ _ _ h => h, fun _ _ _ _ h _ => h, fun v n x hn hR hk => ?_⟩
              obtain ⟨f0, f1, f2⟩ := HFF.out x hR
              (have h0 : v 16 = .pointer (some ⟨w.heap.size, p * 25, none⟩) := hk 16 (by kernel_rfl); have h1 : v 1 = iv q := hk 1 (by kernel_rfl))
              simp only [List.take_succ_cons, List.take_zero, frameF, Act.put, List.setIfInBounds_toArray, List.set_cons_zero, List.set_cons_succ]
              exact stepF_val (by rfl) (by go_simp) ⟨rfl, Below.refl _ _, hR⟩
          · intro v n x hn hR hall
            have h15 : v 15 = iv (max X Y : Nat) := hall 15 (by decide)
            have h17 : v 17 = .pointer (some ⟨w.heap.size, p * 25 + q, none⟩) := hall 17 (by decide)
            have hst := (HGX.out.below hR).set_ (i := p) (j := q) (by omega) (by omega) (max X Y)
            have hgl := (HGX.out.below hR).lt
            have m0 := (HGX.out.below hR).cell (i := p) (j := q) (by omega) (by omega)
            have m1 := (HGX.out.below hR).frozen
            have HST := Lib.hid hst
            have HBS := Lib.hid ((HBX.out.next hR (Nat.le_refl _)).setCell (p := ⟨w.heap.size, p * 25 + q, none⟩) (Nat.le_refl _) (iv (max X Y : Nat)))
            clear hall hR hst HFF
            simp only [List.drop_succ_cons, List.drop_zero, List.take_succ_cons, List.take_zero, frameF, Act.put, List.setIfInBounds_toArray, List.set_cons_zero, List.set_cons_succ, h15, h17]
            go_upto_region 9 with fail
            generalize x.setCell ⟨w.heap.size, p * 25 + q, none⟩ (iv (max X Y : Nat)) = wS at *
            have hpa : p < a.length := by omega
            have hqb : q < b.length := by omega
            obtain ⟨ba, offa, sa, rfl, hba, hxa, hca⟩ := Sl.atS (hsa.below HBS.out) hpa
            obtain ⟨bb, offb, sb, rfl, hbb, hxb, hcb⟩ := Sl.atS (hsb.below HBS.out) hqb
            have hpai : (p : Int) < (a.length : Int) := by omega
            have hqbi : (q : Int) < (b.length : Int) := by omega
            have HXA := Lib.hid hxa
            have HXB := Lib.hid hxb
            clear hxa hxb m0 m1
            have hsq := str_eq sa sb
            have HSA : Hid (a[p]'hpa = sa) := Lib.hid (by have := HXA.out; rw [List.getElem?_eq_getElem hpa] at this; injection this)
            have HSB : Hid (b[q]'hqb = sb) := Lib.hid (by have := HXB.out; rw [List.getElem?_eq_getElem hqb] at this; injection this)
            by_cases hsab : sa = sb
            · have heq : (sa.toList == sb.toList) = true := by rw [hsq]; simpa using hsab
              have HEQ := Lib.hid hsab
              clear hsq hsab
              have hZl : Z ≤ 24 := by have := File.from_le a b (p + 1) (q + 1); rw [← HZ.out] at this; omega
              obtain ⟨M, hM⟩ : ∃ M, M = max X Y := ⟨_, rfl⟩
              rw [← hM] at HST
              have hHM : Hid (M = max X Y) := Lib.hid hM
              have e3 : IntKind.i64.wrap ((Z : Int) + 1) = ((Z + 1 : Nat) : Int) := IntWalk.i64_in _ (by omega)
              go_quiet (fail)
              go_upto_region 10 with fail
              have HSTn : Hid (Grid (wS.drewN nq) w.heap.size fun p_1 q_1 => if p_1 = p ∧ q_1 = q then M else partTab a b p (q + 1) p_1 q_1) := Lib.hid HST.out
              have HBSn : Hid (Below w.heap.size w (wS.drewN nq)) := Lib.hid ⟨HBS.out.os, HBS.out.tape, HBS.out.output, HBS.out.size, HBS.out.block⟩
              generalize wS.drewN nq = wT at *
              clear hM
              have HFF : Hid (∀ x : World, Below wT.heap.size wT x → x.cell? ⟨w.heap.size, p * 25 + q, none⟩ = some (iv M) ∧ x.cell? ⟨w.heap.size, (p + 1) * 25 + (q + 1), none⟩ = some (iv Z) ∧ w.heap.size < x.heap.size) := Lib.hid fun x h =>
                ⟨by rw [(HSTn.out.below h).cell (by omega) (by omega), if_pos ⟨rfl, rfl⟩], by rw [(HSTn.out.below h).cell (by omega) (by omega), if_neg (by omega), hZ], (HSTn.out.below h).lt⟩
              refine wp_free_lit (by kernel_rfl) 19 (by kernel_rfl) (by kernel_rfl) (by decide) (fun _ x => Below wT.heap.size wT x) (fun x x' => Below x.heap.size x x')
                [fun _ u _ => u = iv p,
                 fun _ u _ => u = iv q,
                 fun _ u _ => u = iv p,
                 fun _ u _ => u = iv q,
                 fun _ u _ => u = .pointer (some ⟨w.heap.size, p * 25, none⟩),
                 fun _ u _ => u = .pointer (some ⟨w.heap.size, p * 25 + q, none⟩),
                 fun _ u _ => u = iv M,
                 fun _ u _ => u = iv p,
                 fun _ u _ => u = iv ((p + 1 : Nat) : Int),
                 fun _ u _ => u = iv q,
                 fun _ u _ => u = iv ((q + 1 : Nat) : Int),
                 fun _ u _ => u = .pointer (some ⟨w.heap.size, (p + 1) * 25, none⟩),
                 fun _ u _ => u = .pointer (some ⟨w.heap.size, (p + 1) * 25 + (q + 1), none⟩),
                 fun _ u _ => u = iv Z,
                 fun _ u _ => u = iv ((Z + 1 : Nat) : Int),
                 fun _ u x => ∃ g, u = .slice (some ⟨g, 0, none⟩) 2 2 ∧ Sl intE x (some ⟨g, 0, none⟩) [(M : Int), ((Z + 1 : Nat) : Int)],
                 fun _ u _ => u = iv (max M (Z + 1) : Nat),
                 fun _ u _ => u = .pointer (some ⟨w.heap.size, p * 25, none⟩),
                 fun _ u _ => u = .pointer (some ⟨w.heap.size, p * 25 + q, none⟩)]
                (Below.refl _ wT).drew ?_ ?_
              · simp only [List.take_succ_cons, List.take_zero, HopL]
                refine ⟨?_, ?_, ?_, ?_, ?_, ?_, ?_, ?_, ?_, ?_, ?_, ?_, ?_, ?_, ?_, ?_, ?_, ?_, ?_, trivial⟩
                · refine ⟨fun _ _ _ _ _ h => h, fun _ _ _ _ h _ => h, fun v n x hn hR hk => ?_⟩
                  obtain ⟨f0, f1, f2⟩ := HFF.out x hR
                  skip
                  simp only [List.take_succ_cons, List.take_zero, frameF, Act.put, List.setIfInBounds_toArray, List.set_cons_zero, List.set_cons_succ]
                  exact stepF_val (by rfl) (by go_simp) ⟨rfl, Below.refl _ _, hR⟩
                · refine ⟨fun _ _ _ _ _ h => h, fun _ _ _ _ h _ => h, fun v n x hn hR hk => ?_⟩
                  obtain ⟨f0, f1, f2⟩ := HFF.out x hR
                  skip
                  simp only [List.take_succ_cons, List.take_zero, frameF, Act.put, List.setIfInBounds_toArray, List.set_cons_zero, List.set_cons_succ]
                  exact stepF_val (by rfl) (by go_simp) ⟨rfl, Below.refl _ _, hR⟩
                · refine ⟨fun _ _ _ _ _ h => h, fun _ _ _ _ h _ => h, fun v n x hn hR hk => ?_⟩
                  obtain ⟨f0, f1, f2⟩ := HFF.out x hR
                  skip
                  simp only [List.take_succ_cons, List.take_zero, frameF, Act.put, List.setIfInBounds_toArray, List.set_cons_zero, List.set_cons_succ]
                  exact stepF_val (by rfl) (by go_simp) ⟨rfl, Below.refl _ _, hR⟩
                · refine ⟨fun _ _ _ _ _ h => h, fun _ _ _ _ h _ => h, fun v n x hn hR hk => ?_⟩
                  obtain ⟨f0, f1, f2⟩ := HFF.out x hR
                  skip
                  simp only [List.take_succ_cons, List.take_zero, frameF, Act.put, List.setIfInBounds_toArray, List.set_cons_zero, List.set_cons_succ]
                  exact stepF_val (by rfl) (by go_simp) ⟨rfl, Below.refl _ _, hR⟩
                · refine ⟨fun _ _ _ _ _ h => h, fun _ _ _ _ h _ => h, fun v n x hn hR hk => ?_⟩
                  obtain ⟨f0, f1, f2⟩ := HFF.out x hR
                  have h0 : v 2 = iv p := hk 2 (by kernel_rfl)
                  simp only [List.take_succ_cons, List.take_zero, frameF, Act.put, List.setIfInBounds_toArray, List.set_cons_zero, List.set_cons_succ]
                  exact stepF_val (by rfl) (by go_simp) ⟨rfl, Below.refl _ _, hR⟩
                · refine ⟨fun _ _ _ _ _ h => h, fun _ _ _ _ h _ => h, fun v n x hn hR hk => ?_⟩
                  obtain ⟨f0, f1, f2⟩ := HFF.out x hR
                  (have h0 : v 4 = .pointer (some ⟨w.heap.size, p * 25, none⟩) := hk 4 (by kernel_rfl); have h1 : v 3 = iv q := hk 3 (by kernel_rfl))
                  simp only [List.take_succ_cons, List.take_zero, frameF, Act.put, List.setIfInBounds_toArray, List.set_cons_zero, List.set_cons_succ]
                  exact stepF_val (by rfl) (by go_simp) ⟨rfl, Below.refl _ _, hR⟩
                · refine ⟨fun _ _ _ _ _ h => h, fun _ _ _ _ h _ => h, fun v n x hn hR hk => ?_⟩
                  obtain ⟨f0, f1, f2⟩ := HFF.out x hR
                  have h0 : v 5 = .pointer (some ⟨w.heap.size, p * 25 + q, none⟩) := hk 5 (by kernel_rfl)
                  simp only [List.take_succ_cons, List.take_zero, frameF, Act.put, List.setIfInBounds_toArray, List.set_cons_zero, List.set_cons_succ]
                  exact stepF_val (by rfl) (by go_simp) ⟨rfl, Below.refl _ _, hR⟩
                · refine ⟨fun _ _ _ _ _ h => h, fun _ _ _ _ h _ => h, fun v n x hn hR hk => ?_⟩
                  obtain ⟨f0, f1, f2⟩ := HFF.out x hR
                  skip
                  simp only [List.take_succ_cons, List.take_zero, frameF, Act.put, List.setIfInBounds_toArray, List.set_cons_zero, List.set_cons_succ]
                  exact stepF_val (by rfl) (by go_simp) ⟨rfl, Below.refl _ _, hR⟩
                · refine ⟨fun _ _ _ _ _ h => h, fun _ _ _ _ h _ => h, fun v n x hn hR hk => ?_⟩
                  obtain ⟨f0, f1, f2⟩ := HFF.out x hR
                  have h0 : v 7 = iv p := hk 7 (by kernel_rfl)
                  simp only [List.take_succ_cons, List.take_zero, frameF, Act.put, List.setIfInBounds_toArray, List.set_cons_zero, List.set_cons_succ]
                  exact stepF_val (by rfl) (by go_simp) ⟨rfl, Below.refl _ _, hR⟩
                · refine ⟨fun _ _ _ _ _ h => h, fun _ _ _ _ h _ => h, fun v n x hn hR hk => ?_⟩
                  obtain ⟨f0, f1, f2⟩ := HFF.out x hR
                  skip
                  simp only [List.take_succ_cons, List.take_zero, frameF, Act.put, List.setIfInBounds_toArray, List.set_cons_zero, List.set_cons_succ]
                  exact stepF_val (by rfl) (by go_simp) ⟨rfl, Below.refl _ _, hR⟩
                · refine ⟨fun _ _ _ _ _ h => h, fun _ _ _ _ h _ => h, fun v n x hn hR hk => ?_⟩
                  obtain ⟨f0, f1, f2⟩ := HFF.out x hR
                  have h0 : v 9 = iv q := hk 9 (by kernel_rfl)
                  simp only [List.take_succ_cons, List.take_zero, frameF, Act.put, List.setIfInBounds_toArray, List.set_cons_zero, List.set_cons_succ]
                  exact stepF_val (by rfl) (by go_simp) ⟨rfl, Below.refl _ _, hR⟩
                · refine ⟨fun _ _ _ _ _ h => h, fun _ _ _ _ h _ => h, fun v n x hn hR hk => ?_⟩
                  obtain ⟨f0, f1, f2⟩ := HFF.out x hR
                  have h0 : v 8 = iv ((p + 1 : Nat) : Int) := hk 8 (by kernel_rfl)
                  simp only [List.take_succ_cons, List.take_zero, frameF, Act.put, List.setIfInBounds_toArray, List.set_cons_zero, List.set_cons_succ]
                  exact stepF_val (by rfl) (by go_simp) ⟨rfl, Below.refl _ _, hR⟩
                · refine ⟨fun _ _ _ _ _ h => h, fun _ _ _ _ h _ => h, fun v n x hn hR hk => ?_⟩
                  obtain ⟨f0, f1, f2⟩ := HFF.out x hR
                  (have h0 : v 11 = .pointer (some ⟨w.heap.size, (p + 1) * 25, none⟩) := hk 11 (by kernel_rfl); have h1 : v 10 = iv ((q + 1 : Nat) : Int) := hk 10 (by kernel_rfl))
                  simp only [List.take_succ_cons, List.take_zero, frameF, Act.put, List.setIfInBounds_toArray, List.set_cons_zero, List.set_cons_succ]
                  exact stepF_val (by rfl) (by go_simp) ⟨rfl, Below.refl _ _, hR⟩
                · refine ⟨fun _ _ _ _ _ h => h, fun _ _ _ _ h _ => h, fun v n x hn hR hk => ?_⟩
                  obtain ⟨f0, f1, f2⟩ := HFF.out x hR
                  have h0 : v 12 = .pointer (some ⟨w.heap.size, (p + 1) * 25 + (q + 1), none⟩) := hk 12 (by kernel_rfl)
                  simp only [List.take_succ_cons, List.take_zero, frameF, Act.put, List.setIfInBounds_toArray, List.set_cons_zero, List.set_cons_succ]
                  exact stepF_val (by rfl) (by go_simp) ⟨rfl, Below.refl _ _, hR⟩
                · refine ⟨fun _ _ _ _ _ h => h, fun _ _ _ _ h _ => h, fun v n x hn hR hk => ?_⟩
                  obtain ⟨f0, f1, f2⟩ := HFF.out x hR
                  have h0 : v 13 = iv Z := hk 13 (by kernel_rfl)
                  simp only [List.take_succ_cons, List.take_zero, frameF, Act.put, List.setIfInBounds_toArray, List.set_cons_zero, List.set_cons_succ]
                  exact stepF_val (by rfl) (by go_simp) ⟨rfl, Below.refl _ _, hR⟩
                · refine ⟨fun _ _ _ _ _ h => h, fun _ _ _ _ h hS => ?_, fun v n x hn hR hk => ?_⟩
                  · obtain ⟨g, h1, h2⟩ := h
                    exact ⟨g, h1, h2.below hS⟩
                  · have h0 : v 6 = iv M := hk 6 (by kernel_rfl)
                    have h1 : v 14 = iv ((Z + 1 : Nat) : Int) := hk 14 (by kernel_rfl)
                    simp only [List.take_succ_cons, List.take_zero, frameF, Act.put, List.setIfInBounds_toArray, List.set_cons_zero, List.set_cons_succ]
                    exact stepF_new (u := .slice (some ⟨x.heap.size, 0, none⟩) 2 2) (w' := x.alloc (.cells #[iv M, iv ((Z + 1 : Nat) : Int)] 3)) (by rfl) (by go_simp) ⟨⟨x.heap.size, rfl, Sl.fresh intE x 3 #[iv M, iv ((Z + 1 : Nat) : Int)] [(M : Int), ((Z + 1 : Nat) : Int)] rfl (by simp [maxLen])⟩, (Below.refl _ _).alloc (Nat.le_refl _) _, hR.alloc hR.size _⟩
                · refine ⟨fun _ _ _ _ _ h => h, fun _ _ _ _ h _ => h, fun v n x hn hR hk => ?_⟩
                  have h14 : ∃ g, v 15 = .slice (some ⟨g, 0, none⟩) 2 2 ∧ Sl intE x (some ⟨g, 0, none⟩) [(M : Int), ((Z + 1 : Nat) : Int)] := hk 15 (by kernel_rfl)
                  obtain ⟨g, h1, h2⟩ := h14
                  simp only [List.take_succ_cons, List.take_zero, frameF, Act.put, List.setIfInBounds_toArray, List.set_cons_zero, List.set_cons_succ]
                  refine stepF_call (by rfl) (by go_simp) (greatest_spec (some ⟨g, 0, none⟩) [(M : Int), ((Z + 1 : Nat) : Int)] 2 x (by simp [big]) h2) ?_
                  rintro e x' ⟨rfl, rfl⟩
                  exact ⟨_, rfl, great2 M (Z + 1), Below.refl _ _, hR⟩
                · refine ⟨fun _ _ _ _ _ h => h, fun _ _ _ _ h _ => h, fun v n x hn hR hk => ?_⟩
                  obtain ⟨f0, f1, f2⟩ := HFF.out x hR
                  have h0 : v 0 = iv p := hk 0 (by kernel_rfl)
                  simp only [List.take_succ_cons, List.take_zero, frameF, Act.put, List.setIfInBounds_toArray, List.set_cons_zero, List.set_cons_succ]
                  exact stepF_val (by rfl) (by go_simp) ⟨rfl, Below.refl _ _, hR⟩
                · refine ⟨fun _ _ _ _ _ h => h, fun _ _ _ _ h _ => h, fun v n x hn hR hk => ?_⟩
                  obtain ⟨f0, f1, f2⟩ := HFF.out x hR
                  (have h0 : v 17 = .pointer (some ⟨w.heap.size, p * 25, none⟩) := hk 17 (by kernel_rfl); have h1 : v 1 = iv q := hk 1 (by kernel_rfl))
                  simp only [List.take_succ_cons, List.take_zero, frameF, Act.put, List.setIfInBounds_toArray, List.set_cons_zero, List.set_cons_succ]
                  exact stepF_val (by rfl) (by go_simp) ⟨rfl, Below.refl _ _, hR⟩
              · intro v' n x hn hR hall
                have h15 : v' 16 = iv (max M (Z + 1) : Nat) := hall 16 (by decide)
                have h17 : v' 18 = .pointer (some ⟨w.heap.size, p * 25 + q, none⟩) := hall 18 (by decide)
                have hst := (HSTn.out.below hR).set_ (i := p) (j := q) (by omega) (by omega) (max M (Z + 1))
                have hgl := (HSTn.out.below hR).lt
                have m0 := (HSTn.out.below hR).cell (i := p) (j := q) (by omega) (by omega)
                have m1 := (HSTn.out.below hR).frozen
                have HGf : Hid (Grid (x.setCell ⟨w.heap.size, p * 25 + q, none⟩ (iv (max M (Z + 1) : Nat))) w.heap.size (partTab a b p q)) := Lib.hid (hst.congr fun r t hr ht => by
                  unfold partTab
                  have hs := File.from_step hpa hqb
                  rw [HSA.out, HSB.out, if_pos HEQ.out, ← HX.out, ← HY.out, ← HZ.out, ← hHM.out] at hs
                  by_cases h1 : r = p ∧ t = q
                  · rw [if_pos h1, if_pos (by omega), h1.1, h1.2, hs]
                  · rw [if_neg h1, if_neg h1]
                    by_cases h2 : p < r ∨ (r = p ∧ q + 1 ≤ t)
                    · rw [if_pos h2, if_pos (by omega)]
                    · rw [if_neg h2, if_neg (by omega)])
                have HBf := Lib.hid ((HBSn.out.next hR (Nat.le_refl _)).setCell (p := ⟨w.heap.size, p * 25 + q, none⟩) (Nat.le_refl _) (iv (max M (Z + 1) : Nat)))
                clear hall hR hst HFF
                simp only [List.drop_succ_cons, List.drop_zero, List.take_succ_cons, List.take_zero, frameF, Act.put, List.setIfInBounds_toArray, List.set_cons_zero, List.set_cons_succ, h15, h17]
                go_wp2_with fail
                go_roundw
                case rel => exact ⟨q, by omega, rfl, HGf.out, HBf.out⟩
                case measure => simp [intOf]
            · have heq : (sa.toList == sb.toList) = false := by rw [hsq]; simpa using hsab
              have HEQ := Lib.hid hsab
              clear hsq hsab
              have HGf : Hid (Grid wS w.heap.size (partTab a b p q)) := Lib.hid (HST.out.congr fun r t hr ht => by
                unfold partTab
                have hs := File.from_step hpa hqb
                rw [HSA.out, HSB.out, if_neg HEQ.out, ← HX.out, ← HY.out] at hs
                by_cases h1 : r = p ∧ t = q
                · rw [if_pos h1, if_pos (by omega), h1.1, h1.2, hs]
                · rw [if_neg h1]
                  by_cases h2 : p < r ∨ (r = p ∧ q + 1 ≤ t)
                  · rw [if_pos h2, if_pos (by omega)]
                  · rw [if_neg h2, if_neg (by omega)])
              go_quiet (fail)
              have hGn : Grid (wS.drewN nq) w.heap.size (partTab a b p q) := HGf.out
              have hBn : Below w.heap.size w (wS.drewN nq) := ⟨HBS.out.os, HBS.out.tape, HBS.out.output, HBS.out.size, HBS.out.block⟩
              go_wp2_with fail
              go_roundw
              case rel => exact ⟨q, by omega, rfl, hGn, hBn⟩
              case measure => simp [intOf]
        · obtain rfl : j = 0 := by omega
          go_wp2_with fail
          go_roundw
          case rel => exact ⟨p, by omega, rfl, hGx, hbx⟩
          case measure => simp [intOf]
    · obtain rfl : i = 0 := by omega
      go_wp2_with fail
      go_ret
      exact ⟨_, rfl, hG.congr fun p q _ _ => by unfold partTab; rw [if_pos (by omega)], hbw⟩
end Fl
end Go.Proofs.YtekkhnjepcebkaaGreatDoor
