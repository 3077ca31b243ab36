/- Package file: the reader of a text. No condition. -/
import Derived.Test.YtekkhnjepcebkaaGreatDoorFlB
import Derived.Test.YtekkhnjepcebkaaGreatDoorDraw
import Derived.BigRegion
import Derived.Deep.DeepCutAuto
set_option linter.unusedVariables false
set_option linter.unusedSimpArgs false
namespace Go.Proofs.YtekkhnjepcebkaaGreatDoor
namespace File
def isDig (b : UInt8) : Bool := decide (48 ≤ b.toNat) && decide (b.toNat ≤ 57)
def nextB : List UInt8 → UInt8
  | [] => 0
  | b :: _ => b
def takes (p : UInt8 → Bool) : List UInt8 → Bool
  | [] => false
  | b :: _ => p b
def rest (p : UInt8 → Bool) : List UInt8 → List UInt8
  | [] => []
  | b :: r => if p b then r else b :: r
def on (p : UInt8 → Bool) (l : List UInt8) (k : Nat) : Nat := if takes p l then k + 1 else k
end File
namespace Fl
open Go.RowKit
set_option maxRecDepth 100000
abbrev bv (b : UInt8) : Value := .int .u8 (b.toNat : Int)
structure Only (g : Nat) (w w' : World) : Prop where
  below : Below g w w'
  other : ∀ b, b < w.heap.size → b ≠ g → w'.heap[b]? = w.heap[b]?
theorem Only.refl (g : Nat) (w : World) : Only g w w := ⟨Below.refl _ _, fun _ _ _ => rfl⟩
theorem Only.trans {g : Nat} {a b c : World} (h : Only g a b) (k : Only g b c) : Only g a c := ⟨h.below.trans k.below, fun i hi hg => (k.other i (Nat.lt_of_lt_of_le hi h.below.size) hg).trans (h.other i hi hg)⟩
theorem Only.of_below {g : Nat} {w w' : World} (h : Below w.heap.size w w') (hg : g ≤ w.heap.size) : Only g w w' := ⟨h.mono hg, fun b hb _ => h.block b hb⟩
theorem Only.set_ (g o : Nat) (w : World) (v : Value) : Only g w (w.setCell ⟨g, o, none⟩ v) := ⟨(Below.refl g w).setCell (p := ⟨g, o, none⟩) (Nat.le_refl _) v, fun b _ hb => Below.heap_setCell w ⟨g, o, none⟩ v b hb⟩
theorem Only.drew {g : Nat} {w w' : World} (h : Only g w w') : Only g w w'.drew := ⟨h.below.drew, h.other⟩
theorem Only.next {g : Nat} {w w1 w2 : World} (h : Only g w w1) (hb : Below w1.heap.size w1 w2) (hg : g ≤ w1.heap.size) : Only g w w2 := h.trans (Only.of_below hb hg)
theorem Blk.only {w w' : World} {b g : Nat} {t : TypeId} {cs : Array Value} (h : Blk w b t cs) (hg : b ≠ g) (ho : Only g w w') : Blk w' b t cs := (ho.other b h.lt hg).trans h
/-- The reader in block g has the bytes l before it, and stands at k. -/
def RD (w : World) (g : Nat) (l : List UInt8) (k : Nat) : Prop := Blk w g 174 #[.string (File.ba l), iv k]
theorem RD.below {w w' : World} {g : Nat} {l : List UInt8} {k : Nat} (h : RD w g l k) (hb : Below w.heap.size w w') : RD w' g l k := Blk.under h hb
theorem ba_size (l : List UInt8) : (File.ba l).size = l.length := by simp [File.ba, ByteArray.size]
theorem ba_nil : File.ba [] = ⟨#[]⟩ := rfl
theorem ba_ne {b : UInt8} {l : List UInt8} : (File.ba (b :: l)).toList.isEmpty = false := by
  rw [ByteArray.toList_eq]
  rfl
theorem ba_em : (File.ba []).toList.isEmpty = true := by
  rw [ByteArray.toList_eq]
  rfl
theorem ba_get {b : UInt8} {l : List UInt8} (h : 0 < (File.ba (b :: l)).size) : (File.ba (b :: l))[0]'h = b := rfl
theorem next_spec (l : List UInt8) (w : World) : Calls Tryz.prog 115 #[.agg #[.string (File.ba l)]] w fun e w' => e = .returned (bv (File.nextB l)) ∧ Below w.heap.size w w' := by
  cases l with
  | nil =>
    rw [ba_nil]
    go_enter Tryz.func115, Tryz.ntmps115
    go_wp2_with fail
    go_ret
    exact ⟨rfl, (Below.refl _ _).alloc (Nat.le_refl _) _⟩
  | cons b l =>
    have h1 := ba_ne (b := b) (l := l)
    have h2 : 0 < (File.ba (b :: l)).size := by rw [ba_size]; simp
    go_enter Tryz.func115, Tryz.ntmps115
    go_wp2_with fail
    go_ret
    exact ⟨rfl, (Below.refl _ _).alloc (Nat.le_refl _) _⟩
theorem dec_int (a n : Nat) : decide (a ≤ n) = decide ((a : Int) ≤ (n : Int)) := by rw [decide_eq_decide]; omega
theorem digit_spec (b : UInt8) (w : World) : Calls Tryz.prog 116 #[bv b] w fun e w' => e = .returned (.bool (File.isDig b)) ∧ w = w' := by
  unfold File.isDig bv
  generalize b.toNat = n
  rw [dec_int, dec_int]
  by_cases h1 : (48 : Int) ≤ (n : Int) <;> by_cases h2 : (n : Int) ≤ 57
  all_goals
    go_enter Tryz.func116, Tryz.ntmps116
    go_wp2
    go_ret
    exact ⟨by simp [*], rfl⟩
theorem line1_spec (b : UInt8) (w : World) : Calls Tryz.prog 168 #[bv b] w fun e w' => e = .returned (.bool (File.okB b)) ∧ w = w' := by
  unfold File.okB bv
  generalize b.toNat = n
  rw [dec_int, dec_int]
  by_cases h1 : (32 : Int) ≤ (n : Int) <;> by_cases h2 : (n : Int) ≤ 126
  all_goals
    go_enter Tryz.func168, Tryz.ntmps168
    go_wp2
    go_ret
    exact ⟨by simp [*], rfl⟩
theorem one1_spec (a b : UInt8) (g : Nat) (w : World) (hB : Blk w g 5 #[bv a]) : Calls Tryz.prog 169 #[bv b, .pointer (some ⟨g, 0, none⟩)] w fun e w' => e = .returned (.bool (b == a)) ∧ Below w.heap.size w w' := by
  have m0 := hB.cell
  have m1 := hB.lt
  have h : (b == a) = ((b.toNat : Int) == (a.toNat : Int)) := by
    rw [Bool.eq_iff_iff]
    simp only [beq_iff_eq]
    exact ⟨fun h => by rw [h], fun h => UInt8.toNat_inj.1 (by omega)⟩
  rw [h]
  unfold bv at m0 ⊢
  clear h
  generalize a.toNat = x at *
  generalize b.toNat = y at *
  go_enter Tryz.func169, Tryz.ntmps169
  go_wp2_with fail
  go_ret
  exact ⟨rfl, Below.refl _ _⟩
theorem one_spec (a : UInt8) (w : World) : Calls Tryz.prog 118 #[bv a] w fun e w' => ∃ g, e = .returned (.agg #[.func (.func 169) #[] #[.pointer (some ⟨g, 0, none⟩)]]) ∧ Blk w' g 5 #[bv a] ∧ Below w.heap.size w w' := by
  have hmf : ∀ (fn : Fn) (first cap : Array Value) (w : World), (Instr.makeFunc fn first cap).run Tryz.prog w = .ok (.func fn first cap) w := fun _ _ _ _ => rfl
  go_enter Tryz.func118, Tryz.ntmps118
  go_wp2_with fail
  exact bodyPost_ret (results_cell_row (P := Tryz.prog) (fn := Tryz.f118) (p := 2) (ty := 181) (by kernel_rfl) _ _ (w.heap.size + 1) 181 _ (0, 0) _ (by rfl) (Blk.new_ _ _ _ (by simp)) Tryz.underlying181 (by rfl) (by kernel_rfl)) rfl
    ⟨w.heap.size, rfl, (Blk.new w _ _).alloc _, ((Below.refl _ _).alloc (Nat.le_refl _) _).alloc (by simp) _⟩
theorem ba_tail {b : UInt8} {r : List UInt8} : ∀ W : World, (Instr.slice 9 (.string (File.ba (b :: r))) (some (iv 1)) none none).run Tryz.prog W = .ok (.string (File.ba r)) W := by
  intro W
  rw [run_slice_string_from_if W 9 (File.ba (b :: r)) .i64 1 Tryz.underlying9, if_pos ⟨by omega, by rw [ba_size]; simp; omega⟩]
  have : (File.ba (b :: r)).extract (1 : Int).toNat (File.ba (b :: r)).size = File.ba r := by
    apply ByteArray.ext
    simp [File.ba, ByteArray.size]
  rw [this]
set_option maxHeartbeats 2000000 in
/-- take: over one byte, if it can be. -/
theorem take_spec (g k : Nat) (l : List UInt8) (K : Nat) (cap : Array Value) (p : UInt8 → Bool) (w : World) (hR : RD w g l k) (hk : k + l.length ≤ 4611686018427387904)
    (hK : ∀ (args : Array Value) (w : World), (callFunc K args).run Tryz.prog w = .ok (.enter K args) w)
    (hf : ∀ b r, l = b :: r → ∀ w', Below w.heap.size w w' → Calls Tryz.prog K (#[bv b] ++ cap) w' fun e w'' => e = .returned (.bool (p b)) ∧ Below w'.heap.size w' w'') :
    Calls Tryz.prog 114 #[.pointer (some ⟨g, 0, none⟩), .agg #[.func (.func K) #[] cap]] w fun e w' => e = .returned (.bool (File.takes p l)) ∧ RD w' g (File.rest p l) (File.on p l k) ∧ Only g w w' := by
  have hb0 : Below w.heap.size w (w.alloc (.cells #[.func (.func K) #[] cap] 181)) := (Below.refl _ _).alloc (Nat.le_refl _) _
  have hKb : Blk (w.alloc (.cells #[.func (.func K) #[] cap] 181)) w.heap.size 181 #[.func (.func K) #[] cap] := Blk.new _ _ _
  have hR0 := hR.below hb0
  have hgl := hR.lt
  cases l with
  | nil =>
    have h1 := ba_em
    go_enter Tryz.func114, Tryz.ntmps114
    go_upto_region 1 with fail
    generalize w.alloc (.cells #[.func (.func K) #[] cap] 181) = w1 at *
    have HFF : Hid (∀ a : World, Below w1.heap.size w1 a → a.cell? ⟨g, 0, none⟩ = some (.string (File.ba []))) := Lib.hid fun a h => (hR0.below h).cell 0
    refine wp_havoc_lit (by kernel_rfl) (by kernel_rfl) ?_
    repeat (first
      | (refine hv_skip (by rfl) ?_; simp only [Act.put, List.setIfInBounds_toArray, List.set_cons_zero, List.set_cons_succ])
      | (apply hv_val (by rfl); (intro w hw; have F := HFF.out w hw; go_simp; exact rfl); simp only [Act.put, List.setIfInBounds_toArray, List.set_cons_zero, List.set_cons_succ])
      | (apply hv_call (by rfl); (intro w hw; have F := HFF.out w hw; go_simp; exact ⟨rfl, rfl⟩); (intro w hw; have F := HFF.out w hw; with_reducible exact next_spec _ w); simp only [Act.put, List.setIfInBounds_toArray, List.set_cons_zero, List.set_cons_succ]))
    refine hv_nil ?_
    rintro w2 hb2
    go_wp2_with fail
    go_ret
    exact ⟨rfl, hR0.below hb2, Only.of_below (hb0.next hb2 (Nat.le_refl _)) (Nat.le_of_lt hgl)⟩
  | cons b r =>
    have h1 := ba_ne (b := b) (l := r)
    have hsl := ba_tail (b := b) (r := r)
    have HF := Lib.hid (hf b r rfl)
    have e1 : IntKind.i64.wrap ((k : Int) + 1) = ((k + 1 : Nat) : Int) := IntWalk.i64_in _ (by simp only [List.length_cons] at hk; omega)
    clear hf
    cases hp : p b
    all_goals
      rw [hp] at HF
      simp only [File.takes, File.rest, File.on, hp, Bool.false_eq_true, if_false, if_true]
      clear hp
      go_enter Tryz.func114, Tryz.ntmps114
      go_upto_region 1 with fail
      generalize w.alloc (.cells #[.func (.func K) #[] cap] 181) = w1 at *
      have HFF : Hid (∀ a : World, Below w1.heap.size w1 a → a.cell? ⟨g, 0, none⟩ = some (.string (File.ba (b :: r))) ∧ a.cell? ⟨w.heap.size, 0, none⟩ = some (.func (.func K) #[] cap)) := Lib.hid fun a h => ⟨(hR0.below h).cell 0, (hKb.under h).cell 0⟩
      have HPB : Hid (∀ a : World, Below w1.heap.size w1 a → Calls Tryz.prog K (#[bv b] ++ cap) a fun e w'' => e = .returned (.bool _) ∧ Below a.heap.size a w'') := Lib.hid fun a h => HF.out a (hb0.next h (Nat.le_refl _))
      have HNX : Hid (∀ a : World, Calls Tryz.prog 115 #[.agg #[.string (File.ba (b :: r))]] a fun e w' => e = .returned (bv b) ∧ Below a.heap.size a w') := Lib.hid fun a => next_spec (b :: r) a
      refine wp_havoc_lit (by kernel_rfl) (by kernel_rfl) ?_
      repeat (first
        | (refine hv_skip (by rfl) ?_; simp only [Act.put, List.setIfInBounds_toArray, List.set_cons_zero, List.set_cons_succ])
        | (apply hv_val (by rfl); (intro w hw; have F := HFF.out w hw; go_simp; exact rfl); simp only [Act.put, List.setIfInBounds_toArray, List.set_cons_zero, List.set_cons_succ])
        | (apply hv_call (by rfl); (intro w hw; have F := HFF.out w hw; go_simp; exact ⟨rfl, rfl⟩); (intro w hw; have F := HFF.out w hw; with_reducible exact HNX.out w); simp only [Act.put, List.setIfInBounds_toArray, List.set_cons_zero, List.set_cons_succ])
        | (apply hv_call (by rfl); (intro w hw; have F := HFF.out w hw; go_simp; exact ⟨rfl, rfl⟩); (intro w hw; have F := HFF.out w hw; with_reducible exact HPB.out w hw); simp only [Act.put, List.setIfInBounds_toArray, List.set_cons_zero, List.set_cons_succ]))
      refine hv_nil ?_
      rintro w2 hb2
    · go_wp2_with fail
      go_ret
      exact ⟨rfl, hR0.below hb2, Only.of_below (hb0.next hb2 (Nat.le_refl _)) (Nat.le_of_lt hgl)⟩
    · have hR2 := hR0.below hb2
      have m0 := hR2.cell 0
      have m1 := hR2.cell 1
      have m2 := hR2.lt
      have m3 := hR2.frozen
      have HR2 := Lib.hid hR2
      have HB2 := Lib.hid (hb0.next hb2 (Nat.le_refl _))
      clear hR2 hR0 hKb hb0 hb2 HFF HPB HF
      go_upto_region 3 with fail
      have hRf : RD ((w2.setCell ⟨g, 0, none⟩ (.string (File.ba r))).setCell ⟨g, 1, none⟩ (.int .i64 ((k : Int) + 1))).drew g r (k + 1) := by
        have := (Blk.set_ HR2.out 0 (.string (File.ba r))).set_ 1 (.int .i64 ((k : Int) + 1))
        exact this
      have hO : Only g w ((w2.setCell ⟨g, 0, none⟩ (.string (File.ba r))).setCell ⟨g, 1, none⟩ (.int .i64 ((k : Int) + 1))).drew :=
        (((Only.of_below HB2.out (Nat.le_of_lt hgl)).trans (Only.set_ g 0 _ _)).trans (Only.set_ g 1 _ _)).drew
      have HRf := Lib.hid hRf
      have HO := Lib.hid hO
      clear hRf hO
      go_region
      go_wp2_with fail
      go_ret
      exact ⟨rfl, HRf.out, HO.out⟩
theorem digitPred (l : List UInt8) (w : World) : ∀ b r, l = b :: r → ∀ w', Below w.heap.size w w' → Calls Tryz.prog 116 (#[bv b] ++ #[]) w' fun e w'' => e = .returned (.bool (File.isDig b)) ∧ Below w'.heap.size w' w'' :=
  fun b _ _ w' _ => (digit_spec b w').mono fun _ _ h => ⟨h.1, h.2 ▸ Below.refl _ _⟩
theorem okPred (l : List UInt8) (w : World) : ∀ b r, l = b :: r → ∀ w', Below w.heap.size w w' → Calls Tryz.prog 168 (#[bv b] ++ #[]) w' fun e w'' => e = .returned (.bool (File.okB b)) ∧ Below w'.heap.size w' w'' :=
  fun b _ _ w' _ => (line1_spec b w').mono fun _ _ h => ⟨h.1, h.2 ▸ Below.refl _ _⟩
theorem onePred (l : List UInt8) (a : UInt8) (g : Nat) (w : World) (hB : Blk w g 5 #[bv a]) : ∀ b r, l = b :: r → ∀ w', Below w.heap.size w w' → Calls Tryz.prog 169 (#[bv b] ++ #[.pointer (some ⟨g, 0, none⟩)]) w' fun e w'' => e = .returned (.bool (b == a)) ∧ Below w'.heap.size w' w'' :=
  fun b _ _ w' hw' => one1_spec a b g w' (hB.under hw')
theorem takeDigit (g k : Nat) (l : List UInt8) (w : World) (hR : RD w g l k) (hk : k + l.length ≤ 4611686018427387904) :
    Calls Tryz.prog 114 #[.pointer (some ⟨g, 0, none⟩), .agg #[.func (.func 116) #[] #[]]] w fun e w' => e = .returned (.bool (File.takes File.isDig l)) ∧ RD w' g (File.rest File.isDig l) (File.on File.isDig l k) ∧ Only g w w' :=
  take_spec g k l 116 #[] File.isDig w hR hk (callFunc_run (by kernel_rfl)) (digitPred l w)
theorem takeOk (g k : Nat) (l : List UInt8) (w : World) (hR : RD w g l k) (hk : k + l.length ≤ 4611686018427387904) :
    Calls Tryz.prog 114 #[.pointer (some ⟨g, 0, none⟩), .agg #[.func (.func 168) #[] #[]]] w fun e w' => e = .returned (.bool (File.takes File.okB l)) ∧ RD w' g (File.rest File.okB l) (File.on File.okB l k) ∧ Only g w w' :=
  take_spec g k l 168 #[] File.okB w hR hk (callFunc_run (by kernel_rfl)) (okPred l w)
theorem takeOne (a : UInt8) (q g k : Nat) (l : List UInt8) (w : World) (hR : RD w g l k) (hk : k + l.length ≤ 4611686018427387904) (hB : Blk w q 5 #[bv a]) :
    Calls Tryz.prog 114 #[.pointer (some ⟨g, 0, none⟩), .agg #[.func (.func 169) #[] #[.pointer (some ⟨q, 0, none⟩)]]] w fun e w' => e = .returned (.bool (File.takes (· == a) l)) ∧ RD w' g (File.rest (· == a) l) (File.on (· == a) l k) ∧ Only g w w' :=
  take_spec g k l 169 #[.pointer (some ⟨q, 0, none⟩)] (· == a) w hR hk (callFunc_run (by kernel_rfl)) (onePred l a q w hB)
end Fl
end Go.Proofs.YtekkhnjepcebkaaGreatDoor
