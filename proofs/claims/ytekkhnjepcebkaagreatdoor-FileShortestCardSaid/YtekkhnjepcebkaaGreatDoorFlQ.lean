/- Package file: what an edit makes of a file. Conditions: the edit lies within the file; lengths are below a great bound. -/
import Derived.Test.YtekkhnjepcebkaaGreatDoorFlP
import Derived.Test.YtekkhnjepcebkaaGreatDoorCopyE
set_option linter.unusedVariables false
set_option linter.unusedSimpArgs false
namespace Go.Proofs.YtekkhnjepcebkaaGreatDoor
namespace Fl
open Go.RowKit Go.ChangeShapes
set_option maxRecDepth 100000
/-- An edit's value. -/
def edv (k : Int) (A : Option Addr) (n c : Nat) (A' : Option Addr) (n' c' : Nat) : Value := .agg #[iv k, .slice A n c, .slice A' n' c']
theorem drop_cut {f : List ByteArray} (i : Nat) : f.drop i = File.cut f i f.length := by
  unfold File.cut
  rw [List.take_of_length_le (by rw [List.length_drop]; exact Nat.le_refl _)]
set_option maxHeartbeats 4000000 in
theorem made_spec (A : Option Addr) (f : List ByteArray) (c k : Nat) (B : Option Addr) (o d : Nat) (B' : Option Addr) (new : List ByteArray) (d' : Nat) (w : World) (hf : f.length ≤ 100000) (hn : new.length ≤ 100000) (hk : k + o ≤ f.length) (hc : f.length ≤ c)
    (hs : Sl strE w A f) (hs' : Sl strE w B' new) :
    Calls Tryz.prog 92 #[.slice A f.length c, .agg #[iv (k : Int), .slice B o d, .slice B' new.length d']] w fun e w' => ∃ v, e = .returned v ∧ Own strE 9 w.heap.size w' v (f.take k ++ (new ++ f.drop (k + o))) ∧ Below w.heap.size w w' := by
  have e1 : IntKind.i64.wrap ((f.length : Int) + (new.length : Int)) = ((f.length + new.length : Nat) : Int) := IntWalk.i64_in _ (by omega)
  have e2 : IntKind.i64.wrap ((k : Int) + (o : Int)) = ((k + o : Nat) : Int) := IntWalk.i64_in _ (by omega)
  have RC : ∀ W : World, (Instr.slice 22 (.slice A f.length c) (some (iv ((k + o : Nat) : Int))) none none).run Tryz.prog W = .ok (.slice (cutA A c (k + o) 1) (f.length - (k + o)) (c - (k + o))) W := run_cutFrom strE tyStrs A f.length c (k + o) hk
  have hdl : (f.drop (k + o)).length = f.length - (k + o) := List.length_drop
  have HDL := Lib.hid hdl
  have HSD : Hid (Sl strE w (cutA A c (k + o) 1) (f.drop (k + o))) := Lib.hid (by
    rw [drop_cut]
    exact Sl.cut hs hc hk (Nat.le_refl _))
  generalize cutA A c (k + o) 1 = X at RC HSD
  generalize f.length - (k + o) = m3 at RC HDL
  generalize c - (k + o) = n3 at RC
  have HKO : Hid (∃ q, q = k + o) := Lib.hid ⟨_, rfl⟩
  obtain ⟨q, hq⟩ := HKO.out
  rw [← hq] at e2 RC HSD HDL hdl ⊢
  have hkq : k ≤ f.length := by omega
  have HQ := Lib.hid hq
  clear hq hk
  go_enter Tryz.func92, Tryz.ntmps92
  go_upto_region 1 with fail
  have hM : Blk (w.alloc (.cells #[iv (k : Int), .slice B o d, .slice B' new.length d'] 53)) w.heap.size 53 #[iv (k : Int), .slice B o d, .slice B' new.length d'] := Blk.new _ _ _
  have hb1 : Below w.heap.size w (w.alloc (.cells #[iv (k : Int), .slice B o d, .slice B' new.length d'] 53)) := (Below.refl _ _).alloc (Nat.le_refl _) _
  generalize w.alloc (.cells #[iv (k : Int), .slice B o d, .slice B' new.length d'] 53) = w1 at *
  have m1 := hM.cell
  have l1 := hM.lt
  go_upto_region 3 with (first
    | (at_make; refine wpMakeCap strE tyStrs rfl _ _ rfl k (f.length + new.length) rfl (by first | rfl | exact congrArg iv e1) (by omega) (by unfold big; omega) ?_; intro w3 cs hcs hB3 hb3 hz3; have hM3 := hM.under hb3; have m3 := hM3.cell; have l3 := hM3.lt)
    | (refine wpCopyE strE tyStrs rfl _ _ rfl hB3 (hs.below (hb1.next hb3 (Nat.le_refl _))) k (f.length + new.length) c k rfl rfl (by simp [Nat.min_def]; omega) (by rw [hcs]; exact Nat.mul_le_mul_right _ (by omega)) ?_; intro w4 hB4 hb4))
  have hb14 : Below w1.heap.size w1 w4 := hb3.trans hb4
  have hM4 := hM.under hb14
  have hO4 : Own strE 9 w1.heap.size w4 (.slice (some ⟨w1.heap.size, 0, none⟩) k (f.length + new.length)) (f.take k) := Own.ofHead (n := k) (m := f.length + new.length) hB4 (Nat.le_refl _) (by rw [List.length_take]; omega) (by omega) (by unfold maxLen; omega) (by
    have hz : strE.sz = 1 := rfl
    simp only [List.length_drop, Array.length_toList, hcs, hz]; omega)
  have HO4 := Lib.hid (hO4.below (Below.refl w4.heap.size w4).drew)
  have HS0 : Hid (∀ z : World, Below w1.heap.size w4 z → Below w1.heap.size w4 z ∧ (z.cell? ⟨w.heap.size, 0, none⟩ = some (iv (k : Int)) ∧ z.cell? ⟨w.heap.size, 1, none⟩ = some (.slice B o d) ∧ z.cell? ⟨w.heap.size, 2, none⟩ = some (.slice B' new.length d'))) := Lib.hid fun z h => ⟨h, (hM4.below h l1).cell 0, (hM4.below h l1).cell 1, (hM4.below h l1).cell 2⟩
  have HK0 := Lib.hid (HS0.out w4.drew (Below.refl _ _).drew)
  have HN : Hid (∀ z : World, Below w1.heap.size w4 z → Sl strE z B' new) := Lib.hid fun z h => hs'.below ((hb1.next hb14 (Nat.le_refl _)).trans (h.mono hb1.size))
  have HD : Hid (∀ z : World, Below w1.heap.size w4 z → Sl strE z X (f.drop q)) := Lib.hid fun z h => HSD.out.below ((hb1.next hb14 (Nat.le_refl _)).trans (h.mono hb1.size))
  have HZ4 := Lib.hid hb14.size
  have HTK : Hid ((f.take k).length = k) := Lib.hid (by rw [List.length_take]; omega)
  have HB04 := Lib.hid (hb1.next hb14 (Nat.le_refl _))
  have HBZ := Lib.hid hb1.size
  have HX0 := Lib.hid (Below.refl w1.heap.size w4).drew
  have HBG : Hid ((f.take k).length + new.length ≤ big) := Lib.hid (by rw [HTK.out]; unfold big; omega)
  have HBG2 : Hid ((f.take k ++ new).length + (f.drop q).length ≤ big) := Lib.hid (by rw [List.length_append, HTK.out, List.length_drop]; unfold big; omega)
  clear hM m1 hB3 hb3 hz3 hM3 m3 l3 hB4 hb4 hb14 hM4 hO4 hcs hb1 HSD hs hs' hdl
  go_region_held3 (fun z => Below w1.heap.size w4 z ∧ (z.cell? ⟨w.heap.size, 0, none⟩ = some (iv (k : Int)) ∧ z.cell? ⟨w.heap.size, 1, none⟩ = some (.slice B o d) ∧ z.cell? ⟨w.heap.size, 2, none⟩ = some (.slice B' new.length d')))
    (first | with_reducible assumption | exact HK0.out | exact HS0.out _ HX2.out | exact HS0.out _ HX1.out)
    (first
      | (refine stepAppA strE tyStrs (by rfl) _ _ (by rfl) HO4.out (HN.out _ HX0.out) rfl (by rfl) (by rfl) HZ4.out HBG.out ?_; intro v1 x1 ho1 hbx1 _; have HX1 := Lib.hid (HX0.out.trans hbx1); have HO1 := Lib.hid ho1; have HZ1 := Lib.hid (Nat.le_trans HZ4.out HX1.out.size); clear ho1 hbx1)
      | (refine stepAppA strE tyStrs (by rfl) _ _ (by rfl) HO1.out (HD.out _ HX1.out) HDL.out.symm (by rfl) (by rfl) HZ1.out HBG2.out ?_; intro v2 x2 ho2 hbx2 _; have HX2 := Lib.hid (HX1.out.trans hbx2); have HO2 := Lib.hid ho2; clear ho2 hbx2))
  all_goals
    go_wp2_with fail
    go_ret
    exact ⟨_, rfl, by rw [← List.append_assoc]; exact HO2.out.base HBZ.out, HB04.out.trans (HX2.out.mono HBZ.out)⟩
end Fl
end Go.Proofs.YtekkhnjepcebkaaGreatDoor
