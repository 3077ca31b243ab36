/- FileSmall holds. No condition. -/
import Derived.Test.YtblgkmdadholmabGreatDoorSmp12
set_option linter.unusedVariables false
set_option linter.unusedSimpArgs false
set_option maxRecDepth 100000
section
namespace Go.Proofs.YtblgkmdadholmabGreatDoor.fsmall
open Go.ChangeShapes Go.WideShapes Go.ChangeAt Go.RowKit Go.Shelf
theorem asked (w : World) (ht : Fl.Tab w) : Fl.Asked w where
 parses _ s h := Fl.parses_law s _ (ht.below h)
 texts _ A f c h x y := Fl.texts_law A f c _ x y (ht.below h)
 pairs _ A a c B b d C r e h p q s t u v := Fl.filepairs_law A a c B b d C r e _ p q s t u v (ht.below h)
 changes _ A a c B b d V v e h p q s t u x := Fl.changes_law A a c B b d V v e _ p q s t u x (ht.below h)
 copies _ A a b B c d C e f V r g h p q s t u v x y z := Fl.copies_law A a b B c d C e f V r g _ p q s t u v x y z (ht.below h)
theorem smContract (H : Type) (enc : TypeId × Value → H) (W : World) (base : Nat) (args : Array Value) (ds gs : List (DataW H)) (before : List MemPlace)
  (hW : DataW.Whole enc Tryz.prog Tryz.f3.params.toList Rows.fileSmallSpec.vars false W args.toList ds gs before) (hL : laidMetH Tryz.prog Rows.fileSmallRow.laid W) :
  Calls Tryz.prog 3 args W fun e W' => ∃ v, e = .returned v ∧ Rows.fileSmallSpec.post enc Tryz.prog Tryz.f3 false true false false W args v W' := by
 have hW' := hW;obtain ⟨p, q, hA0, hV, he, hfz, hnd⟩ := hW;have hA : DataW.TrodAll enc Tryz.prog W 0 (fun _ => true) true Tryz.f3.params.toList args.toList ds p := hA0;rw [Tryz.params3] at hA;obtain ⟨_, rfl, rfl⟩ := trodAll_nil hA;obtain rfl : args = #[] := by cases args; simp_all
 obtain ⟨rfl, rfl⟩ := trodVars_none hV;refine (Fl.small_law W (tab_of hL) (asked W (tab_of hL))).mono fun e W' ⟨he', hb⟩ => ?_
 subst he';exact ⟨_, rfl, law_post (by rw [Tryz.params3]; decide) rfl rfl Tryz.underlying4 hW' hb rfl rfl rfl⟩
theorem smReads (os : Os) {H : Type} (enc : TypeId × Value → H) : ∃ p, DataW.whole enc Tryz.prog ((laidWorld os).forCall (fun _ _ => 0) ⟨#[], #[], []⟩).memory Tryz.f3.params.toList Rows.fileSmallSpec.vars false (#[] : Array Value).toList 8 = some ([], [], p) :=
 ⟨[], by kernel_rfl⟩
theorem smLifted (os : Os) (started : os.Started) (H : Type) (enc : TypeId × Value → H) (F : Stop.Interp) :
  ReturnsInHanded {} Tryz.checked os 3 .any ((OpenSpec.ofChange Rows.fileSmallSpec).preRow enc Tryz.prog Tryz.f3 Rows.fileSmallRow.domain false Rows.fileSmallRow.laid) (((OpenSpec.ofChange Rows.fileSmallSpec).at F).post enc Tryz.prog Tryz.f3 false true false false) := by
 obtain ⟨_, hx⟩ := smReads os enc
 refine returnsInHanded_of_row (C := Tryz.checked) (s := OpenSpec.ofChange Rows.fileSmallSpec) (by kernel_rfl) started (by kernel_rfl) Tryz.func3
  (witness_row_at (enc := enc) (C := Tryz.checked) false (laidWorld os) #[] rfl (by kernel_rfl) (by kernel_rfl) (by kernel_rfl)
   (OpenSpec.preRow_of_cond 8 hx (by kernel_rfl) (fun k hk => by cases hk) (by kernel_rfl) (laid_met os _))) ?_
 intro W base args ds gs before hval hW _ _ _ hL _ _;exact smContract H enc W base args ds gs before hW hL
theorem smSaid : Rows.FileSmallSaid :=
 OpenClaim.holds_of_cond 3 Tryz.f3 rfl rfl rfl rfl rfl rfl rfl ⟨rfl, rfl, rfl, rfl, rfl⟩ rfl rfl rfl rfl rfl (by kernel_rfl) Tryz.func3 (by kernel_rfl)
  (of_decide_eq_true (by kernel_rfl)) (by unfold Func.isWrapper; first | (rw [if_pos (by decide +kernel)]; kernel_rfl) | (rw [if_neg (by decide +kernel)]; exact ⟨rfl, rfl⟩))
  (fun os started H enc _ F => by rw [OpenClaim.pre_eq_preRow]; exact smLifted os started H enc F)
theorem smallCard : Rows.FileSmallCardSaid :=
 Claim7.holds_tied_plain_at .later [] _ _ _ _ smSaid (fun _ h => by cases h) (by kernel_rfl) (fun _ h => by cases h) fileSmall_row_tie rfl ⟨rfl, rfl⟩ (by kernel_rfl) rfl (fun f fn hf hfn => by obtain rfl : f = 3 := Option.some.inj ((show Tryz.prog.funcNamed "petersham/petershamlaw11.FileSmall" = some 3 by kernel_rfl).symm.trans hf) |>.symm; obtain rfl : fn = Tryz.f3 := (Option.some.inj (Tryz.func3.symm.trans hfn)).symm;refine ⟨by kernel_rfl, fun j t ht => ?_⟩;rw [Tryz.params3] at ht;simp at ht) (by kernel_rfl)
end Go.Proofs.YtblgkmdadholmabGreatDoor.fsmall
end
