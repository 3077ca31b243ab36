/- PriceLists holds: the first piece at which lists differ, a witness, the idle rules, and the shortest list, or the errors, are as specified; nothing that is passed in is changed. No condition. -/
import Derived.Test.YtblmlpkjocbhpaaRows
import Derived.Test.YtblmlpkjocbhpaaListsW
import Derived.Test.YtblmlpkjocbhpaaOpenS
import Derived.WalkKit
import Derived.ProofKit
import Derived.OpenShut
set_option linter.unusedVariables false
set_option linter.unusedSimpArgs false
namespace Go.Proofs.Ytblmlpkjocbhpaa.lists
open Go.ChangeShapes Go.WideShapes Go.ChangeAt Go.RowKit

theorem own : ownKnob Try.prog.godebug = none := by kernel_rfl
set_option maxRecDepth 100000 in
theorem lifted (os : Os) (started : os.Started) (H : Type) (enc : TypeId × Value → H) :
    ReturnsInHanded {} Try.checked os 10 .any (Rows.priceListsSpec.pre6 enc Try.prog Try.f10 Rows.priceListsRow.domain false) (Rows.priceListsSpec.post enc Try.prog Try.f10 false true false false) := by
  refine returnsInHanded_of_change (C := Try.checked) own started (by kernel_rfl) Try.func10
    (ChangeSpec.witness6 (enc := enc) (C := Try.checked) false ⟨#[], #[.slice none 0 0, .slice none 0 0, .int .i64 0], []⟩ 8 (by kernel_rfl) (by kernel_rfl) (by kernel_rfl) (by kernel_rfl)) ?_
  intro W base args ds gs before hval0 hW hcnd _
  have hval : ∀ (j : Nat) t v, Try.f10.params[j]? = some t → args[j]? = some v → Value.okWide Try.prog W .any base t v := hval0
  have hW' := hW
  obtain ⟨p, q, hA0, hV, he, hfz, hnd⟩ := hW
  have hA : DataW.TrodAll enc Try.prog W 0 (fun _ => true) true Try.f10.params.toList args.toList ds p := hA0
  rw [Try.params10] at hA hval
  obtain ⟨v0, vs0, d0, ds0, p0, q0, hargs, rfl, rfl, h0, r0⟩ := trodAll_cons hA
  obtain ⟨v1, vs1, d1, ds1, p1, q1, rfl, rfl, rfl, h1, r1⟩ := trodAll_cons r0
  obtain ⟨v2, vs2, d2, ds2, p2, q2, rfl, rfl, rfl, h2, r2⟩ := trodAll_cons r1
  obtain ⟨rfl, rfl, rfl⟩ := trodAll_nil r2
  obtain rfl : args = #[v0, v1, v2] := by cases args; simp_all
  obtain ⟨rfl, rfl⟩ := trodVars_none hV
  obtain ⟨A, l, c, rfl, hc, hm, hs⟩ := openSl ruleE ruleDec Try.underlying28 Try.underlying27 (by kernel_rfl) (intFields (by kernel_rfl)) (by kernel_rfl) rfl (hval 0 _ v0 rfl rfl) h0
  obtain ⟨A', l', c', rfl, hc', hm', hs'⟩ := openSl ruleE ruleDec Try.underlying28 Try.underlying27 (by kernel_rfl) (intFields (by kernel_rfl)) (by kernel_rfl) rfl (hval 1 _ v1 rfl rfl) h1
  obtain ⟨m, rfl, rfl, rfl, wm⟩ := open_int Try.underlying3 (hval 2 _ v2 rfl rfl) h2
  have hm2 : -9223372036854775808 ≤ m ∧ m ≤ 9223372036854775807 := by simp only [Lit.wf, Bool.and_eq_true, decide_eq_true_eq] at wm; exact ⟨wm.1, wm.2⟩
  refine (lists_walk A l c A' l' c' m W hm hc hs hm' hc' hs' hm2).mono fun e W' ⟨he', hb⟩ => ?_
  subst he'
  exact ⟨_, rfl, law_post (by rw [Try.params10]; decide) rfl rfl Try.underlying4 hW' hb rfl rfl rfl⟩
theorem said : Rows.PriceListsSaid :=
  OpenClaim.holds_of_wide 10 Try.f10 rfl rfl rfl rfl rfl rfl rfl ⟨rfl, rfl, rfl, rfl, rfl⟩ rfl rfl rfl rfl rfl (by kernel_rfl) Try.func10 (by kernel_rfl)
    (of_decide_eq_true (by kernel_rfl)) (by unfold Func.isWrapper; first | (rw [if_pos (by decide +kernel)]; kernel_rfl) | (rw [if_neg (by decide +kernel)]; exact ⟨rfl, rfl⟩))
    (fun os started H enc _ => lifted os started H enc)
end Go.Proofs.Ytblmlpkjocbhpaa.lists
