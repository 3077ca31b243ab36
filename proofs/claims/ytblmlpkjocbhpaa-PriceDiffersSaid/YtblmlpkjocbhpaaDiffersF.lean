/- PriceDiffers holds: the first piece at which lists differ, rules without a witness, and lists in another order. No condition. -/
import Derived.Test.YtblmlpkjocbhpaaRows
import Derived.Test.YtblmlpkjocbhpaaDiffersW
import Derived.WalkKit
import Derived.ProofKit
import Derived.OpenShut
set_option linter.unusedVariables false
set_option linter.unusedSimpArgs false
namespace Go.Proofs.Ytblmlpkjocbhpaa.differing
open Go.ChangeShapes Go.WideShapes Go.ChangeAt Go.RowKit

theorem own : ownKnob Try.prog.godebug = none := by kernel_rfl
set_option maxRecDepth 100000 in
theorem lifted (os : Os) (started : os.Started) (H : Type) (enc : TypeId × Value → H) :
    ReturnsInHanded {} Try.checked os 9 .any (Rows.priceDiffersSpec.pre6 enc Try.prog Try.f9 Rows.priceDiffersRow.domain false) (Rows.priceDiffersSpec.post enc Try.prog Try.f9 false true false false) := by
  refine returnsInHanded_of_change (C := Try.checked) own started (by kernel_rfl) Try.func9
    (ChangeSpec.witness6 (enc := enc) (C := Try.checked) false ⟨#[], #[.slice none 0 0, .slice none 0 0, .slice none 0 0, .int .u8 0], []⟩ 8 (by kernel_rfl) (by kernel_rfl) (by kernel_rfl) (by kernel_rfl)) ?_
  intro W base args ds gs before hval0 hW hcnd _
  have hval : ∀ (j : Nat) t v, Try.f9.params[j]? = some t → args[j]? = some v → Value.okWide Try.prog W .any base t v := hval0
  have hW' := hW
  obtain ⟨p, q, hA0, hV, he, hfz, hnd⟩ := hW
  have hA : DataW.TrodAll enc Try.prog W 0 (fun _ => true) true Try.f9.params.toList args.toList ds p := hA0
  rw [Try.params9] at hA hval
  obtain ⟨v0, vs0, d0, ds0, p0, q0, hargs, rfl, rfl, h0, r0⟩ := trodAll_cons hA
  obtain ⟨v1, vs1, d1, ds1, p1, q1, rfl, rfl, rfl, h1, r1⟩ := trodAll_cons r0
  obtain ⟨v2, vs2, d2, ds2, p2, q2, rfl, rfl, rfl, h2, r2⟩ := trodAll_cons r1
  obtain ⟨v3, vs3, d3, ds3, p3, q3, rfl, rfl, rfl, h3, r3⟩ := trodAll_cons r2
  obtain ⟨rfl, rfl, rfl⟩ := trodAll_nil r3
  obtain rfl : args = #[v0, v1, v2, v3] := by cases args; simp_all
  obtain ⟨rfl, rfl⟩ := trodVars_none hV
  obtain ⟨A, bs, c, rfl, hc, hm, hs⟩ := openBytes (hval 0 _ v0 rfl rfl) h0
  obtain ⟨A', bs', c', rfl, hc', hm', hs'⟩ := openBytes (hval 1 _ v1 rfl rfl) h1
  obtain ⟨A3, bs3, c3, rfl, hc3, hm3, hs3⟩ := openBytes (hval 2 _ v2 rfl rfl) h2
  obtain ⟨m, rfl, rfl, rfl, wm⟩ := open_int Try.underlying5 (hval 3 _ v3 rfl rfl) h3
  have hm2 : 0 ≤ m ∧ m ≤ 255 := by simp only [Lit.wf, Bool.and_eq_true, decide_eq_true_eq] at wm; exact ⟨wm.1, wm.2⟩
  obtain ⟨mn, rfl⟩ := Int.eq_ofNat_of_zero_le hm2.1
  refine (differs_walk A bs c A' bs' c' A3 bs3 c3 mn W hs hs' hs3 (by omega)).mono fun e W' ⟨he', hb⟩ => ?_
  subst he'
  exact ⟨_, rfl, law_post (by rw [Try.params9]; decide) rfl rfl Try.underlying4 hW' hb rfl rfl rfl⟩
theorem said : Rows.PriceDiffersSaid :=
  OpenClaim.holds_of_wide 9 Try.f9 rfl rfl rfl rfl rfl rfl rfl ⟨rfl, rfl, rfl, rfl, rfl⟩ rfl rfl rfl rfl rfl (by kernel_rfl) Try.func9 (by kernel_rfl)
    (of_decide_eq_true (by kernel_rfl)) (by unfold Func.isWrapper; first | (rw [if_pos (by decide +kernel)]; kernel_rfl) | (rw [if_neg (by decide +kernel)]; exact ⟨rfl, rfl⟩))
    (fun os started H enc _ => lifted os started H enc)
end Go.Proofs.Ytblmlpkjocbhpaa.differing
