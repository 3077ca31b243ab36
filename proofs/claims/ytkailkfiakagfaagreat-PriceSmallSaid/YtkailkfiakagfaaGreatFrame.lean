/- The frame of a law that changes nothing that was there: from Below to the row's post. No condition. -/
import Derived.Test.YtkailkfiakagfaaGreatPriceA
import Derived.ChangeSame
import Derived.RowKit3
import Derived.ReadAgain
import Derived.OpenShut
import Derived.ChangeSlices
set_option linter.unusedVariables false
set_option linter.unusedSimpArgs false
namespace Go.Proofs.YtkailkfiakagfaaGreat
open Go.ChangeShapes Go.WideShapes Go.RowKit

theorem keptBut_below {W W' : World} (h : Below W.heap.size W W') (may : MemPlace → Prop) : W.keptBut W' may := by
  refine ⟨h.os, h.output, fun i hi => ?_⟩
  rw [h.block i hi]
  cases W.heap[i]? with
  | none => rfl
  | some o => cases o with
    | cells c t fr => exact ⟨rfl, rfl, rfl, fun _ _ => rfl⟩
    | map es clock => exact .inr ⟨rfl, rfl⟩
    | _ => rfl
/-- A call that returns v and leaves what was there as it was pays the row's post. -/
theorem post_of_below {H : Type} {enc : TypeId × Value → H} {P : Program} {f : Func} {s : ChangeSpec} {apart fresh handsOn again : Bool} {W W' : World} {args : Array Value} {v : Value} {ds gs : List (DataW H)} {before pa pv : List MemPlace}
    (hW : DataW.Whole enc P f.params.toList s.vars apart W args.toList ds gs before) (hb : Below W.heap.size W W') (hps : before = pa ++ pv)
    (hres : ∀ (b : Nat) (sp : Nat → Bool) (hd : Bool), DataW.TrodAll enc P W' b sp hd f.resultTypes.toList (v.resultList f.resultTypes.size) (s.fn H (ds ++ gs)).results [])
    (hargs : ∀ sp : Nat → Bool, (∀ p ∈ before, sp p.block = true) → DataW.TrodAll enc P W' 0 sp true f.params.toList args.toList (s.fn H (ds ++ gs)).args pa)
    (hvars : ∀ sp : Nat → Bool, (∀ p ∈ before, sp p.block = true) → DataW.TrodVars enc P W' sp s.vars (s.fn H (ds ++ gs)).vars pv)
    (hok : ∀ (j : Nat) (t : TypeId) (r : Value), f.resultTypes[j]? = some t → (v.resultList f.resultTypes.size)[j]? = some r → Value.okWide P W' .any 0 t r) :
    s.post enc P f apart fresh handsOn again W args v W' := by
  have hlt : ∀ p ∈ before, p.block < W.heap.size := fun p hp => hW.lt p hp
  have hin : ∀ p ∈ before, decide (p.block < W.heap.size) = true := fun p hp => decide_eq_true (hlt p hp)
  have hW0 := hW
  obtain ⟨_, _, _, _, _, hz, hn⟩ := hW0
  have hsub : ∀ p ∈ before, p ∈ before ∧ (p ∈ ([] : List MemPlace) ∨ p ∈ pa ∨ p ∈ pv) := fun p hp => ⟨hp, .inr (List.mem_append.1 (hps ▸ hp))⟩
  have hall : ([] ++ pa) ++ pv = before := by rw [List.nil_append, hps]
  refine ⟨ds, gs, before, [], pa, pv, hW, hres _ _ _, hargs (fun b => decide (b < W.heap.size)) hin, hvars (fun b => decide (b < W.heap.size)) hin, World.keptBut_mono hsub (keptBut_below hb _), fun _ => ⟨hok, _, _, ([] ++ pa) ++ pv, ⟨[] ++ pa, pv, trodAll_append (hargs _ fun _ _ => rfl) (hres _ _ _), hvars _ fun _ _ => rfl, rfl, ?_, ?_⟩, ?_⟩⟩
  · intro b off hp
    rw [hall] at hp
    rw [hb.frozen (p := ⟨b, off, none⟩) (hlt _ hp)]
    exact hz b off hp
  · rw [hall]; exact hn
  · rw [hall]; exact fun p hp _ => hp
theorem law_kids : Kids Tryz.prog (· < (Tryz.prog).types.size) := kids_rows (by kernel_rfl) (by kernel_rfl)
theorem law_full : ∀ t e, t < (Tryz.prog).types.size → (Tryz.prog).underlying t = some (.slice e) → 0 < (Tryz.prog).cellsOf e := slices_full_of Tryz.prog (by kernel_rfl)
theorem trodAll_below {H : Type} {enc : TypeId × Value → H} {P : Program} {W W' : World} {base : Nat} {spare : Nat → Bool} {held : Bool} (hs : ∀ p : MemPlace, p.block < W.heap.size → W.sameAt W' p) : ∀ {ts : List TypeId} {vs : List Value} {ds : List (DataW H)} {ps : List MemPlace},
    DataW.TrodAll enc P W base spare held ts vs ds ps → (∀ p ∈ ps, p.block < W.heap.size) → DataW.TrodAll enc P W' base spare held ts vs ds ps
  | [], [], [], _, h, _ => h
  | _ :: ts, _ :: vs, _ :: ds, _, ⟨p, q, ⟨n, h⟩, hr, e⟩, hl => by
    subst e
    exact ⟨p, q, ⟨n, DataW.trod_carry n _ _ _ h fun x hx => hs x (hl x (List.mem_append.2 (.inl hx)))⟩, trodAll_below hs hr fun x hx => hl x (List.mem_append.2 (.inr hx)), rfl⟩
set_option maxRecDepth 100000 in
/-- Every law: whatever its parameters, if it returns true and leaves what was there as it was. -/
theorem law_post {H : Type} {enc : TypeId × Value → H} {f : Func} {s : ChangeSpec} {apart fresh handsOn again : Bool} {W W' : World} {args : Array Value} {ds gs : List (DataW H)} {before : List MemPlace} {tb : TypeId}
    (hT : ∀ t ∈ f.params.toList, t < (Tryz.prog).types.size) (hv : s.vars = []) (hrt : f.resultTypes = #[tb]) (hu : (Tryz.prog).underlying tb = some .bool)
    (hW : DataW.Whole enc Tryz.prog f.params.toList s.vars apart W args.toList ds gs before) (hb : Below W.heap.size W W')
    (hr : (s.fn H (ds ++ gs)).results = [.lit (.bool true)]) (ha : (s.fn H (ds ++ gs)).args = ds) (hvs : (s.fn H (ds ++ gs)).vars = []) :
    s.post enc Tryz.prog f apart fresh handsOn again W args (.bool true) W' := by
  have hW0 := hW
  obtain ⟨p, q, hA, hV, he, _, _⟩ := hW0
  have hV' := hV
  rw [hv] at hV'
  obtain ⟨_, rfl⟩ := trodVars_none hV'
  have hlt : ∀ x ∈ before, x.block < W.heap.size := fun x hx => hW.lt x hx
  refine post_of_below hW hb he ?_ ?_ ?_ (ok_one (by rw [hrt]) (by rfl) (okWide_bool_mk hu true))
  · intro b sp hd
    rw [hr, hrt]
    exact trodAll_cons_mk (shut_bool hu true) trodAll_mk0
  · intro sp hsp
    rw [ha]
    exact trodAll_below (fun x hx => hb.same hx) (DataW.TrodAll.respare law_kids law_full hT hA fun x hx => hsp x (by rw [he]; exact List.mem_append.2 (.inl hx))) fun x hx => hlt x (by rw [he]; exact List.mem_append.2 (.inl hx))
  · intro sp _
    rw [hv, hvs]
    rfl
end Go.Proofs.YtkailkfiakagfaaGreat
-- What an argument of a law reads as: []uint8. No condition.
namespace Go.Proofs.YtkailkfiakagfaaGreat
open Go.ChangeShapes Go.WideShapes Go.RowKit

end Go.Proofs.YtkailkfiakagfaaGreat
