/- The frame of a law that changes nothing that was there: from Below to the row's post. No condition. -/
import Derived.Test.YtekkhnjepcebkaaGreatDoorFlY
import Derived.Test.YtekkhnjepcebkaaGreatDoorCards
import Derived.Test.YtekkhnjepcebkaaGreatDoorTie
import Derived.WalkKit
import Derived.ProofKit
import Derived.Deep.DeepHandedRow
import Derived.Lib.LaidTab
import Derived.Stop.LaidErr
import Derived.ChangeSame
import Derived.RowKit3
import Derived.ReadAgain
import Derived.OpenShut
import Derived.ChangeSlices
set_option linter.unusedVariables false
set_option linter.unusedSimpArgs false
namespace Go.Proofs.YtekkhnjepcebkaaGreatDoor
open Go.ChangeShapes Go.WideShapes Go.RowKit

theorem keptBut_below {W W' : World} (h : Below W.heap.size W W') (may : MemPlace → Prop) : W.keptBut W' may := by
  refine ⟨h.os, h.output, fun i hi => ?_⟩
  rw [h.block i hi]
  cases W.heap[i]? with
  | none => rfl
  | some o => cases o with
    | cells c t fr => exact ⟨rfl, rfl, rfl, fun _ _ => rfl⟩
    | map es clock => exact .inr ⟨rfl, rfl⟩
    | _ => rfl
/-- A call that returns v and leaves what was there as it was pays the row's post. -/
theorem post_of_below {H : Type} {enc : TypeId × Value → H} {P : Program} {f : Func} {s : ChangeSpec} {apart fresh handsOn again : Bool} {W W' : World} {args : Array Value} {v : Value} {ds gs : List (DataW H)} {before pa pv : List MemPlace}
    (hW : DataW.Whole enc P f.params.toList s.vars apart W args.toList ds gs before) (hb : Below W.heap.size W W') (hps : before = pa ++ pv)
    (hres : ∀ (b : Nat) (sp : Nat → Bool) (hd : Bool), DataW.TrodAll enc P W' b sp hd f.resultTypes.toList (v.resultList f.resultTypes.size) (s.fn H (ds ++ gs)).results [])
    (hargs : ∀ sp : Nat → Bool, (∀ p ∈ before, sp p.block = true) → DataW.TrodAll enc P W' 0 sp true f.params.toList args.toList (s.fn H (ds ++ gs)).args pa)
    (hvars : ∀ sp : Nat → Bool, (∀ p ∈ before, sp p.block = true) → DataW.TrodVars enc P W' sp s.vars (s.fn H (ds ++ gs)).vars pv)
    (hok : ∀ (j : Nat) (t : TypeId) (r : Value), f.resultTypes[j]? = some t → (v.resultList f.resultTypes.size)[j]? = some r → Value.okWide P W' .any 0 t r) :
    s.post enc P f apart fresh handsOn again W args v W' := by
  have hlt : ∀ p ∈ before, p.block < W.heap.size := fun p hp => hW.lt p hp
  have hin : ∀ p ∈ before, decide (p.block < W.heap.size) = true := fun p hp => decide_eq_true (hlt p hp)
  have hW0 := hW
  obtain ⟨_, _, _, _, _, hz, hn⟩ := hW0
  have hsub : ∀ p ∈ before, p ∈ before ∧ (p ∈ ([] : List MemPlace) ∨ p ∈ pa ∨ p ∈ pv) := fun p hp => ⟨hp, .inr (List.mem_append.1 (hps ▸ hp))⟩
  have hall : ([] ++ pa) ++ pv = before := by rw [List.nil_append, hps]
  refine ⟨ds, gs, before, [], pa, pv, hW, hres _ _ _, hargs (fun b => decide (b < W.heap.size)) hin, hvars (fun b => decide (b < W.heap.size)) hin, World.keptBut_mono hsub (keptBut_below hb _), fun _ => ⟨hok, _, _, ([] ++ pa) ++ pv, ⟨[] ++ pa, pv, trodAll_append (hargs _ fun _ _ => rfl) (hres _ _ _), hvars _ fun _ _ => rfl, rfl, ?_, ?_⟩, ?_⟩⟩
  · intro b off hp
    rw [hall] at hp
    rw [hb.frozen (p := ⟨b, off, none⟩) (hlt _ hp)]
    exact hz b off hp
  · rw [hall]; exact hn
  · rw [hall]; exact fun p hp _ => hp
theorem law_kids : Kids Tryz.prog (· < (Tryz.prog).types.size) := kids_rows (by kernel_rfl) (by kernel_rfl)
theorem law_full : ∀ t e, t < (Tryz.prog).types.size → (Tryz.prog).underlying t = some (.slice e) → 0 < (Tryz.prog).cellsOf e := slices_full_of Tryz.prog (by kernel_rfl)
theorem trodAll_below {H : Type} {enc : TypeId × Value → H} {P : Program} {W W' : World} {base : Nat} {spare : Nat → Bool} {held : Bool} (hs : ∀ p : MemPlace, p.block < W.heap.size → W.sameAt W' p) : ∀ {ts : List TypeId} {vs : List Value} {ds : List (DataW H)} {ps : List MemPlace},
    DataW.TrodAll enc P W base spare held ts vs ds ps → (∀ p ∈ ps, p.block < W.heap.size) → DataW.TrodAll enc P W' base spare held ts vs ds ps
  | [], [], [], _, h, _ => h
  | _ :: ts, _ :: vs, _ :: ds, _, ⟨p, q, ⟨n, h⟩, hr, e⟩, hl => by
    subst e
    exact ⟨p, q, ⟨n, DataW.trod_carry n _ _ _ h fun x hx => hs x (hl x (List.mem_append.2 (.inl hx)))⟩, trodAll_below hs hr fun x hx => hl x (List.mem_append.2 (.inr hx)), rfl⟩
set_option maxRecDepth 100000 in
/-- Every law: whatever its parameters, if it returns true and leaves what was there as it was. -/
theorem law_post {H : Type} {enc : TypeId × Value → H} {f : Func} {s : ChangeSpec} {apart fresh handsOn again : Bool} {W W' : World} {args : Array Value} {ds gs : List (DataW H)} {before : List MemPlace} {tb : TypeId}
    (hT : ∀ t ∈ f.params.toList, t < (Tryz.prog).types.size) (hv : s.vars = []) (hrt : f.resultTypes = #[tb]) (hu : (Tryz.prog).underlying tb = some .bool)
    (hW : DataW.Whole enc Tryz.prog f.params.toList s.vars apart W args.toList ds gs before) (hb : Below W.heap.size W W')
    (hr : (s.fn H (ds ++ gs)).results = [.lit (.bool true)]) (ha : (s.fn H (ds ++ gs)).args = ds) (hvs : (s.fn H (ds ++ gs)).vars = []) :
    s.post enc Tryz.prog f apart fresh handsOn again W args (.bool true) W' := by
  have hW0 := hW
  obtain ⟨p, q, hA, hV, he, _, _⟩ := hW0
  have hV' := hV
  rw [hv] at hV'
  obtain ⟨_, rfl⟩ := trodVars_none hV'
  have hlt : ∀ x ∈ before, x.block < W.heap.size := fun x hx => hW.lt x hx
  refine post_of_below hW hb he ?_ ?_ ?_ (ok_one (by rw [hrt]) (by rfl) (okWide_bool_mk hu true))
  · intro b sp hd
    rw [hr, hrt]
    exact trodAll_cons_mk (shut_bool hu true) trodAll_mk0
  · intro sp hsp
    rw [ha]
    exact trodAll_below (fun x hx => hb.same hx) (DataW.TrodAll.respare law_kids law_full hT hA fun x hx => hsp x (by rw [he]; exact List.mem_append.2 (.inl hx))) fun x hx => hlt x (by rw [he]; exact List.mem_append.2 (.inl hx))
  · intro sp _
    rw [hv, hvs]
    rfl
end Go.Proofs.YtekkhnjepcebkaaGreatDoor
-- What an argument of a law reads as: []uint8. No condition.
namespace Go.Proofs.YtekkhnjepcebkaaGreatDoor
open Go.ChangeShapes Go.WideShapes Go.RowKit

theorem cellsU8 : (Tryz.prog).cellsOf 5 = 1 := by kernel_rfl
def byteEnc : Enc Int := ⟨fun x => [.int .u8 x], 1, fun _ => rfl, fun _ u h => by simp at h; subst h; rfl, by decide⟩
set_option maxRecDepth 100000 in
theorem openBytes {H : Type} {enc : TypeId × Value → H} {W : World} {base : Nat} {v : Value} {d : DataW H} {ps : List MemPlace} (hval : Value.okWide Tryz.prog W .any base 68 v) (h : DataW.Trod enc Tryz.prog W 0 (fun _ => true) true 68 v d ps) :
    ∃ A bs c, v = .slice A bs.length c ∧ bs.length ≤ c ∧ bs.length ≤ maxLen ∧ Sl byteEnc W A bs := by
  obtain ⟨A, len, cap, rfl⟩ := okWide_slice Tryz.underlying68 hval
  obtain ⟨fuel, hf⟩ := h
  rcases open_ints Tryz.underlying68 Tryz.underlying5 cellsU8 hf with ⟨hcs, _⟩ | ⟨a, len', cap', zs, hcs, _, hl, hm, hz, _, hcell, _⟩
  · simp [Value.cells] at hcs
    obtain ⟨rfl, rfl, rfl⟩ := hcs
    exact ⟨none, [], 0, rfl, Nat.le_refl _, Nat.zero_le _, fun h => absurd rfl h⟩
  · simp [Value.cells] at hcs
    obtain ⟨rfl, rfl, rfl⟩ := hcs
    simp only [if_true] at hz
    refine ⟨some a, zs.take len, cap, by simp; omega, by simp; omega, by simp; omega, fun hne => ?_⟩
    obtain ⟨ab, ao, spot⟩ := a
    have h0 : 0 < zs.length := by
      cases zs with
      | nil => simp at hne
      | cons _ _ => simp
    have hspot : spot = none := by simpa [Addr.add] using World.cell?_spot (hcell 0 h0)
    subst hspot
    refine ⟨ab, ao, rfl, ?_, fun i x hi j u hu => ?_⟩
    · have := hcell 0 h0
      rw [Addr.add_lit] at this
      by_cases hlt : ab < W.heap.size
      · exact hlt
      · simp [World.cell?, Array.getElem?_eq_none (Nat.le_of_not_lt hlt)] at this
    · have hu' : j = 0 ∧ u = .int .u8 x := by
        match j, hu with
        | 0, hu => exact ⟨rfl, by simpa [byteEnc] using hu.symm⟩
        | j + 1, hu => simp [byteEnc] at hu
      obtain ⟨rfl, rfl⟩ := hu'
      have hil : i < zs.length := by have := (List.getElem?_eq_some_iff.1 hi).1; simp at this; omega
      have := hcell i hil
      rw [Addr.add_lit] at this
      have hx : zs.getD i 0 = x := by
        rw [List.getElem?_take] at hi
        split at hi
        · simp [List.getD_eq_getElem?_getD, hi]
        · cases hi
      rw [hx] at this
      simpa [byteEnc] using this

-- The listed variables. No condition.
theorem own : ownKnob Tryz.prog.godebug = none := by kernel_rfl
theorem g0 : Tryz.prog.globalNamed "internal/strconv.uint64pow10" = some 1 := by kernel_rfl
theorem g0ty : (Tryz.prog.globals[1]?).map (·.type) = some 254 := by kernel_rfl
theorem cells20 : Tryz.prog.cellsOf 254 = 20 := by kernel_rfl
theorem cellsU64 : Tryz.prog.cellsOf 146 = 1 := by kernel_rfl
abbrev laidList : List (String × DataW Unit) := [("math/bits.deBruijn32tab", Rows.laid_math_bits_deBruijn32tab), ("math/bits.deBruijn64tab", Rows.laid_math_bits_deBruijn64tab), ("internal/strconv.uint64pow10", Rows.laid_internal_strconv_uint64pow10)]
/-- What a row's list gives: the table of powers of ten. -/
theorem tab_of {W : World} (h : laidMetH Tryz.prog laidList W) : Fl.Tab W := by
  have h0 : laidMet Tryz.prog laidList W := h
  have h1 : laidMet Tryz.prog [("internal/strconv.uint64pow10", Rows.laid_internal_strconv_uint64pow10)] W := (h0.tail).tail
  exact Lib.tabIs_of_head (rest := []) g0 g0ty Tryz.underlying254 Tryz.underlying146 cellsU64 cells20 h1
/-- A world for the witness. -/
def layAt (h : Array Obj) (i : Nat) (cs : Array Value) : Array Obj := h.modify i fun
  | .cells _ t frozen => .cells cs t frozen
  | o => o
noncomputable def laidWorld (os : Os) : World :=
  { World.holding Tryz.prog os ⟨#[], #[], []⟩ with heap := layAt (layAt (layAt (World.holding Tryz.prog os ⟨#[], #[], []⟩).heap 1 (Lib.pow10Tab.map fun z => Value.int .u64 z).toArray) 2 (([0, 1, 28, 2, 29, 14, 24, 3, 30, 22, 20, 15, 25, 17, 4, 8, 31, 27, 13, 23, 21, 19, 16, 7, 26, 12, 18, 6, 11, 5, 10, 9] : List Int).map fun z => Value.int .u8 z).toArray) 3 (([0, 1, 56, 2, 57, 49, 28, 3, 61, 58, 42, 50, 38, 29, 17, 4, 62, 47, 59, 36, 45, 43, 51, 22, 53, 39, 33, 30, 24, 18, 12, 5, 63, 55, 48, 27, 60, 41, 37, 16, 46, 35, 44, 21, 52, 32, 23, 11, 54, 26, 40, 15, 34, 20, 31, 10, 25, 14, 19, 9, 13, 8, 7, 6] : List Int).map fun z => Value.int .u8 z).toArray }
theorem laid_met (os : Os) (args : Array Value) : laidMet Tryz.prog laidList ((laidWorld os).forCall (fun _ _ => 0) ⟨#[], args, []⟩).memory :=
  laidMet_of_run' 8 (by kernel_rfl) (by kernel_rfl)
end Go.Proofs.YtekkhnjepcebkaaGreatDoor
