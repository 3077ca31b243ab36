/- What the proof of the claim's theorem uses, part 6. The conditions stand in each statement. -/
import Derived.WalkKit
import Derived.WalkSpells
import Derived.WalkLawsBesides
import Derived.WalkSmall
import Derived.Lib.Hide
import Derived.Laws.OwnMore
import Derived.Laws.CopyOwn
import Derived.Deep.Draws
import Derived.Laws.AppendOwnNone
import Derived.Test.YtekkhnjepcebkaaGreatDoorProg
import Derived.Outline
import Derived.BigQuiet
import Derived.Deep.QuietTactic
import Derived.Lib.OthersKept
import Derived.Laws.EntriesVeiled
import Derived.Shelf.Strings.Builder1
import Derived.Shelf.LaysM
import Derived.Shelf.Strconv.Itoa3
import Derived.Orders
import Derived.RegionTactic
import Derived.BigRegion
import Derived.Deep.DeepCutAuto
import Derived.Maps.OwnRows
import Derived.Maps.GroupsBeside
import Derived.Deep.RegionHeld3
import Derived.Lib.SliceRun
import Derived.RangeFuncNested
import Derived.RangeFuncBound
import Derived.RangeFuncCalls
import Derived.RangeFuncLeaves
import Derived.Shelf.Abstract
import Derived.Shelf.RegionOpen
import Derived.OwnWalkIn
import Derived.TacticsInMore
import Derived.LoopNIn
import Derived.LoopIn
import Derived.Sort.QuietIn
import Derived.Deep.Quiet
import Derived.Maps.AppendAt
import Derived.Shelf.Bits.Mul64
import Derived.ArgAppend
import Derived.Lib.MinMax
import Derived.ChangeKeysEq
import Derived.WalkMore
import Derived.Laws.BytesArg
import Derived.Laws.IdiomStrings
import Derived.Shelf.Spec.SlicesInsert
import Derived.Shelf.Spec.SlicesInsertGrow
import Derived.Deep.RegionLaw
import Derived.Test.YtekkhnjepcebkaaGreatDoorCards
import Derived.Test.YtekkhnjepcebkaaGreatDoorTie
import Derived.ProofKit
import Derived.Deep.DeepHandedRow
import Derived.Lib.LaidTab
import Derived.Stop.LaidErr
import Derived.ChangeSame
import Derived.RowKit3
import Derived.ReadAgain
import Derived.OpenShut
import Derived.ChangeSlices
import Derived.SliceStrings
import Derived.Deep.Slices
import Derived.Deep.Fields
import Derived.Deep.CutBlock
import Derived.Test.YtekkhnjepcebkaaGreatDoorCh5
set_option linter.unusedVariables false
set_option linter.unusedSimpArgs false
section
namespace Go.Proofs.YtekkhnjepcebkaaGreatDoor
namespace File
/-- The worst error of lists of lines. -/
def worse (e n : Int) : Int := if n = 10 then 10 else if n = 11 ∧ e = 0 then 11 else e
def worst (l : List (List ByteArray)) : Int := l.foldl (fun e x => worse e (lined x)) 0
def lin (w k : Bool) : Int := if w then (if k then 0 else 11) else 10
theorem lined_lin (l : List ByteArray) : lined l = lin (l.all wide) (l.all okLine) := rfl
theorem worse_lin (w k w' k' : Bool) : worse (lin w k) (lin w' k') = lin (w && w') (k && k') := by cases w <;> cases k <;> cases w' <;> cases k' <;> rfl
theorem worst_go : ∀ (l : List (List ByteArray)) (pre : List ByteArray), l.foldl (fun e x => worse e (lined x)) (lined pre) = lined (pre ++ l.flatMap id)
  | [], pre => by rw [List.flatMap_nil, List.append_nil]; rfl
  | x :: l, pre => by
    have e : worse (lined pre) (lined x) = lined (pre ++ x) := by
      rw [lined_lin, lined_lin, lined_lin, worse_lin, List.all_append, List.all_append]
    show l.foldl _ (worse (lined pre) (lined x)) = _
    rw [e, worst_go l (pre ++ x), List.flatMap_cons, List.append_assoc]; rfl
theorem worst_eq (l : List (List ByteArray)) : worst l = lined (l.flatMap id) := worst_go l []
/-- What the reference makes of a file, from a line on. -/
def makeGo (f : List ByteArray) : Nat → List (Edit ByteArray) → Option (List ByteArray)
  | at_, [] => some (f.drop at_)
  | at_, x :: r => if (x.at_ ≤ (f.length : Int) ∧ fitGo f x.at_.toNat x.old = true) then (makeGo f x.hi r).map (fun l => cut f at_ x.lo ++ (x.new ++ l)) else none
theorem makeGo_some {f : List ByteArray} : ∀ {c : List (Edit ByteArray)} {lo : Nat}, Chain lo c → c.all (fitAt f) = true → makeGo f lo c = some (hasGo f f.length lo c)
  | [], lo, _, _ => by
    show some (f.drop lo) = some (cut f lo f.length)
    unfold cut
    rw [List.take_of_length_le (by rw [List.length_drop]; omega)]
  | x :: r, lo, ⟨h1, h2⟩, h => by
    rw [List.all_cons, Bool.and_eq_true] at h
    have hx := h.1
    unfold fitAt at hx
    rw [Bool.and_eq_true, decide_eq_true_eq] at hx
    unfold makeGo
    rw [if_pos hx, makeGo_some (lo := x.hi) (h2.weaken (Nat.le_succ _)) h.2]
    rfl
theorem makeGo_none {f : List ByteArray} : ∀ {c : List (Edit ByteArray)} {lo : Nat}, c.all (fitAt f) = false → makeGo f lo c = none
  | [], _, h => by cases h
  | x :: r, lo, h => by
    unfold makeGo
    split
    · rename_i hx
      have : fitAt f x = true := by unfold fitAt; rw [Bool.and_eq_true, decide_eq_true_eq]; exact hx
      rw [List.all_cons, this, Bool.true_and] at h
      rw [makeGo_none h]
      rfl
    · rfl
theorem makeGo_eq {f : List ByteArray} {c : List (Edit ByteArray)} (h : ChOk c) : makeGo f 0 c = if c.all (fitAt f) then some (make f c) else none := by
  split
  · rename_i ha
    have hch := ch_chain h
    rw [makeGo_some hch ha]
    have := make_has (f := f) hch fun x hx => fit_hi (h.at_ x hx).1 (List.all_eq_true.1 ha x hx)
    rw [this]
    simp
  · rename_i ha
    exact makeGo_none (by simpa using ha)
/-- What the reference's Make answers, of a file and a change that are right. -/
def refMake (f : List ByteArray) (c : List (Edit ByteArray)) : List ByteArray × Int :=
  match makeGo f 0 c with
  | none => ([], 7)
  | some l => if 24 < l.length then ([], 2) else (l, 0)
theorem refMake_eq {f : List ByteArray} {c : List (Edit ByteArray)} (hf : check f = 0) (hc : checkChange c = 0) : refMake f c = makeAns f c := by
  unfold refMake makeAns
  rw [if_pos hf, if_pos hc, makeGo_eq (ch_of hc)]
  cases c.all (fitAt f) <;> rfl
/-- How far lines lie after some edits. -/
def byOf : List (Edit ByteArray) → Int
  | [] => 0
  | x :: r => (x.new.length : Int) - (x.old.length : Int) + byOf r
theorem byOf_snoc : ∀ (l : List (Edit ByteArray)) (x : Edit ByteArray), byOf (l ++ [x]) = byOf l + ((x.new.length : Int) - (x.old.length : Int))
  | [], x => by simp [byOf]
  | y :: l, x => by simp only [List.cons_append, byOf, byOf_snoc l x]; omega
/-- What the reference's Diff goes through: an edit where either place lies behind. -/
def diffBy {α : Type} (a b : List α) : Nat → Nat → List (Nat × Nat) → List (Edit α)
  | _, _, [] => []
  | i, j, p :: r => (if i < p.1 ∨ j < p.2 then [⟨(i : Int), cut a i p.1, cut b j p.2⟩] else []) ++ diffBy a b (p.1 + 1) (p.2 + 1) r
theorem diffBy_eq {α : Type} {a b : List α} : ∀ (l : List (Nat × Nat)) (i j : Nat), (∀ k p, l[k]? = some p → k = 0 → i ≤ p.1 ∧ j ≤ p.2) → (∀ k p q, l[k]? = some p → l[k + 1]? = some q → p.1 < q.1 ∧ p.2 < q.2) → diffBy a b i j l = diffGo a b i j l
  | [], _, _, _, _ => rfl
  | p :: r, i, j, h0, hs => by
    obtain ⟨h1, h2⟩ := h0 0 p rfl rfl
    have ih := diffBy_eq (a := a) (b := b) r (p.1 + 1) (p.2 + 1) (fun k q hq hk => by
      subst hk
      have := hs 0 p q rfl (by simpa using hq)
      omega) fun k q s hq hsn => hs (k + 1) q s (by simpa using hq) (by simpa using hsn)
    unfold diffBy diffGo
    rw [ih]
    by_cases he : p.1 = i ∧ p.2 = j
    · rw [if_pos he, if_neg (by omega)]
    · rw [if_neg he, if_pos (by omega)]
end File
end Go.Proofs.YtekkhnjepcebkaaGreatDoor
namespace Go.Proofs.YtekkhnjepcebkaaGreatDoor
namespace File
theorem pairs_at {α : Type} [DecidableEq α] {a b : List α} : ∀ {l : List (Nat × Nat)} {i j k : Nat} {p : Nat × Nat}, Pairs a b i j l → l[k]? = some p → i ≤ p.1 ∧ j ≤ p.2 ∧ ∃ h1 : p.1 < a.length, ∃ h2 : p.2 < b.length, a[p.1] = b[p.2]
  | [], _, _, _, _, _, h => by simp at h
  | q :: r, i, j, 0, p, ⟨h1, h2, h3, _⟩, h => by
    simp at h; subst h; exact ⟨h1, h2, h3⟩
  | q :: r, i, j, k + 1, p, ⟨h1, h2, _, h4⟩, h => by
    obtain ⟨a1, a2, a3⟩ := pairs_at h4 (show r[k]? = some p by simpa using h)
    exact ⟨by omega, by omega, a3⟩
theorem pairs_next {α : Type} [DecidableEq α] {a b : List α} : ∀ {l : List (Nat × Nat)} {i j k : Nat} {p q : Nat × Nat}, Pairs a b i j l → l[k]? = some p → l[k + 1]? = some q → p.1 < q.1 ∧ p.2 < q.2
  | [], _, _, _, _, _, _, h, _ => by simp at h
  | x :: r, i, j, 0, p, q, ⟨_, _, _, h4⟩, h, h' => by
    simp at h; subst h
    obtain ⟨a1, a2, _⟩ := pairs_at h4 (show r[0]? = some q by simpa using h')
    exact ⟨by omega, by omega⟩
  | x :: r, i, j, k + 1, p, q, ⟨_, _, _, h4⟩, h, h' => pairs_next h4 (show r[k]? = some p by simpa using h) (show r[k + 1]? = some q by simpa using h')
end File
end Go.Proofs.YtekkhnjepcebkaaGreatDoor
namespace Go.Proofs.YtekkhnjepcebkaaGreatDoor
namespace File
/-- The change that keeps just some pairs. -/
def keep (a b : List ByteArray) (own : List (Nat × Nat)) : List (Edit ByteArray) := diffGo a b 0 0 (own ++ [(a.length, b.length)])
end File
namespace Fl
theorem ends_at {a b : List ByteArray} {L : List (Nat × Nat)} (hp : File.Pairs a b 0 0 L) {k : Nat} {p : Nat × Nat} (h : (L ++ [(a.length, b.length)])[k]? = some p) : p.1 ≤ a.length ∧ p.2 ≤ b.length := by
  by_cases hk : k < L.length
  · rw [List.getElem?_append_left hk] at h
    obtain ⟨_, _, g1, g2, _⟩ := File.pairs_at hp h
    omega
  · rw [List.getElem?_append_right (by omega)] at h
    have hk0 : k - L.length = 0 := by
      have := (List.getElem?_eq_some_iff.1 h).1
      simp at this
      omega
    rw [hk0] at h
    simp at h
    subst h
    exact ⟨Nat.le_refl _, Nat.le_refl _⟩
theorem ends_next {a b : List ByteArray} {L : List (Nat × Nat)} (hp : File.Pairs a b 0 0 L) {k : Nat} {p q : Nat × Nat} (h : (L ++ [(a.length, b.length)])[k]? = some p) (h' : (L ++ [(a.length, b.length)])[k + 1]? = some q) : p.1 < q.1 ∧ p.2 < q.2 := by
  by_cases hk : k + 1 < L.length
  · rw [List.getElem?_append_left (by omega)] at h
    rw [List.getElem?_append_left hk] at h'
    exact File.pairs_next hp h h'
  · have hk2 : k + 1 = L.length := by
      have := (List.getElem?_eq_some_iff.1 h').1
      simp at this
      omega
    rw [List.getElem?_append_left (by omega)] at h
    rw [List.getElem?_append_right (by omega), hk2, Nat.sub_self] at h'
    simp at h'
    subst h'
    obtain ⟨_, _, g3, g4, _⟩ := File.pairs_at hp h
    exact ⟨g3, g4⟩
end Fl
end Go.Proofs.YtekkhnjepcebkaaGreatDoor
end
section
namespace Go.Proofs.YtekkhnjepcebkaaGreatDoor
namespace File
set_option linter.unusedSectionVars false
section
variable {α : Type} [DecidableEq α]
/-- Whether two edits cover a position in common. -/
def meet (x y : Edit α) : Bool := decide (x.at_ ≤ y.at_ + y.old.length) && decide (y.at_ ≤ x.at_ + x.old.length)
end
end File
end Go.Proofs.YtekkhnjepcebkaaGreatDoor
end
section
namespace Go.Proofs.YtekkhnjepcebkaaGreatDoor
namespace Fl
open Go.RowKit
set_option maxRecDepth 100000
theorem tyEdR : SlTy Tryz.prog 48 121 3 := slTy_of (z := .agg #[iv 0, .slice none 0 0, .slice none 0 0]) (bytes := 56) Tryz.underlying48 (by kernel_rfl) rfl (by decide)
theorem cut_run' {A : Option Addr} {base : List ByteArray} {c i x : Nat} {w : World} (hc : base.length ≤ c) (hi : i ≤ x) (hx : x ≤ base.length) (hs : Sl strE w A base) :
    ∃ (X : Option Addr) (n : Nat) (ys : List ByteArray), ys = File.cut base i x ∧ ys.length ≤ base.length ∧ ys.length ≤ n ∧ Sl strE w X ys ∧ ∀ W : World, (Instr.slice 22 (.slice A base.length c) (some (iv (i : Int))) (some (iv (x : Int))) none).run Tryz.prog W = .ok (.slice X ys.length n) W := by
  refine ⟨cutA A c i 1, c - i, File.cut base i x, rfl, File.cut_len _ _ _, by rw [File.cut_length hx hi]; omega, Sl.cut hs hc hi hx, ?_⟩
  have h1 := run_cut strE tyStrs A base.length c i x hi (Nat.le_trans hx hc)
  rw [File.cut_length hx hi]
  exact h1
set_option maxHeartbeats 8000000 in
theorem rdiff_spec (A : Option Addr) (a : List ByteArray) (c : Nat) (A' : Option Addr) (b : List ByteArray) (c' : Nat) (w : World) (ha : a.length ≤ 24) (hb : b.length ≤ 24) (hac : a.length ≤ c) (hbc : b.length ≤ c') (hsa : Sl strE w A a) (hsb : Sl strE w A' b) :
    Calls Tryz.prog 27 #[.slice A a.length c, .slice A' b.length c'] w fun e w' => ∃ v, e = .returned v ∧ ∃ vs : List EdV, Own edE 121 w.heap.size w' v vs ∧ vs.map EdV.ed = File.diff a b ∧ (∀ r ∈ vs, EdOk w r) ∧ Below w.heap.size w w' := by
  have hp := File.common_pairs a b
  obtain ⟨L, hL⟩ : ∃ L, L = File.common a b := ⟨_, rfl⟩
  have hLl : L.length ≤ 24 := by rw [hL, File.common_length]; exact Nat.le_trans (File.lcs_most _ _) ha
  have HRC := Lib.hid (rcommon_spec A a c A' b c' w ha hb hac hbc hsa hsb)
  rw [← hL] at hp HRC
  obtain ⟨D, hD⟩ : ∃ D, D = File.diff a b := ⟨_, rfl⟩
  have hDB : File.diffBy a b 0 0 (L ++ [(a.length, b.length)]) = D := by
    rw [hD, File.diffBy_eq (a := a) (b := b) _ 0 0 (fun _ _ _ _ => ⟨Nat.zero_le _, Nat.zero_le _⟩) (fun k p q h h' => ends_next hp h h'), hL]
    rfl
  rw [← hD]
  obtain ⟨M, hM⟩ : ∃ M, M = L ++ [(a.length, b.length)] := ⟨_, rfl⟩
  have hMl : M.length = L.length + 1 := by rw [hM]; simp
  rw [← hM] at hDB
  have HAT : Hid (∀ (k : Nat) (p : Nat × Nat), M[k]? = some p → p.1 ≤ a.length ∧ p.2 ≤ b.length) := Lib.hid fun k p h => ends_at hp (by rw [← hM]; exact h)
  have HNX : Hid (∀ (k : Nat) (p q : Nat × Nat), M[k]? = some p → M[k + 1]? = some q → p.1 < q.1 ∧ p.2 < q.2) := Lib.hid fun k p q h h' => ends_next hp (by rw [← hM]; exact h) (by rw [← hM]; exact h')
  have HDB := Lib.hid hDB
  have HM := Lib.hid hM
  have hM25 : M.length ≤ 25 := by omega
  clear hD hDB hL hp hM
  go_enter Tryz.func27, Tryz.ntmps27
  go_wp2_with fail
  refine HRC.out.mono ?_
  rintro e w1 ⟨v1, rfl, ho1, hb1⟩
  clear HRC
  go_wp2_with (first
    | (at_builtin; refine wpApp1 pairE tyArr2 rfl _ _ rfl ho1 (a.length, b.length) rfl rfl rfl hb1.size (by unfold big; omega) ?_; intro v2 w2 hown2 hb2 hk2))
  have hb02 := hb1.trans hb2
  have ho2 : Own pairE 83 w.heap.size w2 v2 M := by rw [HM.out]; exact hown2
  obtain ⟨A6, c6, rfl, hc6, _⟩ := ho2.form
  have HO2 := Lib.hid ho2
  clear ho1 hown2 hb2 hk2 hb1 ho2 hLl hMl HM
  go_loopw [5, 7, 8, 9] (fun u v1 v2 v3 wr => ∃ (i j k : Nat) (out : List EdV), i ≤ 25 ∧ j ≤ 25 ∧ k ≤ M.length ∧ v1 = iv (i : Int) ∧ v2 = iv (j : Int) ∧ v3 = iv (k : Int) ∧ Hid (∀ p, M[k]? = some p → i ≤ p.1 ∧ j ≤ p.2) ∧ Hid (out.map EdV.ed ++ File.diffBy a b i j (M.drop k) = D) ∧ out.length ≤ k ∧ Hid (Own edE 121 w.heap.size wr u out) ∧ Hid (∀ r ∈ out, EdOk w r) ∧ Hid (Own pairE 83 w.heap.size wr (.slice A6 M.length c6) M) ∧ Below w.heap.size w wr) (fun _ _ _ v3 _ => M.length - (intOf v3).toNat)
  case atStart => exact ⟨0, 0, 0, [], by omega, by omega, Nat.zero_le _, rfl, rfl, rfl, Lib.hid (fun _ _ => ⟨Nat.zero_le _, Nat.zero_le _⟩), HDB, Nat.le_refl _, Own.nil, Lib.hid (fun _ h => by cases h), HO2, hb02⟩
  case round =>
    clear HDB HO2 hb02
    obtain ⟨i, j, k, out, hi, hj, hk, rfl, rfl, rfl, HP, HD, hol, HO, HE, HL, hbr⟩ := hrel
    by_cases hlt : k < M.length
    · have hki : (k : Int) < (M.length : Int) := by omega
      obtain ⟨bm, om, p, hAm, hbm, hpx, _, _⟩ := Sl.atPr HL.out.sl hlt
      subst hAm
      have HCP := Lib.hid (Sl.cellPr HL.out.sl hpx)
      obtain ⟨hpa, hpb⟩ := HAT.out k p hpx
      obtain ⟨hip, hjp⟩ := HP.out p hpx
      have hd := HD.out
      rw [drop_at hpx, File.diffBy] at hd
      have HD2 := Lib.hid hd
      have HP2 : Hid (∀ q, M[k + 1]? = some q → p.1 + 1 ≤ q.1 ∧ p.2 + 1 ≤ q.2) := Lib.hid fun q hq => HNX.out k p q hpx hq
      obtain ⟨p1, p2⟩ := p
      simp only at hpa hpb hip hjp HCP HD2 HP2
      have ewx : IntKind.i64.wrap ((p1 : Int) + 1) = (p1 : Int) + 1 := IntWalk.i64_in _ (by omega)
      have ewy : IntKind.i64.wrap ((p2 : Int) + 1) = (p2 : Int) + 1 := IntWalk.i64_in _ (by omega)
      have ewk : IntKind.i64.wrap ((k : Int) + 1) = (k : Int) + 1 := IntWalk.i64_in _ (by omega)
      obtain ⟨hc0, hc1⟩ := HCP.out wr (Below.refl _ _)
      have HPX := Lib.hid hpx
      clear hd HD HP hpx
      by_cases hij : i < p1 ∨ j < p2
      · have HDN : Hid ((out.map EdV.ed ++ [⟨(i : Int), File.cut a i p1, File.cut b j p2⟩]) ++ File.diffBy a b (p1 + 1) (p2 + 1) (M.drop (k + 1)) = D) := Lib.hid (by
          rw [← HD2.out, if_pos hij]; simp)
        obtain ⟨X1, n1, ya, hya, hyal, hyn, hsy, hC1⟩ := cut_run' (i := i) (x := p1) hac hip hpa (hsa.below hbr)
        obtain ⟨X2, n2, yb, hyb, hybl, hyn2, hsz, hC2⟩ := cut_run' (i := j) (x := p2) hbc hjp hpb (hsb.below hbr)
        obtain ⟨X1', n1', ya', hya', _, hyn', hsy', hC1'⟩ := cut_run' (i := i) (x := p1) hac hip hpa hsa
        obtain ⟨X2', n2', yb', hyb', _, hyn2', hsz', hC2'⟩ := cut_run' (i := j) (x := p2) hbc hjp hpb hsb
        have e1 := (hC1 wr).symm.trans (hC1' wr)
        have e2 := (hC2 wr).symm.trans (hC2' wr)
        have eya : ya' = ya := by rw [hya, hya']
        have eyb : yb' = yb := by rw [hyb, hyb']
        subst eya eyb
        injection e1 with e1 _
        injection e1 with e1 _ e1n
        injection e2 with e2 _
        injection e2 with e2 _ e2n
        subst e1 e1n e2 e2n
        obtain ⟨Y, hY⟩ : ∃ Y : EdV, Y = ⟨(i : Int), X1, n1, ya', X2, n2, yb'⟩ := ⟨_, rfl⟩
        have HYO : Hid (EdOk w Y) := Lib.hid (by rw [hY]; exact ⟨hsy', hsz', hyn, hyn2⟩)
        have HYE : Hid (Y.ed = ⟨(i : Int), File.cut a i p1, File.cut b j p2⟩) := Lib.hid (by rw [hY]; show File.Edit.mk _ _ _ = _; rw [hya, hyb])
        have HYC : Hid (([.int .i64 (i : Int), .slice X1 ya'.length n1, .slice X2 yb'.length n2] : List Value) = [Y].flatMap edE.cells) := Lib.hid (by rw [hY]; rfl)
        clear hya hyb hya' hyb' hsy hsz hsy' hsz' hY hC1' hC2' HD2
        -- the test
        have hT : (((p1 : Int) > (i : Int)) ∨ ¬ ((p1 : Int) > (i : Int)) ∧ ((p2 : Int) > (j : Int))) := by omega
        rcases hT with hx1 | ⟨hx1, hy1⟩
        all_goals
          go_upto_region 8 with fail
          refine wp_free_lit (by kernel_rfl) 20 (by kernel_rfl) (by kernel_rfl) (by decide) (fun nR x => Below wr.heap.size wr x) (fun x x' => Below x.heap.size x x')
            [fun _ u _ => u = u5,
             fun _ u _ => u = iv (i : Int),
             fun _ u _ => u = .slice A a.length c,
             fun _ u _ => u = iv (i : Int),
             fun _ u _ => u = .slice (some ⟨bm, om, none⟩) M.length c6,
             fun _ u _ => u = iv (k : Int),
             fun _ u _ => u = .pointer (some ⟨bm, om + k * 2, none⟩),
             fun _ u _ => u = .pointer (some ⟨bm, om + k * 2, none⟩),
             fun _ u _ => u = iv (p1 : Int),
             fun _ u _ => u = .slice X1 ya'.length n1,
             fun _ u _ => u = .slice A' b.length c',
             fun _ u _ => u = iv (j : Int),
             fun _ u _ => u = .slice (some ⟨bm, om, none⟩) M.length c6,
             fun _ u _ => u = iv (k : Int),
             fun _ u _ => u = .pointer (some ⟨bm, om + k * 2, none⟩),
             fun _ u _ => u = .pointer (some ⟨bm, om + k * 2 + 1, none⟩),
             fun _ u _ => u = iv (p2 : Int),
             fun _ u _ => u = .slice X2 yb'.length n2,
             fun _ u _ => u = .agg #[iv (i : Int), .slice X1 ya'.length n1, .slice X2 yb'.length n2],
             fun _ u x => ∃ A1, u = .slice A1 1 1 ∧ Sl edE x A1 [Y]]
            (Below.refl _ wr).drew ?_ ?_
          · simp only [List.take_succ_cons, List.take_zero, HopL]
            refine ⟨?_, ?_, ?_, ?_, ?_, ?_, ?_, ?_, ?_, ?_, ?_, ?_, ?_, ?_, ?_, ?_, ?_, ?_, ?_, ?_, trivial⟩
            · refine ⟨fun _ _ _ _ _ h => h, fun _ _ _ _ h _ => h, fun v nR x hnR hR hk => ?_⟩
              simp only [List.take_succ_cons, List.take_zero, frameF, Act.put, List.setIfInBounds_toArray, List.set_cons_zero, List.set_cons_succ]
              exact stepF_val (by first | rfl | simp [Region.wanted, yielded, *]) (by go_simp <;> omega) ⟨rfl, Below.refl _ _, hR⟩
            · refine ⟨fun _ _ _ _ _ h => h, fun _ _ _ _ h _ => h, fun v nR x hnR hR hk => ?_⟩
              simp only [List.take_succ_cons, List.take_zero, frameF, Act.put, List.setIfInBounds_toArray, List.set_cons_zero, List.set_cons_succ]
              exact stepF_val (by first | rfl | simp [Region.wanted, yielded, *]) (by go_simp <;> omega) ⟨rfl, Below.refl _ _, hR⟩
            · refine ⟨fun _ _ _ _ _ h => h, fun _ _ _ _ h _ => h, fun v nR x hnR hR hk => ?_⟩
              simp only [List.take_succ_cons, List.take_zero, frameF, Act.put, List.setIfInBounds_toArray, List.set_cons_zero, List.set_cons_succ]
              exact stepF_val (by first | rfl | simp [Region.wanted, yielded, *]) (by go_simp <;> omega) ⟨rfl, Below.refl _ _, hR⟩
            · refine ⟨fun _ _ _ _ _ h => h, fun _ _ _ _ h _ => h, fun v nR x hnR hR hk => ?_⟩
              simp only [List.take_succ_cons, List.take_zero, frameF, Act.put, List.setIfInBounds_toArray, List.set_cons_zero, List.set_cons_succ]
              exact stepF_val (by first | rfl | simp [Region.wanted, yielded, *]) (by go_simp <;> omega) ⟨rfl, Below.refl _ _, hR⟩
            · refine ⟨fun _ _ _ _ _ h => h, fun _ _ _ _ h _ => h, fun v nR x hnR hR hk => ?_⟩
              simp only [List.take_succ_cons, List.take_zero, frameF, Act.put, List.setIfInBounds_toArray, List.set_cons_zero, List.set_cons_succ]
              exact stepF_val (by first | rfl | simp [Region.wanted, yielded, *]) (by go_simp <;> omega) ⟨rfl, Below.refl _ _, hR⟩
            · refine ⟨fun _ _ _ _ _ h => h, fun _ _ _ _ h _ => h, fun v nR x hnR hR hk => ?_⟩
              simp only [List.take_succ_cons, List.take_zero, frameF, Act.put, List.setIfInBounds_toArray, List.set_cons_zero, List.set_cons_succ]
              exact stepF_val (by first | rfl | simp [Region.wanted, yielded, *]) (by go_simp <;> omega) ⟨rfl, Below.refl _ _, hR⟩
            · refine ⟨fun _ _ _ _ _ h => h, fun _ _ _ _ h _ => h, fun v nR x hnR hR hk => ?_⟩
              have h4 : v 4 = .slice (some ⟨bm, om, none⟩) M.length c6 := hk 4 (by kernel_rfl)
              have h5 : v 5 = iv (k : Int) := hk 5 (by kernel_rfl)
              simp only [List.take_succ_cons, List.take_zero, frameF, Act.put, List.setIfInBounds_toArray, List.set_cons_zero, List.set_cons_succ]
              exact stepF_val (by first | rfl | simp [Region.wanted, yielded, *]) (by go_simp <;> omega) ⟨rfl, Below.refl _ _, hR⟩
            · refine ⟨fun _ _ _ _ _ h => h, fun _ _ _ _ h _ => h, fun v nR x hnR hR hk => ?_⟩
              have h6 : v 6 = .pointer (some ⟨bm, om + k * 2, none⟩) := hk 6 (by kernel_rfl)
              simp only [List.take_succ_cons, List.take_zero, frameF, Act.put, List.setIfInBounds_toArray, List.set_cons_zero, List.set_cons_succ]
              exact stepF_val (by first | rfl | simp [Region.wanted, yielded, *]) (by go_simp <;> omega) ⟨rfl, Below.refl _ _, hR⟩
            · refine ⟨fun _ _ _ _ _ h => h, fun _ _ _ _ h _ => h, fun v nR x hnR hR hk => ?_⟩
              have h7 : v 7 = .pointer (some ⟨bm, om + k * 2, none⟩) := hk 7 (by kernel_rfl)
              have g1 := (HCP.out _ hR).1
              simp only [List.take_succ_cons, List.take_zero, frameF, Act.put, List.setIfInBounds_toArray, List.set_cons_zero, List.set_cons_succ]
              exact stepF_val (by first | rfl | simp [Region.wanted, yielded, *]) (by go_simp <;> omega) ⟨rfl, Below.refl _ _, hR⟩
            · refine ⟨fun _ _ _ _ _ h => h, fun _ _ _ _ h _ => h, fun v nR x hnR hR hk => ?_⟩
              have h2 : v 2 = .slice A a.length c := hk 2 (by kernel_rfl)
              have h3 : v 3 = iv (i : Int) := hk 3 (by kernel_rfl)
              have h8 : v 8 = iv (p1 : Int) := hk 8 (by kernel_rfl)
              simp only [List.take_succ_cons, List.take_zero, frameF, Act.put, List.setIfInBounds_toArray, List.set_cons_zero, List.set_cons_succ]
              exact stepF_val (by first | rfl | simp [Region.wanted, yielded, *]) (by go_simp <;> omega) ⟨rfl, Below.refl _ _, hR⟩
            · refine ⟨fun _ _ _ _ _ h => h, fun _ _ _ _ h _ => h, fun v nR x hnR hR hk => ?_⟩
              simp only [List.take_succ_cons, List.take_zero, frameF, Act.put, List.setIfInBounds_toArray, List.set_cons_zero, List.set_cons_succ]
              exact stepF_val (by first | rfl | simp [Region.wanted, yielded, *]) (by go_simp <;> omega) ⟨rfl, Below.refl _ _, hR⟩
            · refine ⟨fun _ _ _ _ _ h => h, fun _ _ _ _ h _ => h, fun v nR x hnR hR hk => ?_⟩
              simp only [List.take_succ_cons, List.take_zero, frameF, Act.put, List.setIfInBounds_toArray, List.set_cons_zero, List.set_cons_succ]
              exact stepF_val (by first | rfl | simp [Region.wanted, yielded, *]) (by go_simp <;> omega) ⟨rfl, Below.refl _ _, hR⟩
            · refine ⟨fun _ _ _ _ _ h => h, fun _ _ _ _ h _ => h, fun v nR x hnR hR hk => ?_⟩
              simp only [List.take_succ_cons, List.take_zero, frameF, Act.put, List.setIfInBounds_toArray, List.set_cons_zero, List.set_cons_succ]
              exact stepF_val (by first | rfl | simp [Region.wanted, yielded, *]) (by go_simp <;> omega) ⟨rfl, Below.refl _ _, hR⟩
            · refine ⟨fun _ _ _ _ _ h => h, fun _ _ _ _ h _ => h, fun v nR x hnR hR hk => ?_⟩
              simp only [List.take_succ_cons, List.take_zero, frameF, Act.put, List.setIfInBounds_toArray, List.set_cons_zero, List.set_cons_succ]
              exact stepF_val (by first | rfl | simp [Region.wanted, yielded, *]) (by go_simp <;> omega) ⟨rfl, Below.refl _ _, hR⟩
            · refine ⟨fun _ _ _ _ _ h => h, fun _ _ _ _ h _ => h, fun v nR x hnR hR hk => ?_⟩
              have h12 : v 12 = .slice (some ⟨bm, om, none⟩) M.length c6 := hk 12 (by kernel_rfl)
              have h13 : v 13 = iv (k : Int) := hk 13 (by kernel_rfl)
              simp only [List.take_succ_cons, List.take_zero, frameF, Act.put, List.setIfInBounds_toArray, List.set_cons_zero, List.set_cons_succ]
              exact stepF_val (by first | rfl | simp [Region.wanted, yielded, *]) (by go_simp <;> omega) ⟨rfl, Below.refl _ _, hR⟩
            · refine ⟨fun _ _ _ _ _ h => h, fun _ _ _ _ h _ => h, fun v nR x hnR hR hk => ?_⟩
              have h14 : v 14 = .pointer (some ⟨bm, om + k * 2, none⟩) := hk 14 (by kernel_rfl)
              simp only [List.take_succ_cons, List.take_zero, frameF, Act.put, List.setIfInBounds_toArray, List.set_cons_zero, List.set_cons_succ]
              exact stepF_val (by first | rfl | simp [Region.wanted, yielded, *]) (by go_simp <;> omega) ⟨rfl, Below.refl _ _, hR⟩
            · refine ⟨fun _ _ _ _ _ h => h, fun _ _ _ _ h _ => h, fun v nR x hnR hR hk => ?_⟩
              have h15 : v 15 = .pointer (some ⟨bm, om + k * 2 + 1, none⟩) := hk 15 (by kernel_rfl)
              have g1 := (HCP.out _ hR).2
              simp only [List.take_succ_cons, List.take_zero, frameF, Act.put, List.setIfInBounds_toArray, List.set_cons_zero, List.set_cons_succ]
              exact stepF_val (by first | rfl | simp [Region.wanted, yielded, *]) (by go_simp <;> omega) ⟨rfl, Below.refl _ _, hR⟩
            · refine ⟨fun _ _ _ _ _ h => h, fun _ _ _ _ h _ => h, fun v nR x hnR hR hk => ?_⟩
              have h10 : v 10 = .slice A' b.length c' := hk 10 (by kernel_rfl)
              have h11 : v 11 = iv (j : Int) := hk 11 (by kernel_rfl)
              have h16 : v 16 = iv (p2 : Int) := hk 16 (by kernel_rfl)
              simp only [List.take_succ_cons, List.take_zero, frameF, Act.put, List.setIfInBounds_toArray, List.set_cons_zero, List.set_cons_succ]
              exact stepF_val (by first | rfl | simp [Region.wanted, yielded, *]) (by go_simp <;> omega) ⟨rfl, Below.refl _ _, hR⟩
            · refine ⟨fun _ _ _ _ _ h => h, fun _ _ _ _ h _ => h, fun v nR x hnR hR hk => ?_⟩
              have h1 : v 1 = iv (i : Int) := hk 1 (by kernel_rfl)
              have h9 : v 9 = .slice X1 ya'.length n1 := hk 9 (by kernel_rfl)
              have h17 : v 17 = .slice X2 yb'.length n2 := hk 17 (by kernel_rfl)
              simp only [List.take_succ_cons, List.take_zero, frameF, Act.put, List.setIfInBounds_toArray, List.set_cons_zero, List.set_cons_succ]
              exact stepF_val (by first | rfl | simp [Region.wanted, yielded, *]) (by go_simp <;> omega) ⟨rfl, Below.refl _ _, hR⟩
            · refine ⟨fun _ _ _ _ _ h => h, fun _ _ _ _ h hS => (by obtain ⟨A1, e0, o1⟩ := h; exact ⟨A1, e0, o1.below hS⟩), fun v nR x hnR hR hk => ?_⟩
              have h18 : v 18 = .agg #[iv (i : Int), .slice X1 ya'.length n1, .slice X2 yb'.length n2] := hk 18 (by kernel_rfl)
              simp only [List.take_succ_cons, List.take_zero, frameF, Act.put, List.setIfInBounds_toArray, List.set_cons_zero, List.set_cons_succ]
              exact stepF_new (u := .slice (some ⟨x.heap.size, 0, none⟩) 1 1) (w' := x.alloc (.cells #[iv (i : Int), .slice X1 ya'.length n1, .slice X2 yb'.length n2] 121)) (by rfl) (by go_simp) ⟨⟨_, rfl, Sl.fresh edE x _ _ [Y] HYC.out (by simp [maxLen])⟩, (Below.refl _ _).alloc (Nat.le_refl _) _, hR.alloc hR.size _⟩
          · intro v nR x1 hnR hR hall
            have h0 : v 0 = u5 := hall 0 (by decide)
            obtain ⟨A1, h19, o1⟩ := hall 19 (by decide)
            clear hall hnR
            simp only [List.drop_succ_cons, List.drop_zero, List.take_succ_cons, List.take_zero, frameF, Act.put, List.setIfInBounds_toArray, List.set_cons_zero, List.set_cons_succ, Nat.zero_add, Nat.reduceAdd, h0, h19]
            have hb0x := hbr.next hR (Nat.le_refl _)
            have HO1 := Lib.hid (HO.out.below hR)
            have HL1 := Lib.hid (HL.out.below hR)
            go_wp2_with (at_builtin; refine wpAppS edE tyEdR rfl _ _ rfl HO1.out o1 rfl rfl hb0x.size (by simp; unfold big; omega) ?_; intro v3 w3 hown3 hb3 hk3)
            have HL3 : Hid (Own pairE 83 w.heap.size w3 (.slice (some ⟨bm, om, none⟩) M.length c6) M) := Lib.hid (HL1.out.keep hb3.size fun g hg => hk3 g (HL1.out.lt g hg).2 (fun hv => Own.two HO1.out HL1.out (by decide) hv hg))
            have HC3 : Hid (∀ W, Below w3.heap.size w3 W → W.cell? ⟨bm, om + k * 2, none⟩ = some (iv (p1 : Int)) ∧ W.cell? ⟨bm, om + k * 2 + 1, none⟩ = some (iv (p2 : Int))) := Lib.hid fun W h => by
              have hpx : M[k]? = some (p1, p2) := HPX.out
              exact Sl.cellPr HL3.out.sl hpx W h
            have HO3 := Lib.hid hown3
            have hb03 := hb0x.trans hb3
            have HE3 : Hid (∀ r ∈ out ++ [Y], EdOk w r) := Lib.hid fun r hr => by
              rcases List.mem_append.1 hr with hr | hr
              · exact HE.out r hr
              · rw [List.mem_singleton.1 hr]; exact HYO.out
            have HDM : Hid ((out ++ [Y]).map EdV.ed ++ File.diffBy a b (p1 + 1) (p2 + 1) (M.drop (k + 1)) = D) := Lib.hid (by rw [← HDN.out, List.map_append, List.map_cons, List.map_nil, HYE.out])
            clear hown3 hk3 hb3 HO1 HL1 hc0 hc1 HYC HDN hC1 hC2
            go_upto_region 9 with fail
            refine wp_free_lit (by kernel_rfl) 14 (by kernel_rfl) (by kernel_rfl) (by decide) (fun nR x => Below w3.heap.size w3 x) (fun x x' => Below x.heap.size x x')
              [fun _ u _ => u = .slice (some ⟨bm, om, none⟩) M.length c6,
               fun _ u _ => u = iv (k : Int),
               fun _ u _ => u = .pointer (some ⟨bm, om + k * 2, none⟩),
               fun _ u _ => u = .pointer (some ⟨bm, om + k * 2, none⟩),
               fun _ u _ => u = iv (p1 : Int),
               fun _ u _ => u = iv ((p1 : Int) + 1),
               fun _ u _ => u = .slice (some ⟨bm, om, none⟩) M.length c6,
               fun _ u _ => u = iv (k : Int),
               fun _ u _ => u = .pointer (some ⟨bm, om + k * 2, none⟩),
               fun _ u _ => u = .pointer (some ⟨bm, om + k * 2 + 1, none⟩),
               fun _ u _ => u = iv (p2 : Int),
               fun _ u _ => u = iv ((p2 : Int) + 1),
               fun _ u _ => u = iv ((p1 : Int) + 1),
               fun _ u _ => u = iv ((p2 : Int) + 1)]
              (Below.refl _ w3).drew ?_ ?_
            · simp only [List.take_succ_cons, List.take_zero, HopL]
              refine ⟨?_, ?_, ?_, ?_, ?_, ?_, ?_, ?_, ?_, ?_, ?_, ?_, ?_, ?_, trivial⟩
              · refine ⟨fun _ _ _ _ _ h => h, fun _ _ _ _ h _ => h, fun v nR x hnR hR hk => ?_⟩
                simp only [List.take_succ_cons, List.take_zero, frameF, Act.put, List.setIfInBounds_toArray, List.set_cons_zero, List.set_cons_succ]
                exact stepF_val (by first | rfl | simp [Region.wanted, yielded, *]) (by go_simp <;> omega) ⟨rfl, Below.refl _ _, hR⟩
              · refine ⟨fun _ _ _ _ _ h => h, fun _ _ _ _ h _ => h, fun v nR x hnR hR hk => ?_⟩
                simp only [List.take_succ_cons, List.take_zero, frameF, Act.put, List.setIfInBounds_toArray, List.set_cons_zero, List.set_cons_succ]
                exact stepF_val (by first | rfl | simp [Region.wanted, yielded, *]) (by go_simp <;> omega) ⟨rfl, Below.refl _ _, hR⟩
              · refine ⟨fun _ _ _ _ _ h => h, fun _ _ _ _ h _ => h, fun v nR x hnR hR hk => ?_⟩
                have h0 : v 0 = .slice (some ⟨bm, om, none⟩) M.length c6 := hk 0 (by kernel_rfl)
                have h1 : v 1 = iv (k : Int) := hk 1 (by kernel_rfl)
                simp only [List.take_succ_cons, List.take_zero, frameF, Act.put, List.setIfInBounds_toArray, List.set_cons_zero, List.set_cons_succ]
                exact stepF_val (by first | rfl | simp [Region.wanted, yielded, *]) (by go_simp <;> omega) ⟨rfl, Below.refl _ _, hR⟩
              · refine ⟨fun _ _ _ _ _ h => h, fun _ _ _ _ h _ => h, fun v nR x hnR hR hk => ?_⟩
                have h2 : v 2 = .pointer (some ⟨bm, om + k * 2, none⟩) := hk 2 (by kernel_rfl)
                simp only [List.take_succ_cons, List.take_zero, frameF, Act.put, List.setIfInBounds_toArray, List.set_cons_zero, List.set_cons_succ]
                exact stepF_val (by first | rfl | simp [Region.wanted, yielded, *]) (by go_simp <;> omega) ⟨rfl, Below.refl _ _, hR⟩
              · refine ⟨fun _ _ _ _ _ h => h, fun _ _ _ _ h _ => h, fun v nR x hnR hR hk => ?_⟩
                have h3 : v 3 = .pointer (some ⟨bm, om + k * 2, none⟩) := hk 3 (by kernel_rfl)
                have g1 := (HC3.out x hR).1
                simp only [List.take_succ_cons, List.take_zero, frameF, Act.put, List.setIfInBounds_toArray, List.set_cons_zero, List.set_cons_succ]
                exact stepF_val (by first | rfl | simp [Region.wanted, yielded, *]) (by go_simp <;> omega) ⟨rfl, Below.refl _ _, hR⟩
              · refine ⟨fun _ _ _ _ _ h => h, fun _ _ _ _ h _ => h, fun v nR x hnR hR hk => ?_⟩
                have h4 : v 4 = iv (p1 : Int) := hk 4 (by kernel_rfl)
                simp only [List.take_succ_cons, List.take_zero, frameF, Act.put, List.setIfInBounds_toArray, List.set_cons_zero, List.set_cons_succ]
                exact stepF_val (by first | rfl | simp [Region.wanted, yielded, *]) (by go_simp <;> omega) ⟨rfl, Below.refl _ _, hR⟩
              · refine ⟨fun _ _ _ _ _ h => h, fun _ _ _ _ h _ => h, fun v nR x hnR hR hk => ?_⟩
                simp only [List.take_succ_cons, List.take_zero, frameF, Act.put, List.setIfInBounds_toArray, List.set_cons_zero, List.set_cons_succ]
                exact stepF_val (by first | rfl | simp [Region.wanted, yielded, *]) (by go_simp <;> omega) ⟨rfl, Below.refl _ _, hR⟩
              · refine ⟨fun _ _ _ _ _ h => h, fun _ _ _ _ h _ => h, fun v nR x hnR hR hk => ?_⟩
                simp only [List.take_succ_cons, List.take_zero, frameF, Act.put, List.setIfInBounds_toArray, List.set_cons_zero, List.set_cons_succ]
                exact stepF_val (by first | rfl | simp [Region.wanted, yielded, *]) (by go_simp <;> omega) ⟨rfl, Below.refl _ _, hR⟩
              · refine ⟨fun _ _ _ _ _ h => h, fun _ _ _ _ h _ => h, fun v nR x hnR hR hk => ?_⟩
                have h6 : v 6 = .slice (some ⟨bm, om, none⟩) M.length c6 := hk 6 (by kernel_rfl)
                have h7 : v 7 = iv (k : Int) := hk 7 (by kernel_rfl)
                simp only [List.take_succ_cons, List.take_zero, frameF, Act.put, List.setIfInBounds_toArray, List.set_cons_zero, List.set_cons_succ]
                exact stepF_val (by first | rfl | simp [Region.wanted, yielded, *]) (by go_simp <;> omega) ⟨rfl, Below.refl _ _, hR⟩
              · refine ⟨fun _ _ _ _ _ h => h, fun _ _ _ _ h _ => h, fun v nR x hnR hR hk => ?_⟩
                have h8 : v 8 = .pointer (some ⟨bm, om + k * 2, none⟩) := hk 8 (by kernel_rfl)
                simp only [List.take_succ_cons, List.take_zero, frameF, Act.put, List.setIfInBounds_toArray, List.set_cons_zero, List.set_cons_succ]
                exact stepF_val (by first | rfl | simp [Region.wanted, yielded, *]) (by go_simp <;> omega) ⟨rfl, Below.refl _ _, hR⟩
              · refine ⟨fun _ _ _ _ _ h => h, fun _ _ _ _ h _ => h, fun v nR x hnR hR hk => ?_⟩
                have h9 : v 9 = .pointer (some ⟨bm, om + k * 2 + 1, none⟩) := hk 9 (by kernel_rfl)
                have g1 := (HC3.out x hR).2
                simp only [List.take_succ_cons, List.take_zero, frameF, Act.put, List.setIfInBounds_toArray, List.set_cons_zero, List.set_cons_succ]
                exact stepF_val (by first | rfl | simp [Region.wanted, yielded, *]) (by go_simp <;> omega) ⟨rfl, Below.refl _ _, hR⟩
              · refine ⟨fun _ _ _ _ _ h => h, fun _ _ _ _ h _ => h, fun v nR x hnR hR hk => ?_⟩
                have h10 : v 10 = iv (p2 : Int) := hk 10 (by kernel_rfl)
                simp only [List.take_succ_cons, List.take_zero, frameF, Act.put, List.setIfInBounds_toArray, List.set_cons_zero, List.set_cons_succ]
                exact stepF_val (by first | rfl | simp [Region.wanted, yielded, *]) (by go_simp <;> omega) ⟨rfl, Below.refl _ _, hR⟩
              · refine ⟨fun _ _ _ _ _ h => h, fun _ _ _ _ h _ => h, fun v nR x hnR hR hk => ?_⟩
                have h5 : v 5 = iv ((p1 : Int) + 1) := hk 5 (by kernel_rfl)
                simp only [List.take_succ_cons, List.take_zero, frameF, Act.put, List.setIfInBounds_toArray, List.set_cons_zero, List.set_cons_succ]
                exact stepF_val (by first | rfl | simp [Region.wanted, yielded, *]) (by go_simp <;> omega) ⟨rfl, Below.refl _ _, hR⟩
              · refine ⟨fun _ _ _ _ _ h => h, fun _ _ _ _ h _ => h, fun v nR x hnR hR hk => ?_⟩
                have h11 : v 11 = iv ((p2 : Int) + 1) := hk 11 (by kernel_rfl)
                simp only [List.take_succ_cons, List.take_zero, frameF, Act.put, List.setIfInBounds_toArray, List.set_cons_zero, List.set_cons_succ]
                exact stepF_val (by first | rfl | simp [Region.wanted, yielded, *]) (by go_simp <;> omega) ⟨rfl, Below.refl _ _, hR⟩
            · intro v nR x4 hnR hR hall
              have h12 : v 12 = iv ((p1 : Int) + 1) := hall 12 (by decide)
              have h13 : v 13 = iv ((p2 : Int) + 1) := hall 13 (by decide)
              clear hall hnR
              simp only [List.drop_succ_cons, List.drop_zero, List.take_succ_cons, List.take_zero, frameF, Act.put, List.setIfInBounds_toArray, List.set_cons_zero, List.set_cons_succ, Nat.zero_add, Nat.reduceAdd, h12, h13]
              have hb04 := hb03.next hR (Nat.le_refl _)
              have HO4 := Lib.hid (HO3.out.below hR)
              have HL4 := Lib.hid (HL3.out.below hR)
              go_wp2_with fail
              go_roundw
              case rel => exact ⟨p1 + 1, p2 + 1, k + 1, _, by omega, by omega, by omega, by go_num, by go_num, by go_num, HP2, HDM, by simp; omega, HO4, HE3, HL4, hb04⟩
              case measure => simp [intOf]; omega
      · have hx1 : ¬ ((p1 : Int) > (i : Int)) := by omega
        have hy1 : ¬ ((p2 : Int) > (j : Int)) := by omega
        have HDM : Hid (out.map EdV.ed ++ File.diffBy a b (p1 + 1) (p2 + 1) (M.drop (k + 1)) = D) := Lib.hid (by rw [← HD2.out, if_neg hij]; simp)
        clear HD2
        go_upto_region 9 with fail
        refine wp_free_lit (by kernel_rfl) 14 (by kernel_rfl) (by kernel_rfl) (by decide) (fun nR x => Below wr.heap.size wr x) (fun x x' => Below x.heap.size x x')
          [fun _ u _ => u = .slice (some ⟨bm, om, none⟩) M.length c6,
           fun _ u _ => u = iv (k : Int),
           fun _ u _ => u = .pointer (some ⟨bm, om + k * 2, none⟩),
           fun _ u _ => u = .pointer (some ⟨bm, om + k * 2, none⟩),
           fun _ u _ => u = iv (p1 : Int),
           fun _ u _ => u = iv ((p1 : Int) + 1),
           fun _ u _ => u = .slice (some ⟨bm, om, none⟩) M.length c6,
           fun _ u _ => u = iv (k : Int),
           fun _ u _ => u = .pointer (some ⟨bm, om + k * 2, none⟩),
           fun _ u _ => u = .pointer (some ⟨bm, om + k * 2 + 1, none⟩),
           fun _ u _ => u = iv (p2 : Int),
           fun _ u _ => u = iv ((p2 : Int) + 1),
           fun _ u _ => u = iv ((p1 : Int) + 1),
           fun _ u _ => u = iv ((p2 : Int) + 1)]
          (Below.refl _ wr).drew ?_ ?_
        · simp only [List.take_succ_cons, List.take_zero, HopL]
          refine ⟨?_, ?_, ?_, ?_, ?_, ?_, ?_, ?_, ?_, ?_, ?_, ?_, ?_, ?_, trivial⟩
          · refine ⟨fun _ _ _ _ _ h => h, fun _ _ _ _ h _ => h, fun v nR x hnR hR hk => ?_⟩
            simp only [List.take_succ_cons, List.take_zero, frameF, Act.put, List.setIfInBounds_toArray, List.set_cons_zero, List.set_cons_succ]
            exact stepF_val (by first | rfl | simp [Region.wanted, yielded, *]) (by go_simp <;> omega) ⟨rfl, Below.refl _ _, hR⟩
          · refine ⟨fun _ _ _ _ _ h => h, fun _ _ _ _ h _ => h, fun v nR x hnR hR hk => ?_⟩
            simp only [List.take_succ_cons, List.take_zero, frameF, Act.put, List.setIfInBounds_toArray, List.set_cons_zero, List.set_cons_succ]
            exact stepF_val (by first | rfl | simp [Region.wanted, yielded, *]) (by go_simp <;> omega) ⟨rfl, Below.refl _ _, hR⟩
          · refine ⟨fun _ _ _ _ _ h => h, fun _ _ _ _ h _ => h, fun v nR x hnR hR hk => ?_⟩
            have h0 : v 0 = .slice (some ⟨bm, om, none⟩) M.length c6 := hk 0 (by kernel_rfl)
            have h1 : v 1 = iv (k : Int) := hk 1 (by kernel_rfl)
            simp only [List.take_succ_cons, List.take_zero, frameF, Act.put, List.setIfInBounds_toArray, List.set_cons_zero, List.set_cons_succ]
            exact stepF_val (by first | rfl | simp [Region.wanted, yielded, *]) (by go_simp <;> omega) ⟨rfl, Below.refl _ _, hR⟩
          · refine ⟨fun _ _ _ _ _ h => h, fun _ _ _ _ h _ => h, fun v nR x hnR hR hk => ?_⟩
            have h2 : v 2 = .pointer (some ⟨bm, om + k * 2, none⟩) := hk 2 (by kernel_rfl)
            simp only [List.take_succ_cons, List.take_zero, frameF, Act.put, List.setIfInBounds_toArray, List.set_cons_zero, List.set_cons_succ]
            exact stepF_val (by first | rfl | simp [Region.wanted, yielded, *]) (by go_simp <;> omega) ⟨rfl, Below.refl _ _, hR⟩
          · refine ⟨fun _ _ _ _ _ h => h, fun _ _ _ _ h _ => h, fun v nR x hnR hR hk => ?_⟩
            have h3 : v 3 = .pointer (some ⟨bm, om + k * 2, none⟩) := hk 3 (by kernel_rfl)
            have g1 := (HCP.out x hR).1
            simp only [List.take_succ_cons, List.take_zero, frameF, Act.put, List.setIfInBounds_toArray, List.set_cons_zero, List.set_cons_succ]
            exact stepF_val (by first | rfl | simp [Region.wanted, yielded, *]) (by go_simp <;> omega) ⟨rfl, Below.refl _ _, hR⟩
          · refine ⟨fun _ _ _ _ _ h => h, fun _ _ _ _ h _ => h, fun v nR x hnR hR hk => ?_⟩
            have h4 : v 4 = iv (p1 : Int) := hk 4 (by kernel_rfl)
            simp only [List.take_succ_cons, List.take_zero, frameF, Act.put, List.setIfInBounds_toArray, List.set_cons_zero, List.set_cons_succ]
            exact stepF_val (by first | rfl | simp [Region.wanted, yielded, *]) (by go_simp <;> omega) ⟨rfl, Below.refl _ _, hR⟩
          · refine ⟨fun _ _ _ _ _ h => h, fun _ _ _ _ h _ => h, fun v nR x hnR hR hk => ?_⟩
            simp only [List.take_succ_cons, List.take_zero, frameF, Act.put, List.setIfInBounds_toArray, List.set_cons_zero, List.set_cons_succ]
            exact stepF_val (by first | rfl | simp [Region.wanted, yielded, *]) (by go_simp <;> omega) ⟨rfl, Below.refl _ _, hR⟩
          · refine ⟨fun _ _ _ _ _ h => h, fun _ _ _ _ h _ => h, fun v nR x hnR hR hk => ?_⟩
            simp only [List.take_succ_cons, List.take_zero, frameF, Act.put, List.setIfInBounds_toArray, List.set_cons_zero, List.set_cons_succ]
            exact stepF_val (by first | rfl | simp [Region.wanted, yielded, *]) (by go_simp <;> omega) ⟨rfl, Below.refl _ _, hR⟩
          · refine ⟨fun _ _ _ _ _ h => h, fun _ _ _ _ h _ => h, fun v nR x hnR hR hk => ?_⟩
            have h6 : v 6 = .slice (some ⟨bm, om, none⟩) M.length c6 := hk 6 (by kernel_rfl)
            have h7 : v 7 = iv (k : Int) := hk 7 (by kernel_rfl)
            simp only [List.take_succ_cons, List.take_zero, frameF, Act.put, List.setIfInBounds_toArray, List.set_cons_zero, List.set_cons_succ]
            exact stepF_val (by first | rfl | simp [Region.wanted, yielded, *]) (by go_simp <;> omega) ⟨rfl, Below.refl _ _, hR⟩
          · refine ⟨fun _ _ _ _ _ h => h, fun _ _ _ _ h _ => h, fun v nR x hnR hR hk => ?_⟩
            have h8 : v 8 = .pointer (some ⟨bm, om + k * 2, none⟩) := hk 8 (by kernel_rfl)
            simp only [List.take_succ_cons, List.take_zero, frameF, Act.put, List.setIfInBounds_toArray, List.set_cons_zero, List.set_cons_succ]
            exact stepF_val (by first | rfl | simp [Region.wanted, yielded, *]) (by go_simp <;> omega) ⟨rfl, Below.refl _ _, hR⟩
          · refine ⟨fun _ _ _ _ _ h => h, fun _ _ _ _ h _ => h, fun v nR x hnR hR hk => ?_⟩
            have h9 : v 9 = .pointer (some ⟨bm, om + k * 2 + 1, none⟩) := hk 9 (by kernel_rfl)
            have g1 := (HCP.out x hR).2
            simp only [List.take_succ_cons, List.take_zero, frameF, Act.put, List.setIfInBounds_toArray, List.set_cons_zero, List.set_cons_succ]
            exact stepF_val (by first | rfl | simp [Region.wanted, yielded, *]) (by go_simp <;> omega) ⟨rfl, Below.refl _ _, hR⟩
          · refine ⟨fun _ _ _ _ _ h => h, fun _ _ _ _ h _ => h, fun v nR x hnR hR hk => ?_⟩
            have h10 : v 10 = iv (p2 : Int) := hk 10 (by kernel_rfl)
            simp only [List.take_succ_cons, List.take_zero, frameF, Act.put, List.setIfInBounds_toArray, List.set_cons_zero, List.set_cons_succ]
            exact stepF_val (by first | rfl | simp [Region.wanted, yielded, *]) (by go_simp <;> omega) ⟨rfl, Below.refl _ _, hR⟩
          · refine ⟨fun _ _ _ _ _ h => h, fun _ _ _ _ h _ => h, fun v nR x hnR hR hk => ?_⟩
            have h5 : v 5 = iv ((p1 : Int) + 1) := hk 5 (by kernel_rfl)
            simp only [List.take_succ_cons, List.take_zero, frameF, Act.put, List.setIfInBounds_toArray, List.set_cons_zero, List.set_cons_succ]
            exact stepF_val (by first | rfl | simp [Region.wanted, yielded, *]) (by go_simp <;> omega) ⟨rfl, Below.refl _ _, hR⟩
          · refine ⟨fun _ _ _ _ _ h => h, fun _ _ _ _ h _ => h, fun v nR x hnR hR hk => ?_⟩
            have h11 : v 11 = iv ((p2 : Int) + 1) := hk 11 (by kernel_rfl)
            simp only [List.take_succ_cons, List.take_zero, frameF, Act.put, List.setIfInBounds_toArray, List.set_cons_zero, List.set_cons_succ]
            exact stepF_val (by first | rfl | simp [Region.wanted, yielded, *]) (by go_simp <;> omega) ⟨rfl, Below.refl _ _, hR⟩
        · intro v nR x4 hnR hR hall
          have h12 : v 12 = iv ((p1 : Int) + 1) := hall 12 (by decide)
          have h13 : v 13 = iv ((p2 : Int) + 1) := hall 13 (by decide)
          clear hall hnR
          simp only [List.drop_succ_cons, List.drop_zero, List.take_succ_cons, List.take_zero, frameF, Act.put, List.setIfInBounds_toArray, List.set_cons_zero, List.set_cons_succ, Nat.zero_add, Nat.reduceAdd, h12, h13]
          have hb04 := hbr.next hR (Nat.le_refl _)
          have HO4 := Lib.hid (HO.out.below hR)
          have HL4 := Lib.hid (HL.out.below hR)
          go_wp2_with fail
          go_roundw
          case rel => exact ⟨p1 + 1, p2 + 1, k + 1, _, by omega, by omega, by omega, by go_num, by go_num, by go_num, HP2, HDM, by omega, HO4, HE, HL4, hb04⟩
          case measure => simp [intOf]; omega
    · have hki : ¬ (k : Int) < (M.length : Int) := by omega
      have hd := HD.out
      rw [List.drop_eq_nil_of_le (by omega), File.diffBy, List.append_nil] at hd
      have HD2 := Lib.hid hd
      clear hd HD HL HP
      go_wp2_with fail
      go_ret
      exact ⟨_, rfl, out, HO.out, HD2.out, HE.out, hbr⟩
end Fl
end Go.Proofs.YtekkhnjepcebkaaGreatDoor
end
section
namespace Go.Proofs.YtekkhnjepcebkaaGreatDoor
open Go.RowKit
/-- One operation keeps the invariant. T: what is done; v: the values. -/
structure InvOp (P : Program) (ops : Array Oper) (a₀ : Act) (I : (Nat → Bool) → (Nat → Value) → World → Prop) (i : Nat) (o : Oper) : Prop where
  step : ∀ T v w, I T v w → T i = false → (∀ j, ((masks ops.toList).getD i 0).testBit j = true → T j = true) → (∀ j, T j = true → ∀ k, ((masks ops.toList).getD j 0).testBit k = true → T k = true) →
    StepF P ops o (frameF (ops.toList.take i) 0 v a₀) w fun u w' => I (fun k => decide (k = i) || T k) (fun k => if k = i then u else v k) w'
section
variable {ops : Array Oper}
theorem inv_any (h : drawOk ops = true) {m : Nat} (ht : tailOk ops m = true) (hm : m ≤ ops.size) {P : Program} {Q : Exit → Act → World → Prop} {a₀ : Act} {I : (Nat → Bool) → (Nat → Value) → World → Prop}
    (hop : ∀ i o, ops.toList[i]? = some o → i < m → InvOp P ops a₀ I i o)
    (hend : ∀ T v w, (∀ j, j < m → T j = true) → I T v w → wpList P ops Q (ops.toList.drop m) (frameF (ops.toList.take m) 0 v a₀) w) :
    ∀ (fuel : Nat) (listed : Array Bool) (a : Act) (w : World) (v : Nat → Value), listed.size = ops.size → (∀ j, listed.getD j false = true → j < m) → Shut ops (fun i => listed.getD i false = true) → listed.toList.count false ≤ fuel →
      Agrees ops a₀ v (fun i => listed.getD i false = true) a → I (fun j => listed.getD j false) v w → wpAny P .any ops Q fuel listed a w := by
  have hall : ∀ (fuel : Nat) (listed : Array Bool) (a : Act) (w : World) (v : Nat → Value), listed.size = ops.size → (∀ j, listed.getD j false = true ↔ j < m) → listed.toList.count false ≤ fuel →
      Agrees ops a₀ v (fun i => listed.getD i false = true) a → I (fun j => listed.getD j false) v w → wpAny P .any ops Q fuel listed a w := by
    intro fuel listed a w v hsz hl hf ha hI
    have hc : listed.toList.count false = listed.toList.length - m := count_split _ m (by simp; omega) fun j hj => by
      rw [← hl j]
      have hb : j < listed.size := by simpa using hj
      simp [Array.getD, hb]
    have hEq : a = frameF (ops.toList.take m) 0 v a₀ := by
      have hcN := frameF_agrees h a₀ v m hm
      have h1 : a.tmps = (frameF (ops.toList.take m) 0 v a₀).tmps := Array.ext_getElem? fun d => ha.same h hcN d fun i oi _ _ => hl i
      have h2 : a.defers = (frameF (ops.toList.take m) 0 v a₀).defers := ha.defers.trans hcN.defers.symm
      cases a; cases hcc : frameF (ops.toList.take m) 0 v a₀; rw [hcc] at h1 h2; simp_all
    refine tail_any h ht fuel m listed a w hsz (Nat.le_refl _) hm hl (by rw [hc] at hf; simp at hf; omega) ?_
    rw [hEq]
    exact hend _ v w (fun j hj => (hl j).2 hj) hI
  intro fuel
  induction fuel with
  | zero =>
    intro listed a w v hsz hlm hshut hfuel ha hI
    refine hall 0 listed a w v hsz (fun j => ⟨hlm j, fun hj => ?_⟩) hfuel ha hI
    have hb : j < listed.size := by omega
    have h0 : listed.toList.count false = 0 := by omega
    have hne : listed[j] ≠ false := fun e => by
      have : 0 < listed.toList.count false := List.count_pos_iff.2 (by rw [← e]; simp)
      omega
    simp [Array.getD, hb]
    simpa using hne
  | succ fuel ih =>
    intro listed a w v hsz hlm hshut hfuel ha hI
    by_cases hdone : ∀ j, j < m → listed.getD j false = true
    · exact hall _ listed a w v hsz (fun j => ⟨hlm j, hdone j⟩) hfuel ha hI
    · obtain ⟨j0, hj0, hjl⟩ : ∃ j, j < m ∧ ¬ listed.getD j false = true := by
        false_or_by_contra
        rename_i hno
        exact hdone fun j hj => Decidable.byContradiction fun hn => hno ⟨j, hj, hn⟩
      have hmask : ∀ i oi, ops.toList[i]? = some oi → (∀ e ∈ oi.after.toList, Region.binds .any e = true → listed.getD e.on false = true) → ∀ j, ((masks ops.toList).getD i 0).testBit j = true → listed.getD j false = true :=
        fun i oi hoi hafter j hb => mask_in h hshut (i + 1) i oi (by omega) hoi hafter j hb
      refine ⟨fun hr => ?_, fun i hi => ?_⟩
      · exfalso
        -- the least one that is not listed is ready
        have : ∀ k j, j < k → j < m → listed.getD j false = true := by
          intro k
          induction k with
          | zero => intro j hj; omega
          | succ k ihk =>
            intro j hjk hjm
            by_cases hl : listed.getD j false = true
            · exact hl
            · exfalso
              have hjs : j < ops.size := by omega
              have hmem : j ∈ Region.ready .any ops listed := by
                simp only [Region.ready, List.mem_filter, List.mem_range, Bool.and_eq_true, Bool.not_eq_true']
                refine ⟨hjs, ?_, ?_⟩
                · have hb : j < listed.size := by omega
                  simp [Array.getD, hb] at hl ⊢
                  exact hl
                · rw [Array.getElem?_eq_getElem hjs]
                  simp only [Option.map_some, Option.getD_some, Array.all_eq_true_iff_forall_mem]
                  intro e he
                  by_cases hb : Region.binds .any e = true
                  · have hlt := (drawOk_spec h).2.1 j ops[j] (by simp [hjs]) e (by simpa using he) hb
                    simp [ihk e.on (by omega) (by omega)]
                  · simp [hb]
              rw [hr] at hmem
              cases hmem
        exact hjl (this (j0 + 1) j0 (by omega) hj0)
      · obtain ⟨oi, hoi, hl, hafter⟩ := ready_mem hi
        have hio : i < ops.size := by have := (List.getElem?_eq_some_iff.1 hoi).1; omega
        have hil : i < listed.size := by omega
        have hunl : ¬ listed.getD i false = true := by
          simp [Array.getD, hil] at hl ⊢
          exact hl
        have him : i < m := by
          false_or_by_contra
          rename_i hno
          exact hjl (hmask i oi hoi hafter j0 (tailOk_spec ht hio (by omega) (by omega)))
        have hset := fun k => getD_set listed i k hil
        have hshut' : Shut ops (fun j => (listed.setIfInBounds i true).getD j false = true) := by
          intro j oj hj hTj e he hb
          rcases (hset j).1 hTj with hTj | rfl
          · exact (hset _).2 (.inl (hshut j oj hj hTj e he hb))
          · rw [hoi] at hj; injection hj with hj; subst hj
            exact (hset _).2 (.inl (hafter e he hb))
        have hcount : (listed.setIfInBounds i true).toList.count false ≤ fuel := by
          have hli : listed.toList[i]'(by simpa using hil) = false := by
            have : listed[i] = false := by simpa [Array.getD, hil] using hl
            simpa using this
          have hm : 0 < listed.toList.count false := List.count_pos_iff.2 (by rw [← hli]; simp)
          rw [Array.toList_setIfInBounds, List.count_set (by simpa using hil), hli]
          simp only [beq_self_eq_true, if_true, show (true == false) = false from rfl, Bool.false_eq_true, if_false]
          omega
        have hlooks : ∀ d ∈ oi.looksAt ops, ∀ j oj, ops.toList[j]? = some oj → oj.dst = some d → (listed.getD j false = true ↔ j < i) := by
          intro d hd j oj hj hjd
          by_cases hji : j = i
          · subst hji
            exact ⟨fun h => absurd h hunl, fun h => absurd h (Nat.lt_irrefl _)⟩
          · have := ((drawOk_spec h).2.2 i j oi oj d hoi hj hji hjd).2 hd
            by_cases hlt : j < i
            · rw [if_pos hlt] at this
              exact ⟨fun _ => hlt, fun _ => hmask i oi hoi hafter j this⟩
            · rw [if_neg hlt] at this
              exact ⟨fun hTj => absurd (mask_in h hshut (j + 1) j oj (by omega) hj (fun e he hb => hshut j oj hj hTj e he hb) i this) hunl, fun h => absurd h hlt⟩
        obtain ⟨he, hwn⟩ := step_alike h ha (frameF_agrees h a₀ v i (by omega)) hoi hlooks
        have hF := hop i oi hoi him
        have hs := (hF.step (fun j => listed.getD j false) v w hI (by simpa using hunl) (fun j hb => hmask i oi hoi hafter j hb) (fun j hj k hb => by
          have hjs : j < ops.size := Nat.lt_of_lt_of_le (hlm j hj) hm
          have hoj : ops.toList[j]? = some ops[j] := by simp [hjs]
          exact hmask j _ hoj (fun e he hb => hshut j _ hoj hj e he hb) k hb)).out
        have hnext : ∀ u w', I (fun k => decide (k = i) || listed.getD k false) (fun k => if k = i then u else v k) w' → wpAny P .any ops Q fuel (listed.setIfInBounds i true) (a.put oi.dst u) w' := by
          rintro u w' h1
          have hv : ∀ j, listed.getD j false = true → v j = (fun k => if k = i then u else v k) j := fun j hj => by
            have : j ≠ i := fun e => hunl (e ▸ hj)
            simp [this]
          have hput := (ha.swap hv).put h hoi hset
          rw [if_pos (rfl : i = i)] at hput
          have hT : (fun k => (listed.setIfInBounds i true).getD k false) = fun k => decide (k = i) || listed.getD k false := by
            funext k
            have := hset k
            cases h1 : (listed.setIfInBounds i true).getD k false <;> cases h2 : listed.getD k false <;> by_cases h3 : k = i <;> simp_all
          refine ih _ _ w' (fun k => if k = i then u else v k) (by simpa using hsz) (fun j hj => ?_) hshut' hcount hput (by rw [hT]; exact h1)
          rcases (hset j).1 hj with hj | rfl
          · exact hlm j hj
          · exact him
        unfold wpOp
        rw [show ops[i]? = some oi by simpa using hoi]
        simp only
        unfold StepG at hs
        rw [← hwn] at hs
        split
        · rename_i hwt
          rw [if_pos hwt, ← he] at hs
          exact .inl (givesF_wp hs hnext)
        · rename_i hwt
          rw [if_neg hwt] at hs
          exact hnext _ _ hs
theorem wp_inv {P : Program} {Q : Exit → Act → World → Prop} {id : Nat} {a : Act} {w : World} (hmx : P.follows .mixedOrders = true) (h : drawOk ops = true) (m : Nat) (ht : tailOk ops m = true) (hm : m ≤ ops.size) (I : (Nat → Bool) → (Nat → Value) → World → Prop)
    (h0 : ∀ v, I (fun _ => false) v w.drew) (hop : ∀ i o, ops.toList[i]? = some o → i < m → InvOp P ops a I i o)
    (hend : ∀ T v w, (∀ j, j < m → T j = true) → I T v w → wpList P ops Q (ops.toList.drop m) (frameF (ops.toList.take m) 0 v a) w) : (Code.region id ops true).wp P Q a w := by
  refine wp_region_any hmx ?_
  refine inv_any h ht hm hop hend ops.size _ a _ (fun _ => undef) (by simp) ?_ ?_ (by simp) ?_ ?_
  · intro j hj; simp [Array.getD] at hj
  · intro i oi hi hT; simp [Array.getD] at hT
  · refine ⟨rfl, rfl, fun i oi d hi hd hT => ?_, fun _ _ => rfl⟩
    simp [Array.getD] at hT
  · have : (fun j => (Array.replicate ops.size false).getD j false) = fun _ => false := by funext j; simp [Array.getD]
    rw [this]
    exact h0 _
end
end Go.Proofs.YtekkhnjepcebkaaGreatDoor
namespace Go.Proofs.YtekkhnjepcebkaaGreatDoor
open Go.RowKit
theorem StepF.mono {P : Program} {ops : Array Oper} {o : Oper} {a : Act} {w : World} {K K' : Value → World → Prop} (h : StepF P ops o a w K) (hk : ∀ u w', K u w' → K' u w') : StepF P ops o a w K' := by
  obtain ⟨h⟩ := h
  refine ⟨?_⟩
  unfold StepG at *
  split
  · rename_i hw
    rw [if_pos hw] at h
    unfold GivesF at *
    split <;> simp_all
    exact h.mono fun e w' ⟨u, h1, h2⟩ => ⟨u, h1, hk _ _ h2⟩
  · rename_i hw
    rw [if_neg hw] at h
    exact hk _ _ h
end Go.Proofs.YtekkhnjepcebkaaGreatDoor
namespace Go.Proofs.YtekkhnjepcebkaaGreatDoor
open Go.RowKit
structure MidOp (P : Program) (ops : Array Oper) (a₀ : Act) (s : Nat) (C R0 : World → Prop) (R1 : (Nat → Value) → World → Prop) (S S1 : World → World → Prop) (sp : Nat → Spec) (i : Nat) (o : Oper) : Prop where
  congr : i ≠ s → ∀ v v' u w, (∀ j, ((masks ops.toList).getD i 0).testBit j = true → v j = v' j) → sp i v u w → sp i v' u w
  stable : i ≠ s → ∀ v u w w', sp i v u w → S w w' → sp i v u w'
  stable1 : i ≠ s → ∀ v u w w', sp i v u w → S1 w w' → sp i v u w'
  plain : i ≠ s → ∀ v w, C w → (∀ j, ((masks ops.toList).getD i 0).testBit j = true → j ≠ s → sp j v (v j) w) → StepF P ops o (frameF (ops.toList.take i) 0 v a₀) w fun u w' => sp i v u w' ∧ S w w'
  special : i = s → ∀ v w, R0 w → (∀ j, ((masks ops.toList).getD i 0).testBit j = true → j ≠ s → sp j v (v j) w) → StepF P ops o (frameF (ops.toList.take i) 0 v a₀) w fun _ w' => R1 v w' ∧ S1 w w'
section
variable {P : Program} {ops : Array Oper} {a₀ : Act} {s : Nat} {C R0 : World → Prop} {R1 : (Nat → Value) → World → Prop} {S S1 : World → World → Prop} {sp : Nat → Spec} {i : Nat} {o : Oper}
theorem mid_plain (hi : i ≠ s) (h1 : ∀ v v' u w, (∀ j, ((masks ops.toList).getD i 0).testBit j = true → v j = v' j) → sp i v u w → sp i v' u w) (h2 : ∀ v u w w', sp i v u w → S w w' → sp i v u w') (h3 : ∀ v u w w', sp i v u w → S1 w w' → sp i v u w')
    (h : ∀ v w, C w → (∀ j, ((masks ops.toList).getD i 0).testBit j = true → j ≠ s → sp j v (v j) w) → StepF P ops o (frameF (ops.toList.take i) 0 v a₀) w fun u w' => sp i v u w' ∧ S w w') : MidOp P ops a₀ s C R0 R1 S S1 sp i o := ⟨fun _ => h1, fun _ => h2, fun _ => h3, fun _ => h, fun e => absurd e hi⟩
theorem mid_special (hi : i = s) (h : ∀ v w, R0 w → (∀ j, ((masks ops.toList).getD i 0).testBit j = true → j ≠ s → sp j v (v j) w) → StepF P ops o (frameF (ops.toList.take i) 0 v a₀) w fun _ w' => R1 v w' ∧ S1 w w') : MidOp P ops a₀ s C R0 R1 S S1 sp i o := ⟨fun e => absurd hi e, fun e => absurd hi e, fun e => absurd hi e, fun e => absurd hi e, fun _ => h⟩
end
def MidL (P : Program) (ops : Array Oper) (a₀ : Act) (s : Nat) (C R0 : World → Prop) (R1 : (Nat → Value) → World → Prop) (S S1 : World → World → Prop) (sp : Nat → Spec) : Nat → List Oper → Prop
  | _, [] => True
  | i, o :: l => MidOp P ops a₀ s C R0 R1 S S1 sp i o ∧ MidL P ops a₀ s C R0 R1 S S1 sp (i + 1) l
theorem mid_at {P : Program} {ops : Array Oper} {a₀ : Act} {s : Nat} {C R0 : World → Prop} {R1 : (Nat → Value) → World → Prop} {S S1 : World → World → Prop} {sp : Nat → Spec} : ∀ (l : List Oper) (k : Nat), MidL P ops a₀ s C R0 R1 S S1 sp k l → ∀ i o, l[i]? = some o → MidOp P ops a₀ s C R0 R1 S S1 sp (k + i) o := by
  intro l
  induction l with
  | nil => intro k _ i o h; simp at h
  | cons x l ih =>
    rintro k ⟨h1, h2⟩ i o h
    cases i with
    | zero => simp at h; subst h; exact h1
    | succ i => rw [show k + (i + 1) = k + 1 + i by omega]; exact ih _ h2 i o (by simpa using h)
theorem mid_inv {P : Program} {ops : Array Oper} {a₀ : Act} {s m : Nat} {C R0 : World → Prop} {R1 : (Nat → Value) → World → Prop} {S S1 : World → World → Prop} {sp : Nat → Spec} (hm : m ≤ ops.size)
    (hC0 : ∀ w, R0 w → C w) (hC1 : ∀ v w, R1 v w → C w) (hS0 : ∀ w w', R0 w → S w w' → R0 w') (hS1 : ∀ v w w', R1 v w → S w w' → R1 v w') (hcg : ∀ v v' w, (∀ j, ((masks ops.toList).getD s 0).testBit j = true → v j = v' j) → R1 v w → R1 v' w)
    (hall : ∀ i o, ops.toList[i]? = some o → i < m → MidOp P ops a₀ s C R0 R1 S S1 sp i o) {i : Nat} {o : Oper} (hi : ops.toList[i]? = some o) (him : i < m) :
    InvOp P ops a₀ (fun T v w => (T s = false → R0 w) ∧ (T s = true → R1 v w) ∧ (∀ j, j < m → T j = true → j ≠ s → sp j v (v j) w) ∧ ∀ j, T j = true → j < m) i o := by
  refine ⟨fun T v w hI hT hmk hcl => ?_⟩
  obtain ⟨i1, i2, i3, i4⟩ := hI
  have hlow : ∀ j, ((masks ops.toList).getD i 0).testBit j = true → j < m := fun j hj => i4 j (hmk j hj)
  have hlo2 : ∀ j, (decide (j = i) || T j) = true → j < m := fun j hj => by
    by_cases e : j = i
    · rw [e]; exact him
    · exact i4 j (by simpa [e] using hj)
  have ho := hall i o hi him
  have hkn : ∀ j, ((masks ops.toList).getD i 0).testBit j = true → j ≠ s → sp j v (v j) w := fun j hj hne => i3 j (hlow j hj) (hmk j hj) hne
  have hag : ∀ (u : Value) (j : Nat), T j = true → ∀ k, ((masks ops.toList).getD j 0).testBit k = true → v k = (fun k => if k = i then u else v k) k := fun u j hj k hk => by
    have := hcl j hj k hk
    show v k = if k = i then u else v k
    rw [if_neg (fun e => by rw [e, hT] at this; cases this)]
  by_cases hk : i = s
  · refine (ho.special hk v w (i1 (by rw [← hk]; exact hT)) hkn).mono fun u w' ⟨p1, p2⟩ => ?_
    refine ⟨fun e => by simp [hk] at e, fun _ => ?_, fun j hjm hj hne => ?_, hlo2⟩
    · refine hcg v _ w' (fun j hj => ?_) p1
      have hj' : T j = true := hmk j (by rw [hk]; exact hj)
      show v j = if j = i then u else v j
      rw [if_neg (fun e => by rw [e, hT] at hj'; cases hj')]
    · have hji : j ≠ i := fun e => hne (e.trans hk)
      have hj' : T j = true := by simpa [hji] using hj
      show sp j _ (if j = i then u else v j) w'
      rw [if_neg hji]
      obtain ⟨oj, hoj⟩ : ∃ oj, ops.toList[j]? = some oj := ⟨_, List.getElem?_eq_getElem (by simp; omega)⟩
      have hj2 := hall j oj hoj hjm
      exact hj2.congr hne _ _ _ _ (hag u j hj') (hj2.stable1 hne _ _ _ _ (i3 j hjm hj' hne) p2)
  · have hsi : decide (s = i) = false := by simp; omega
    have hCw : C w := by
      cases hTs : T s with
      | false => exact hC0 w (i1 hTs)
      | true => exact hC1 v w (i2 hTs)
    refine (ho.plain hk v w hCw hkn).mono fun u w' ⟨p1, p2⟩ => ?_
    refine ⟨fun e => hS0 _ _ (i1 (by simpa [hsi] using e)) p2, fun e => ?_, fun j hjm hj hne => ?_, hlo2⟩
    · have e' : T s = true := by simpa [hsi] using e
      exact hcg v _ w' (hag u s e') (hS1 _ _ _ (i2 e') p2)
    · show sp j _ (if j = i then u else v j) w'
      by_cases hji : j = i
      · rw [if_pos hji, hji]
        refine ho.congr hk v _ _ _ (fun k hk' => ?_) p1
        have := hmk k hk'
        show v k = if k = i then u else v k
        rw [if_neg (fun e => by rw [e, hT] at this; cases this)]
      · have hj' : T j = true := by simpa [hji] using hj
        rw [if_neg hji]
        obtain ⟨oj, hoj⟩ : ∃ oj, ops.toList[j]? = some oj := ⟨_, List.getElem?_eq_getElem (by simp; omega)⟩
        have hj2 := hall j oj hoj hjm
        exact hj2.congr hne _ _ _ _ (hag u j hj') (hj2.stable hne _ _ _ _ (i3 j hjm hj' hne) p2)
theorem wp_mid_lit {P : Program} {Q : Exit → Act → World → Prop} {id : Nat} {a : Act} {w : World} {l : List Oper} (hmx : P.follows .mixedOrders = true) (m : Nat) (h : drawOk l.toArray = true) (ht : tailOk l.toArray m = true) (hm : m ≤ l.length) (s : Nat) (hs : s < m) (C R0 : World → Prop) (R1 : (Nat → Value) → World → Prop) (S S1 : World → World → Prop) (sps : List Spec)
    (hR : R0 w.drew) (hC0 : ∀ w, R0 w → C w) (hC1 : ∀ v w, R1 v w → C w) (hS0 : ∀ w w', R0 w → S w w' → R0 w') (hS1 : ∀ v w w', R1 v w → S w w' → R1 v w') (hcg : ∀ v v' w, (∀ j, ((masks l).getD s 0).testBit j = true → v j = v' j) → R1 v w → R1 v' w)
    (hop : MidL P l.toArray a s C R0 R1 S S1 (fun i => sps.getD i fun _ _ _ => True) 0 (l.take m))
    (hend : ∀ v w, R1 v w → (∀ j, j < m → j ≠ s → (sps.getD j fun _ _ _ => True) v (v j) w) → wpList P l.toArray Q (l.drop m) (frameF (l.take m) 0 v a) w) : (Code.region id l.toArray true).wp P Q a w := by
  have hall : ∀ i o, l.toArray.toList[i]? = some o → i < m → MidOp P l.toArray a s C R0 R1 S S1 (fun i => sps.getD i fun _ _ _ => True) i o := fun i o hi him => by
    have := mid_at (l.take m) 0 hop i o (by rw [List.getElem?_take_of_lt him]; simpa using hi)
    rwa [Nat.zero_add] at this
  refine wp_inv hmx h m ht (by simpa using hm) (fun T v w => (T s = false → R0 w) ∧ (T s = true → R1 v w) ∧ (∀ j, j < m → T j = true → j ≠ s → (sps.getD j fun _ _ _ => True) v (v j) w) ∧ ∀ j, T j = true → j < m) (fun v => ⟨fun _ => hR, fun e => (by cases e), fun j _ e => (by cases e), fun j e => (by cases e)⟩) (fun i o hi him => mid_inv (by simpa using hm) hC0 hC1 hS0 hS1 (by simpa using hcg) hall hi him) ?_
  intro T v w hT ⟨_, i2, i3, _⟩
  simpa using hend v w (i2 (hT s hs)) fun j hj hne => i3 j hj (hT j hj) hne
theorem stepF_store {P : Program} {ops : Array Oper} {o : Oper} {a : Act} {w w' : World} {K : Value → World → Prop} (hw : Region.wanted o (yielded ops a.tmps) = true) (hr : (execOp a.eval o).run P w = .ok .skip w') (hK : K undef w') : StepF P ops o a w K := by
  refine ⟨?_⟩; unfold StepG; rw [hw, if_pos rfl, hr]; exact hK
end Go.Proofs.YtekkhnjepcebkaaGreatDoor
end
section
namespace Go.Proofs.YtekkhnjepcebkaaGreatDoor
namespace Fl
open Go.RowKit Go.Shelf
set_option maxRecDepth 100000
theorem Only.setCell {g : Nat} {w w' : World} (h : Only g w w') {p : Addr} (hg : g ≤ p.block) (hp : w.heap.size ≤ p.block) (v : Value) : Only g w (w'.setCell p v) :=
  ⟨h.below.setCell hg v, fun b hb hne => (Below.heap_setCell w' p v b (by omega)).trans (h.other b hb hne)⟩
theorem Only.nextB {g B : Nat} {w w1 w2 : World} (h : Only g w w1) (hb : Below B w1 w2) (hg : g ≤ B) (hB : w.heap.size ≤ B) : Only g w w2 :=
  ⟨h.below.trans (hb.mono hg), fun b hl hne => (hb.block b (by omega)).trans (h.other b hl hne)⟩
end Fl
end Go.Proofs.YtekkhnjepcebkaaGreatDoor
end
section
namespace Go.Proofs.YtekkhnjepcebkaaGreatDoor
namespace Fl
open Go.RowKit Go.Shelf
set_option maxRecDepth 100000
theorem zeroStr : ∀ w, (zeroValue 9).run Tryz.prog w = .ok (.string ⟨#[]⟩) w := fun w => by kernel_rfl
end Fl
end Go.Proofs.YtekkhnjepcebkaaGreatDoor
end
section
namespace Go.Proofs.YtekkhnjepcebkaaGreatDoor
namespace Fl
open Go.RowKit
set_option maxRecDepth 100000
set_option maxHeartbeats 1000000 in
theorem rlines_spec (A : Option Addr) (l : List ByteArray) (c : Nat) (w : World) (hm : l.length ≤ big) (hs : Sl strE w A l) :
    Calls Tryz.prog 76 #[.slice A l.length c] w fun e w' => e = .returned (iv (File.lined l)) ∧ Below w.heap.size w w' := by
  unfold big at hm
  go_enter Tryz.func76, Tryz.ntmps76
  go_wp2_with fail
  go_loopw [3] (fun i wr => ∃ k : Nat, k ≤ l.length ∧ i = iv k ∧ Hid ((l.drop k).all File.wide = l.all File.wide) ∧ Below w.heap.size w wr) (fun i _ => l.length - (intOf i).toNat)
  case atStart => exact ⟨0, by omega, rfl, rfl, (by first | assumption | exact Below.refl _ _)⟩
  case round =>
    obtain ⟨k, hk, rfl, hr, hbw⟩ := hrel
    by_cases hlt : k < l.length
    · have hki : (k : Int) < (l.length : Int) := by omega
      obtain ⟨b, off, x, rfl, hb, hx, hc0⟩ := Sl.atS (hs.below hbw) hlt
      have hr' := hr.out
      rw [drop_at hx, List.all_cons] at hr'
      by_cases h40 : 40 < x.size
      · have h40i : (40 : Int) < (x.size : Int) := by omega
        have HN : Hid (File.lined l = 10) := Lib.hid (by
          have : File.wide x = false := by simp only [File.wide, decide_eq_false_iff_not]; omega
          rw [this, Bool.false_and] at hr'
          unfold File.lined; rw [← hr']; rfl)
        clear hr hr' hx h40
        go_wp2_with fail
        go_ret
        exact ⟨ret_eq (by rw [HN.out]; rfl), (by assumption)⟩
      · have h40i : ¬ (40 : Int) < (x.size : Int) := by omega
        have HN : Hid ((l.drop (k + 1)).all File.wide = l.all File.wide) := Lib.hid (by
          have : File.wide x = true := by simp only [File.wide, decide_eq_true_eq]; omega
          rw [this, Bool.true_and] at hr'
          exact hr')
        clear hr hr' hx h40
        go_wp2_with fail
        go_roundw
        case rel => exact ⟨k + 1, by omega, by go_num, HN, (by assumption)⟩
        case measure => simp [intOf]; omega
    · have hki : ¬ (k : Int) < (l.length : Int) := by omega
      have hr' := hr.out
      rw [drop_end hlt] at hr'
      have HL : Hid (File.lined l = if l.all File.okLine then 0 else 11) := Lib.hid (by unfold File.lined; rw [← hr']; rfl)
      have HW : Hid (∀ s ∈ l, s.size ≤ 40) := Lib.hid fun s hs => by
        have := List.all_eq_true.1 hr'.symm s hs
        simp only [File.wide, decide_eq_true_eq] at this
        omega
      clear hr hr'
      go_wp2_with fail
      go_loopw [4, 5] (fun i _ wr => ∃ k : Nat, k ≤ l.length ∧ i = iv k ∧ Hid ((l.drop k).all File.okLine = l.all File.okLine) ∧ Below w.heap.size w wr) (fun i _ _ => l.length - (intOf i).toNat)
      case atStart => exact ⟨0, by omega, rfl, rfl, (by first | assumption | exact Below.refl _ _)⟩
      case round =>
        obtain ⟨k, hk, rfl, hr, hbw⟩ := hrel
        by_cases hlt : k < l.length
        · have hki : (k : Int) < (l.length : Int) := by omega
          obtain ⟨b, off, x, rfl, hb, hx, hc0⟩ := Sl.atS (hs.below hbw) hlt
          have hr' := hr.out
          rw [drop_at hx, List.all_cons] at hr'
          have HR := Lib.hid hr'
          have hx40 := HW.out x (mem_at hx)
          have HCX : Hid (∀ W, Below w.heap.size w W → W.cell? ⟨b, off + k, none⟩ = some (.string x)) := Lib.hid fun W hW => by
            obtain ⟨b', off', x', hA, _, hx', hc'⟩ := Sl.atS (hs.below hW) hlt
            cases hA
            rw [hx] at hx'; cases hx'; exact hc'
          clear hr hr' hx
          go_wp2_with fail
          go_loopw [5] (fun i wx => ∃ q : Nat, q ≤ x.size ∧ i = iv q ∧ Hid (((File.bts x).drop q).all File.okB = File.okLine x) ∧ Below w.heap.size w wx) (fun i _ => x.size - (intOf i).toNat)
          case atStart => exact ⟨0, Nat.zero_le _, rfl, rfl, (by first | assumption | exact Below.refl _ _)⟩
          case round =>
            obtain ⟨q, hq, rfl, hr, hbw2⟩ := hrel
            have hc0 := HCX.out _ hbw2
            by_cases hp : q < x.size
            · have hqi : (q : Int) < (x.size : Int) := by omega
              have hr' := hr.out
              rw [bts_drop hp, List.all_cons] at hr'
              have HQ := Lib.hid hr'
              clear hr hr'
              generalize hv : (x[q]'hp).toNat = v at *
              by_cases h32 : v < 32
              · have h32i : (v : Int) < 32 := by omega
                have hno : File.okB (x[q]'hp) = false := by simp [File.okB, hv]; omega
                have HN : Hid (File.lined l = 11) := Lib.hid (by
                  have h1 := HQ.out
                  rw [hno, Bool.false_and] at h1
                  have h2 := HR.out
                  rw [← h1, Bool.false_and] at h2
                  rw [HL.out, ← h2]; rfl)
                clear hno
                go_wp2_with fail
                go_ret
                exact ⟨ret_eq (by rw [HN.out]; rfl), (by assumption)⟩
              · by_cases h126 : 126 < v
                · have h32i : ¬ (v : Int) < 32 := by omega
                  have h126i : (126 : Int) < (v : Int) := by omega
                  have hno : File.okB (x[q]'hp) = false := by simp [File.okB, hv]; omega
                  have HN : Hid (File.lined l = 11) := Lib.hid (by
                    have h1 := HQ.out
                    rw [hno, Bool.false_and] at h1
                    have h2 := HR.out
                    rw [← h1, Bool.false_and] at h2
                    rw [HL.out, ← h2]; rfl)
                  clear hno
                  go_wp2_with fail
                  go_ret
                  exact ⟨ret_eq (by rw [HN.out]; rfl), (by assumption)⟩
                · have h32i : ¬ (v : Int) < 32 := by omega
                  have h126i : ¬ (126 : Int) < (v : Int) := by omega
                  have hyes : File.okB (x[q]'hp) = true := by simp [File.okB, hv]; omega
                  have HN : Hid (((File.bts x).drop (q + 1)).all File.okB = File.okLine x) := Lib.hid (by have h1 := HQ.out; rw [hyes, Bool.true_and] at h1; exact h1)
                  clear hyes
                  go_wp2_with fail
                  go_roundw
                  case rel => exact ⟨q + 1, hp, by go_num, HN, (by assumption)⟩
                  case measure => simp [intOf]; omega
            · have hqi : ¬ (q : Int) < (x.size : Int) := by omega
              have hr' := hr.out
              rw [bts_end hp] at hr'
              have HQ : Hid (File.okLine x = true) := Lib.hid hr'.symm
              clear hr hr'
              go_wp2_with fail
              go_roundw
              case rel => exact ⟨k + 1, by omega, by go_num, Lib.hid (by have := HR.out; rw [HQ.out, Bool.true_and] at this; exact this), (by assumption)⟩
              case measure => simp [intOf]; omega
        · have hki : ¬ (k : Int) < (l.length : Int) := by omega
          have hr' := hr.out
          rw [drop_end hlt] at hr'
          have HN : Hid (File.lined l = 0) := Lib.hid (by rw [HL.out, ← hr']; rfl)
          clear hr hr'
          go_wp2_with fail
          go_ret
          exact ⟨ret_eq (by rw [HN.out]; rfl), (by assumption)⟩
theorem rcheck_spec (A : Option Addr) (l : List ByteArray) (c : Nat) (w : World) (hm : l.length ≤ big) (hs : Sl strE w A l) :
    Calls Tryz.prog 13 #[.slice A l.length c] w fun e w' => e = .returned (iv (File.check l)) ∧ Below w.heap.size w w' := by
  have HL := Lib.hid (rlines_spec A l c w hm hs)
  by_cases h : 24 < l.length
  · have hi : (24 : Int) < (l.length : Int) := by omega
    go_enter Tryz.func13, Tryz.ntmps13
    go_wp2_with fail
    go_ret
    exact ⟨ret_eq (by unfold File.check; rw [if_pos h]; rfl), Below.refl _ _⟩
  · have hi : ¬ (24 : Int) < (l.length : Int) := by omega
    go_enter Tryz.func13, Tryz.ntmps13
    go_wp2_with (go_at_call 76; refine HL.out.mono ?_; rintro e w1 ⟨rfl, hb1⟩)
    go_ret
    exact ⟨ret_eq (by unfold File.check; rw [if_neg h]; rfl), hb1⟩
end Fl
end Go.Proofs.YtekkhnjepcebkaaGreatDoor
namespace Go.Proofs.YtekkhnjepcebkaaGreatDoor
namespace Fl
open Go.RowKit
set_option maxRecDepth 100000
set_option maxRecDepth 100000 in
theorem indexRS (A : Option Addr) (l : List (Rw ByteArray)) (c : Nat) (K : Nat) (cap : Array Value) (p : (Rw ByteArray) → Bool) (w : World) (hm : l.length ≤ big) (hs : Sl (rwE ByteArray) w A l)
    (hf : IsPred Tryz.prog w K cap rwv l p) :
    Calls Tryz.prog 143 #[.slice A l.length c, .func (.func K) #[] cap] w
    fun e w' => e = .returned (iv (findFrom p l 0)) ∧ Below w.heap.size w w' := by
  unfold big at hm
  obtain ⟨hK, hf⟩ := hf
  have HF := Lib.hid hf
  clear hf
  go_enter Tryz.func143, Tryz.ntmps143
  go_wp2
  go_loopw [5, 8] (fun u i wr => ∃ (k : Nat), k ≤ l.length ∧ i = iv k ∧ Hid (findFrom p (l.drop k) k = findFrom p l 0) ∧ Below w.heap.size w wr) (fun _ i _ => l.length - (intOf i).toNat)
  case atStart => exact ⟨0, by omega, rfl, rfl, Below.refl _ _⟩
  case round =>
    obtain ⟨k, hk, rfl, hr, hbw⟩ := hrel
    have hs1 := hs.below hbw
    by_cases hlt : k < l.length
    · obtain ⟨b, off, x, rfl, hb, hx, hc0⟩ := Sl.atRw hs1 hlt
      have hd := hr.out
      rw [drop_at hx] at hd
      simp only [findFrom] at hd
      have HD := Lib.hid hd
      clear hd
      cases hp : p x
      · go_wp2_with fail
        refine (HF.out x (mem_at hx) wr hbw).mono ?_
        rintro e w1 ⟨rfl, hb1⟩
        rw [hp]
        go_wp2_with fail
        go_roundw
        case rel => exact ⟨k + 1, by omega, by go_num, by have := HD.out; rw [hp] at this; exact this, hbw.next hb1 (Nat.le_refl _)⟩
        case measure => simp [intOf]; omega
      · go_wp2_with fail
        refine (HF.out x (mem_at hx) wr hbw).mono ?_
        rintro e w1 ⟨rfl, hb1⟩
        rw [hp]
        go_wp2_with fail
        go_ret
        exact ⟨ret_eq (by have := HD.out; rw [hp] at this; rw [← this]; rfl), hbw.next hb1 (Nat.le_refl _)⟩
    · have hd := hr.out
      rw [drop_end hlt] at hd
      have HD := Lib.hid hd
      clear hd
      go_wp2
      go_ret
      exact ⟨ret_eq (by rw [← HD.out]; rfl), hbw⟩
theorem containsRS (A : Option Addr) (l : List (Rw ByteArray)) (c : Nat) (K : Nat) (cap : Array Value) (p : (Rw ByteArray) → Bool) (w : World) (hm : l.length ≤ big) (hs : Sl (rwE ByteArray) w A l)
    (hf : IsPred Tryz.prog w K cap rwv l p) :
    Calls Tryz.prog 71 #[.slice A l.length c, .func (.func K) #[] cap] w
    fun e w' => e = .returned (.bool (l.any p)) ∧ Below w.heap.size w w' := by
  have HF := Lib.hid hf
  clear hf
  go_enter Tryz.func71, Tryz.ntmps71
  go_wp2_with (go_at_call 143; refine (indexRS A l c K cap p _ hm hs HF.out).mono ?_; rintro e w1 ⟨rfl, hb1⟩)
  go_ret
  exact ⟨ret_eq (by rw [← findFrom_nonneg p l 0 (by omega)]; rfl), hb1⟩
namespace G
def longS (s : ByteArray) : Bool := decide (60 < (s.size : Int))
def greatF (f : List ByteArray) : Bool := decide (30 < f.length) || f.any longS
end G
theorem great11_spec (s : ByteArray) (w : World) : Calls Tryz.prog 74 #[.string s] w fun e w' => e = .returned (.bool (G.longS s)) ∧ w = w' := by
  go_enter Tryz.func74, Tryz.ntmps74
  go_wp2
  go_ret
  exact ⟨rfl, rfl⟩
theorem longPred (w : World) (l : List ByteArray) : IsPred Tryz.prog w 74 #[] sv l G.longS :=
  ⟨callFunc_run (by kernel_rfl), fun x _ w' _ => (great11_spec x w').mono fun _ _ h => ⟨h.1, by rw [← h.2]; exact Below.refl _ _⟩⟩
theorem great1_spec (A : Option Addr) (l : List ByteArray) (c : Nat) (w : World) (hs : Sl strE w A l) :
    Calls Tryz.prog 72 #[.slice A l.length c] w fun e w' => e = .returned (.bool (G.greatF l)) ∧ Below w.heap.size w w' := by
  by_cases h : 30 < l.length
  · have hi : (30 : Int) < (l.length : Int) := by omega
    have hg : G.greatF l = true := by unfold G.greatF; rw [decide_eq_true h]; rfl
    rw [hg]
    go_enter Tryz.func72, Tryz.ntmps72
    go_wp2_with fail
    go_ret
    exact ⟨rfl, Below.refl _ _⟩
  · have hi : ¬ (30 : Int) < (l.length : Int) := by omega
    have hg : G.greatF l = l.any G.longS := by unfold G.greatF; rw [decide_eq_false h]; rfl
    have HC := Lib.hid (containsS A l c 74 #[] G.longS w (by unfold big; omega) hs (longPred w l))
    rw [hg]
    clear hg
    go_enter Tryz.func72, Tryz.ntmps72
    go_wp2_with fail
    refine HC.out.mono ?_
    rintro e w1 ⟨rfl, hb1⟩
    go_wp2_with fail
    go_ret
    exact ⟨rfl, hb1⟩
theorem greatPred (w : World) (rs : List (Rw ByteArray)) (hr : RowsR strE w rs) : IsPred Tryz.prog w 72 #[] rwv rs (fun r => G.greatF r.xs) :=
  ⟨callFunc_run (by kernel_rfl), fun x hx w' hw' => great1_spec x.A x.xs x.c w' ((hr x hx).1.below hw')⟩
theorem great_spec (A : Option Addr) (rs : List (Rw ByteArray)) (c : Nat) (w : World) (hm : rs.length ≤ big) (hs : Sl (rwE ByteArray) w A rs) (hr : RowsR strE w rs) :
    Calls Tryz.prog 9 #[.slice A rs.length c] w fun e w' => e = .returned (.bool (rs.any fun r => G.greatF r.xs)) ∧ Below w.heap.size w w' := by
  have HC := Lib.hid (containsRS A rs c 72 #[] (fun r => G.greatF r.xs) w hm hs (greatPred w rs hr))
  obtain ⟨q, hq⟩ : ∃ q, q = rs.any fun r => G.greatF r.xs := ⟨_, rfl⟩
  rw [← hq] at HC ⊢
  clear hq
  go_enter Tryz.func9, Tryz.ntmps9
  go_wp2_with fail
  refine HC.out.mono ?_
  rintro e w1 ⟨rfl, hb1⟩
  go_wp2_with fail
  go_ret
  exact ⟨rfl, hb1⟩
theorem great2row (A : Option Addr) (f : List ByteArray) (c : Nat) (A' : Option Addr) (g : List ByteArray) (c' : Nat) (w : World) (hfc : f.length ≤ c) (hgc : g.length ≤ c') (hs : Sl strE w A f) (hs' : Sl strE w A' g) :
    Calls Tryz.prog 9 #[.slice (some ⟨w.heap.size, 0, none⟩) 2 2] (w.alloc (.cells #[.slice A f.length c, .slice A' g.length c'] 22)) fun e w' => e = .returned (.bool (G.greatF f || G.greatF g)) ∧ Below w.heap.size w w' := by
  have hb : Below w.heap.size w (w.alloc (.cells #[.slice A f.length c, .slice A' g.length c'] 22)) := (Below.refl _ _).alloc (Nat.le_refl _) _
  have h1 := Sl.fresh (rwE ByteArray) w 22 #[.slice A f.length c, .slice A' g.length c'] [⟨A, c, f⟩, ⟨A', c', g⟩] rfl (by simp [maxLen])
  have := great_spec (some ⟨w.heap.size, 0, none⟩) [⟨A, c, f⟩, ⟨A', c', g⟩] 2 (w.alloc (.cells #[.slice A f.length c, .slice A' g.length c'] 22)) (by simp [big]) h1 (fun r hr => by
    simp only [List.mem_cons, List.not_mem_nil, or_false] at hr
    rcases hr with rfl | rfl
    · exact ⟨hs.below hb, hfc⟩
    · exact ⟨hs'.below hb, hgc⟩)
  refine this.mono ?_
  rintro e w' ⟨rfl, hb'⟩
  exact ⟨by simp, hb.next hb' (Nat.le_refl _)⟩
theorem great_no {f : List ByteArray} (h : G.greatF f = false) : f.length ≤ 30 ∧ ∀ s ∈ f, s.size ≤ 60 := by
  unfold G.greatF at h
  rw [Bool.or_eq_false_iff] at h
  obtain ⟨h1, h2⟩ := h
  rw [decide_eq_false_iff_not] at h1
  rw [List.any_eq_false] at h2
  refine ⟨by omega, fun s hs => ?_⟩
  have := h2 s hs
  simp only [G.longS, decide_eq_true_eq] at this
  omega
end Fl
end Go.Proofs.YtekkhnjepcebkaaGreatDoor
end
section
namespace Go.Proofs.YtekkhnjepcebkaaGreatDoor
namespace File
def rowsOf (c : List (Edit ByteArray)) : List (List ByteArray) := c.flatMap fun x => [x.old, x.new]
theorem rows_lines (c : List (Edit ByteArray)) : (rowsOf c).flatMap id = allLines c := by
  induction c with
  | nil => rfl
  | cons x c ih =>
    unfold rowsOf allLines at ih ⊢
    rw [List.flatMap_cons, List.flatMap_append, ih, List.flatMap_cons]
    simp
theorem worst_snoc (l : List (List ByteArray)) (x : List ByteArray) : worst (l ++ [x]) = worse (worst l) (lined x) := by unfold worst; rw [List.foldl_append]; rfl
theorem lined_cases (l : List ByteArray) : lined l = 0 ∨ lined l = 10 ∨ lined l = 11 := by unfold lined; split <;> (try split) <;> simp
theorem ordered_take : ∀ {c : List (Edit ByteArray)} {k : Nat} {x y : Edit ByteArray}, c[k]? = some x → c[k + 1]? = some y → ordered (c.take (k + 2)) = (ordered (c.take (k + 1)) && !decide (y.at_ ≤ x.at_ + (x.old.length : Int)))
  | [], _, _, _, h, _ => by simp at h
  | [_], 0, _, _, _, h => by simp at h
  | [_], k + 1, _, _, h, _ => by simp at h
  | a :: b :: r, 0, x, y, h1, h2 => by
    simp at h1 h2
    subst h1 h2
    simp [ordered]
  | a :: b :: r, k + 1, x, y, h1, h2 => by
    have ih := ordered_take (c := b :: r) (k := k) (x := x) (y := y) (by simpa using h1) (by simpa using h2)
    simp only [List.take_succ_cons] at ih ⊢
    unfold ordered
    rw [ih, Bool.and_assoc]
theorem ordered_false : ∀ {c : List (Edit ByteArray)} {k : Nat} {x y : Edit ByteArray}, c[k]? = some x → c[k + 1]? = some y → y.at_ ≤ x.at_ + (x.old.length : Int) → ordered c = false
  | [], _, _, _, h, _, _ => by simp at h
  | [_], 0, _, _, _, h, _ => by simp at h
  | [_], k + 1, _, _, h, _, _ => by simp at h
  | a :: b :: r, 0, x, y, h1, h2, h => by
    simp at h1 h2
    subst h1 h2
    simp [ordered, h]
  | a :: b :: r, k + 1, x, y, h1, h2, h => by
    unfold ordered
    rw [ordered_false (c := b :: r) (k := k) (x := x) (y := y) (by simpa using h1) (by simpa using h2) h, Bool.and_false]
theorem ordered_one {c : List (Edit ByteArray)} (h : c.length ≤ 1) : ordered c = true := by
  match c, h with
  | [], _ => rfl
  | [_], _ => rfl
  | _ :: _ :: _, h => simp at h
theorem all_false {α : Type} {p : α → Bool} {c : List α} {k : Nat} {x : α} (h : c[k]? = some x) (hp : p x = false) : c.all p = false := by
  cases hc : c.all p with
  | false => rfl
  | true => exact absurd (List.all_eq_true.1 hc x (List.mem_of_getElem? h)) (by rw [hp]; decide)
theorem all_take {α : Type} {p : α → Bool} {c : List α} {k : Nat} {x : α} (h : c[k]? = some x) (ht : (c.take k).all p = true) (hp : p x = true) : (c.take (k + 1)).all p = true := by
  obtain ⟨hk, rfl⟩ := List.getElem?_eq_some_iff.1 h
  rw [List.take_succ_eq_append_getElem hk, List.all_append, ht]
  simp [hp]
end File
namespace Fl
open Go.RowKit
set_option maxRecDepth 100000
set_option maxHeartbeats 8000000 in
theorem rcc_spec (A : Option Addr) (vs : List EdV) (c : Nat) (w : World) (hm : vs.length ≤ 1000) (hs : Sl edE w A vs) (hok : ∀ r ∈ vs, EdOk w r) (hb1 : ∀ r ∈ vs, r.old.length ≤ big ∧ r.new.length ≤ big) :
    Calls Tryz.prog 24 #[.slice A vs.length c] w fun e w' => e = .returned (iv (File.checkChange (vs.map EdV.ed))) ∧ Below w.heap.size w w' := by
  obtain ⟨C, hC⟩ : ∃ C, C = vs.map EdV.ed := ⟨_, rfl⟩
  have HC := Lib.hid hC
  obtain ⟨ans, hans⟩ : ∃ ans, ans = File.checkChange C := ⟨_, rfl⟩
  rw [← hC, ← hans]
  have HA := Lib.hid hans
  have HAT : Hid (∀ (k : Nat) (r : EdV), vs[k]? = some r → C[k]? = some r.ed) := Lib.hid fun k r h => by rw [hC, List.getElem?_map, h]; rfl
  have HCL : Hid (C.length = vs.length) := Lib.hid (by rw [hC, List.length_map])
  have HB : Hid (∀ r ∈ vs, r.old.length ≤ big ∧ r.new.length ≤ big) := Lib.hid hb1
  have HOK := Lib.hid hok
  unfold big at HB
  clear hans hC hb1 hok
  go_enter Tryz.func24, Tryz.ntmps24
  go_wp2_with fail
  go_loopw [3] (fun v wr => ∃ k : Nat, k ≤ vs.length ∧ v = iv (k : Int) ∧ Hid ((C.take k).all File.atOk = true) ∧ w = wr) (fun v _ => vs.length - (intOf v).toNat)
  case atStart => exact ⟨0, Nat.zero_le _, rfl, rfl, rfl⟩
  case round =>
    obtain ⟨k, hk, rfl, HK, rfl⟩ := hrel
    by_cases hlt : k < vs.length
    · have hki : (k : Int) < (vs.length : Int) := by omega
      obtain ⟨b, o, r, rfl, hb, hr, hc0, _, _⟩ := Sl.atEd hs hlt
      have HE := Lib.hid (HAT.out k r hr)
      clear hr
      by_cases h0 : r.at_ < 0
      · have hF : Hid (ans = 3) := Lib.hid (by
          rw [HA.out]; unfold File.checkChange
          rw [File.all_false HE.out (by unfold File.atOk File.inr; rw [decide_eq_false (show ¬ 0 ≤ r.ed.at_ from (by show ¬ 0 ≤ r.at_; omega))]; rfl)]; rfl)
        go_wp2_with fail
        go_ret
        exact ⟨ret_eq (by rw [hF.out]; rfl), Below.refl _ _⟩
      · by_cases h24 : r.at_ > 24
        · have hF : Hid (ans = 3) := Lib.hid (by
            rw [HA.out]; unfold File.checkChange
            rw [File.all_false HE.out (by unfold File.atOk File.inr; rw [decide_eq_false (show ¬ r.ed.at_ ≤ 24 from (by show ¬ r.at_ ≤ 24; omega)), Bool.and_false])]; rfl)
          go_wp2_with fail
          go_ret
          exact ⟨ret_eq (by rw [hF.out]; rfl), Below.refl _ _⟩
        · have HK2 : Hid ((C.take (k + 1)).all File.atOk = true) := Lib.hid (File.all_take HE.out HK.out (by unfold File.atOk File.inr; rw [decide_eq_true (show 0 ≤ r.ed.at_ from (by show 0 ≤ r.at_; omega)), decide_eq_true (show r.ed.at_ ≤ 24 from (by show r.at_ ≤ 24; omega))]; rfl))
          go_wp2_with fail
          go_roundw
          case rel => exact ⟨k + 1, by omega, by go_num, HK2, trivial⟩
          case measure => simp [intOf]; omega
    · have hki : ¬ (k : Int) < (vs.length : Int) := by omega
      have HAO : Hid (C.all File.atOk = true) := Lib.hid (by have := HK.out; rwa [List.take_of_length_le (by rw [HCL.out]; omega)] at this)
      clear HK
      go_wp2_with fail
      go_loopw [4] (fun v wx => ∃ k : Nat, k ≤ vs.length ∧ v = iv (k : Int) ∧ Hid ((C.take k).all File.szOk = true) ∧ Below w.heap.size w wx) (fun v _ => vs.length - (intOf v).toNat)
      case atStart => exact ⟨0, Nat.zero_le _, rfl, rfl, Below.refl _ _⟩
      case round =>
        obtain ⟨k, hk, rfl, HK, hbx⟩ := hrel
        by_cases hlt2 : k < vs.length
        · have hki2 : (k : Int) < (vs.length : Int) := by omega
          obtain ⟨b, o, r, hAb, hb, hr, hc0, hc1, hc2⟩ := Sl.atEd (hs.below hbx) hlt2
          subst hAb
          have HE := Lib.hid (HAT.out k r hr)
          have hrb := HB.out r (mem_at hr)
          clear hr
          have ew : IntKind.i64.wrap ((r.old.length : Int) + (r.new.length : Int)) = (r.old.length : Int) + (r.new.length : Int) := IntWalk.i64_in _ (by omega)
          go_upto_region 10 with fail
          have hbB : Below wr.heap.size wr (wr.alloc (.cells #[Value.int .i64 r.at_, .slice r.A r.old.length r.c, .slice r.A' r.new.length r.c'] 121)) := (Below.refl _ _).alloc (Nat.le_refl _) _
          have hB : Blk (wr.alloc (.cells #[Value.int .i64 r.at_, .slice r.A r.old.length r.c, .slice r.A' r.new.length r.c'] 121)) wr.heap.size 121 #[iv r.at_, .slice r.A r.old.length r.c, .slice r.A' r.new.length r.c'] := Blk.new _ _ _
          generalize wr.alloc (.cells #[Value.int .i64 r.at_, .slice r.A r.old.length r.c, .slice r.A' r.new.length r.c'] 121) = wb at *
          have hbb := hbx.next hbB (Nat.le_refl _)
          have r0 := hB.cell 0
          have r1 := hB.cell 1
          have r2 := hB.cell 2
          have r3 := hB.lt
          clear hbB hB hc0 hc1 hc2 hb
          generalize wr.heap.size = gP at *
          have HSZ : Hid (File.szOk r.ed = (decide (r.old.length ≤ 24) && (decide (r.new.length ≤ 24) && decide (0 < r.old.length + r.new.length)))) := rfl
          by_cases hg1 : (r.old.length : Int) > 24
          · have hF : Hid (ans = 2) := Lib.hid (by
              rw [HA.out]; unfold File.checkChange
              rw [if_pos HAO.out, File.all_false HE.out (by rw [HSZ.out, decide_eq_false (by omega)]; rfl)]; rfl)
            go_wp2_with fail
            go_ret
            exact ⟨ret_eq (by rw [hF.out]; rfl), hbb⟩
          · by_cases hg2 : (r.new.length : Int) > 24
            · have hF : Hid (ans = 2) := Lib.hid (by
                rw [HA.out]; unfold File.checkChange
                rw [if_pos HAO.out, File.all_false HE.out (by rw [HSZ.out, decide_eq_false (show ¬ r.new.length ≤ 24 by omega), Bool.false_and, Bool.and_false])]; rfl)
              go_wp2_with fail
              go_ret
              exact ⟨ret_eq (by rw [hF.out]; rfl), hbb⟩
            · by_cases hg3 : r.old.length + r.new.length = 0
              · have hF : Hid (ans = 2) := Lib.hid (by
                  rw [HA.out]; unfold File.checkChange
                  rw [if_pos HAO.out, File.all_false HE.out (by rw [HSZ.out, decide_eq_false (show ¬ 0 < r.old.length + r.new.length by omega), Bool.and_false, Bool.and_false])]; rfl)
                have hz : ((r.old.length : Int) + (r.new.length : Int) == 0) = true := by rw [beq_iff_eq]; omega
                have hz2 : (r.old.length : Int) + (r.new.length : Int) = 0 := by omega
                have ho0 : r.old.length = 0 := by omega
                have hn0 : r.new.length = 0 := by omega
                clear hg3
                go_wp2_with fail
                go_ret
                exact ⟨ret_eq (by rw [hF.out]; rfl), hbb⟩
              · have hz : ((r.old.length : Int) + (r.new.length : Int) == 0) = false := by rw [beq_eq_false_iff_ne]; omega
                have hz2 : ¬ (r.old.length : Int) + (r.new.length : Int) = 0 := by omega
                have HK2 : Hid ((C.take (k + 1)).all File.szOk = true) := Lib.hid (File.all_take HE.out HK.out (by rw [HSZ.out, decide_eq_true (by omega), decide_eq_true (by omega), decide_eq_true (by omega)]; rfl))
                go_wp2_with fail
                go_roundw
                case rel => exact ⟨k + 1, by omega, by go_num, HK2, hbb⟩
                case measure => simp [intOf]; omega
        · have hki2 : ¬ (k : Int) < (vs.length : Int) := by omega
          have HSO : Hid (C.all File.szOk = true) := Lib.hid (by have := HK.out; rwa [List.take_of_length_le (by rw [HCL.out]; omega)] at this)
          clear HK
          go_wp2_with fail
          have HW0 : Hid ((0 : Int) = File.worst (File.rowsOf (C.take 0))) := rfl
          go_loopw [6, 7] (fun v6 v7 wy => ∃ (k : Nat) (e : Int), k ≤ vs.length ∧ v7 = iv (k : Int) ∧ v6 = iv e ∧ Hid (e = File.worst (File.rowsOf (C.take k))) ∧ Below w.heap.size w wy) (fun _ v7 _ => vs.length - (intOf v7).toNat)
          case atStart => exact ⟨0, 0, Nat.zero_le _, rfl, rfl, HW0, hbx⟩
          case round =>
            clear hbx HW0 hki2
            obtain ⟨k, e, hk, rfl, rfl, HE, hby⟩ := hrel
            by_cases hlt3 : k < vs.length
            · have hki3 : (k : Int) < (vs.length : Int) := by omega
              obtain ⟨b, o, r, hAb, hb, hr, hc0, hc1, hc2⟩ := Sl.atEd hs hlt3
              subst hAb
              have HR := Lib.hid (HAT.out k r hr)
              have HCY : Hid (∀ W, Below w.heap.size w W → W.cell? ⟨b, o + k * 3 + 1, none⟩ = some (.slice r.A r.old.length r.c) ∧ W.cell? ⟨b, o + k * 3 + 2, none⟩ = some (.slice r.A' r.new.length r.c')) := Lib.hid fun W h => (Sl.cellEd hs hr W h).2
              have HL1 : Hid (∀ W, Below w.heap.size w W → Calls Tryz.prog 76 #[.slice r.A r.old.length r.c] W fun e w' => e = .returned (iv (File.lined r.old)) ∧ Below W.heap.size W w') := Lib.hid fun W h => rlines_spec r.A r.old r.c W (by have := HB.out r (mem_at hr); unfold big; omega) ((HOK.out r (mem_at hr)).old.below h)
              have HL2 : Hid (∀ W, Below w.heap.size w W → Calls Tryz.prog 76 #[.slice r.A' r.new.length r.c'] W fun e w' => e = .returned (iv (File.lined r.new)) ∧ Below W.heap.size W w') := Lib.hid fun W h => rlines_spec r.A' r.new r.c' W (by have := HB.out r (mem_at hr); unfold big; omega) ((HOK.out r (mem_at hr)).new.below h)
              have HTK : Hid (File.rowsOf (C.take (k + 1)) = File.rowsOf (C.take k) ++ [r.old, r.new]) := Lib.hid (by
                obtain ⟨hk2, hce⟩ := List.getElem?_eq_some_iff.1 HR.out
                unfold File.rowsOf
                rw [List.take_succ_eq_append_getElem hk2, List.flatMap_append, hce]; rfl)
              clear hr hc0 hc1 hc2
              have HE0 : Hid (e = File.worst (File.rowsOf (C.take k) ++ [r.old, r.new].take 0)) := Lib.hid (by rw [HE.out]; simp)
              go_wp2_with fail
              go_loopw [6, 8] (fun v6 v8 wz => ∃ (t : Nat) (e : Int), t ≤ 2 ∧ v8 = iv (t : Int) ∧ v6 = iv e ∧ Hid (e = File.worst (File.rowsOf (C.take k) ++ [r.old, r.new].take t)) ∧ Below w.heap.size w wz) (fun _ v8 _ => 2 - (intOf v8).toNat)
              case atStart => exact ⟨0, e, by omega, rfl, rfl, HE0, hby⟩
              case round =>
                clear hby HE0 HE
                obtain ⟨t, e, ht, rfl, rfl, HE, hbz⟩ := hrel
                obtain ⟨hc1, hc2⟩ := HCY.out wr hbz
                have hbl : b < wr.heap.size := Nat.lt_of_lt_of_le hb hbz.size
                by_cases ht0 : t = 0
                · subst ht0
                  have HN : Hid (File.worst (File.rowsOf (C.take k) ++ [r.old, r.new].take (0 + 1)) = File.worse e (File.lined r.old)) := Lib.hid (by rw [HE.out, show [r.old, r.new].take (0 + 1) = [r.old] from rfl, File.worst_snoc]; simp)
                  go_wp2_with fail
                  refine (HL1.out wr hbz).mono ?_
                  rintro e1 w2 ⟨rfl, hb2⟩
                  have hbz2 := hbz.next hb2 (Nat.le_refl _)
                  have hlc := File.lined_cases r.old
                  obtain ⟨n, hn⟩ : ∃ n, n = File.lined r.old := ⟨_, rfl⟩
                  rw [← hn] at HN hlc
                  rw [← hn]
                  have HN2 := HN.out
                  clear hn hc1 hc2 HN
                  rcases hlc with rfl | rfl | rfl
                  · have HN3 := Lib.hid (HN2.trans (show File.worse e 0 = e from rfl)).symm
                    clear HN2
                    go_wp2_with fail
                    go_roundw
                    case rel => exact ⟨1, e, by omega, by go_num, rfl, HN3, hbz2⟩
                    case measure => simp [intOf]
                  · have HN3 := Lib.hid (HN2.trans (show File.worse e 10 = 10 from rfl)).symm
                    clear HN2
                    go_wp2_with fail
                    go_roundw
                    case rel => exact ⟨1, 10, by omega, by go_num, rfl, HN3, hbz2⟩
                    case measure => simp [intOf]
                  · by_cases he0 : e = 0
                    · have HN3 := Lib.hid (HN2.trans (show File.worse e 11 = 11 by unfold File.worse; rw [if_neg (by decide), if_pos ⟨rfl, he0⟩])).symm
                      clear HN2
                      have he1 : (e == 0) = true := by rw [he0]; rfl
                      go_wp2_with fail
                      go_roundw
                      case rel => exact ⟨1, 11, by omega, by go_num, rfl, HN3, hbz2⟩
                      case measure => simp [intOf]
                    · have HN3 := Lib.hid (HN2.trans (show File.worse e 11 = e by unfold File.worse; rw [if_neg (by decide), if_neg (fun h => he0 h.2)])).symm
                      clear HN2
                      have he1 : (e == 0) = false := by rw [beq_eq_false_iff_ne]; exact he0
                      go_wp2_with fail
                      go_roundw
                      case rel => exact ⟨1, e, by omega, by go_num, rfl, HN3, hbz2⟩
                      case measure => simp [intOf]
                · by_cases ht1 : t = 1
                  · subst ht1
                    have HN : Hid (File.worst (File.rowsOf (C.take k) ++ [r.old, r.new].take (1 + 1)) = File.worse e (File.lined r.new)) := Lib.hid (by rw [HE.out, show [r.old, r.new].take (1 + 1) = [r.old] ++ [r.new] from rfl, ← List.append_assoc, File.worst_snoc]; rfl)
                    clear ht0
                    go_wp2_with fail
                    refine (HL2.out wr hbz).mono ?_
                    rintro e1 w2 ⟨rfl, hb2⟩
                    have hbz2 := hbz.next hb2 (Nat.le_refl _)
                    have hlc := File.lined_cases r.new
                    obtain ⟨n, hn⟩ : ∃ n, n = File.lined r.new := ⟨_, rfl⟩
                    rw [← hn] at HN hlc
                    rw [← hn]
                    have HN2 := HN.out
                    clear hn hc1 hc2 HN
                    rcases hlc with rfl | rfl | rfl
                    · have HN3 := Lib.hid (HN2.trans (show File.worse e 0 = e from rfl)).symm
                      clear HN2
                      go_wp2_with fail
                      go_roundw
                      case rel => exact ⟨2, e, by omega, by go_num, rfl, HN3, hbz2⟩
                      case measure => simp [intOf]
                    · have HN3 := Lib.hid (HN2.trans (show File.worse e 10 = 10 from rfl)).symm
                      clear HN2
                      go_wp2_with fail
                      go_roundw
                      case rel => exact ⟨2, 10, by omega, by go_num, rfl, HN3, hbz2⟩
                      case measure => simp [intOf]
                    · by_cases he0 : e = 0
                      · have HN3 := Lib.hid (HN2.trans (show File.worse e 11 = 11 by unfold File.worse; rw [if_neg (by decide), if_pos ⟨rfl, he0⟩])).symm
                        clear HN2
                        have he1 : (e == 0) = true := by rw [he0]; rfl
                        go_wp2_with fail
                        go_roundw
                        case rel => exact ⟨2, 11, by omega, by go_num, rfl, HN3, hbz2⟩
                        case measure => simp [intOf]
                      · have HN3 := Lib.hid (HN2.trans (show File.worse e 11 = e by unfold File.worse; rw [if_neg (by decide), if_neg (fun h => he0 h.2)])).symm
                        clear HN2
                        have he1 : (e == 0) = false := by rw [beq_eq_false_iff_ne]; exact he0
                        go_wp2_with fail
                        go_roundw
                        case rel => exact ⟨2, e, by omega, by go_num, rfl, HN3, hbz2⟩
                        case measure => simp [intOf]
                  · have ht2 : t = 2 := by omega
                    subst ht2
                    have HE3 : Hid (e = File.worst (File.rowsOf (C.take (k + 1)))) := Lib.hid (by rw [HTK.out]; exact HE.out)
                    clear ht0 ht1 HE hc1 hc2
                    go_wp2_with fail
                    go_roundw
                    case rel => exact ⟨k + 1, e, by omega, by go_num, rfl, HE3, hbz⟩
                    case measure => simp [intOf]; omega
            · have hki3 : ¬ (k : Int) < (vs.length : Int) := by omega
              have HWE : Hid (e = File.lined (File.allLines C)) := Lib.hid (by
                have := HE.out
                rwa [List.take_of_length_le (by rw [HCL.out]; omega), File.worst_eq, File.rows_lines] at this)
              by_cases he0 : e = 0
              · subst he0
                have HAN : Hid (ans = if File.ordered C then 0 else 4) := Lib.hid (by
                  rw [HA.out]; unfold File.checkChange
                  rw [if_pos HAO.out, if_pos HSO.out, if_pos HWE.out.symm])
                have HO1 : Hid (File.ordered (C.take 1) = true) := Lib.hid (File.ordered_one (by simp; omega))
                clear HE HWE
                go_wp2_with fail
                go_loopw [11] (fun v wz => ∃ k j : Nat, k = j + 1 ∧ j ≤ vs.length ∧ v = iv (k : Int) ∧ Hid (File.ordered (C.take k) = true) ∧ Below w.heap.size w wz) (fun v _ => vs.length + 1 - (intOf v).toNat)
                case atStart => exact ⟨1, 0, rfl, Nat.zero_le _, rfl, HO1, hby⟩
                case round =>
                  clear hby HO1
                  obtain ⟨k, j, hkj, hj, rfl, HO, hbz⟩ := hrel
                  by_cases hlt5 : k < vs.length
                  · have hki5 : (k : Int) < (vs.length : Int) := by omega
                    obtain ⟨b, o, z, hAb, hb, hx, _, _, _⟩ := Sl.atEd hs (show j < vs.length by omega)
                    subst hAb
                    obtain ⟨b', o', y, hAb, _, hy, _, _, _⟩ := Sl.atEd hs hlt5
                    injection hAb with hAb
                    injection hAb with e1 e2 _
                    subst e1 e2
                    have HCX : Hid (∀ W, Below w.heap.size w W → W.cell? ⟨b, o + j * 3, none⟩ = some (iv z.at_) ∧ W.cell? ⟨b, o + j * 3 + 1, none⟩ = some (.slice z.A z.old.length z.c) ∧ W.cell? ⟨b, o + k * 3, none⟩ = some (iv y.at_)) := Lib.hid fun W h => ⟨(Sl.cellEd hs hx W h).1, (Sl.cellEd hs hx W h).2.1, (Sl.cellEd hs hy W h).1⟩
                    have HX := Lib.hid (HAT.out j z hx)
                    have HY : Hid (C[j + 1]? = some y.ed) := Lib.hid (by rw [← hkj]; exact HAT.out k y hy)
                    have hxb := HB.out z (mem_at hx)
                    have hxa : -1 ≤ z.at_ ∧ z.at_ ≤ 24 := by
                      have := List.all_eq_true.1 HAO.out z.ed (List.mem_of_getElem? HX.out)
                      unfold File.atOk File.inr at this
                      rw [Bool.and_eq_true, decide_eq_true_eq, decide_eq_true_eq] at this
                      have h1 : 0 ≤ z.at_ := this.1
                      have h2 : z.at_ ≤ 24 := this.2
                      omega
                    have ewk : IntKind.i64.wrap ((k : Int) - 1) = (j : Int) := by rw [show (k : Int) - 1 = (j : Int) by omega]; exact IntWalk.i64_in _ (by omega)
                    have ews : IntKind.i64.wrap (z.at_ + (z.old.length : Int)) = z.at_ + (z.old.length : Int) := IntWalk.i64_in _ (by omega)
                    have hji : (j : Int) < (vs.length : Int) := by omega
                    obtain ⟨q, hq⟩ : ∃ q, decide (y.at_ ≤ z.at_ + (z.old.length : Int)) = q := ⟨_, rfl⟩
                    have HQ := Lib.hid hq
                    have HKJ := Lib.hid hkj
                    have hkj2 : k ≤ j + 1 := by omega
                    clear hx hy hkj
                    go_upto_region 30 with fail
                    refine wp_free_lit (by kernel_rfl) 20 (by kernel_rfl) (by kernel_rfl) (by decide) (fun nR x => Below wr.heap.size wr x) (fun x x' => Below x.heap.size x x')
                      [fun _ u _ => u = .slice (some ⟨b, o, none⟩) vs.length c,
                       fun _ u _ => u = iv (k : Int),
                       fun _ u _ => u = .pointer (some ⟨b, o + k * 3, none⟩),
                       fun _ u _ => u = .pointer (some ⟨b, o + k * 3, none⟩),
                       fun _ u _ => u = iv y.at_,
                       fun _ u _ => u = .slice (some ⟨b, o, none⟩) vs.length c,
                       fun _ u _ => u = iv (k : Int),
                       fun _ u _ => u = iv (j : Int),
                       fun _ u _ => u = .pointer (some ⟨b, o + j * 3, none⟩),
                       fun _ u _ => u = .pointer (some ⟨b, o + j * 3, none⟩),
                       fun _ u _ => u = iv z.at_,
                       fun _ u _ => u = .slice (some ⟨b, o, none⟩) vs.length c,
                       fun _ u _ => u = iv (k : Int),
                       fun _ u _ => u = iv (j : Int),
                       fun _ u _ => u = .pointer (some ⟨b, o + j * 3, none⟩),
                       fun _ u _ => u = .pointer (some ⟨b, o + j * 3 + 1, none⟩),
                       fun _ u _ => u = .slice z.A z.old.length z.c,
                       fun _ u _ => u = iv (z.old.length : Int),
                       fun _ u _ => u = iv (z.at_ + (z.old.length : Int)),
                       fun _ u _ => u = .bool q]
                      (Below.refl _ wr).drew ?_ ?_
                    · simp only [List.take_succ_cons, List.take_zero, HopL]
                      refine ⟨?_, ?_, ?_, ?_, ?_, ?_, ?_, ?_, ?_, ?_, ?_, ?_, ?_, ?_, ?_, ?_, ?_, ?_, ?_, ?_, trivial⟩
                      · refine ⟨fun _ _ _ _ _ h => h, fun _ _ _ _ h _ => h, fun v nR x hnR hR hk => ?_⟩
                        simp only [List.take_succ_cons, List.take_zero, frameF, Act.put, List.setIfInBounds_toArray, List.set_cons_zero, List.set_cons_succ]
                        exact stepF_val (by first | rfl | simp [Region.wanted, yielded, *]) (by go_simp <;> omega) ⟨rfl, Below.refl _ _, hR⟩
                      · refine ⟨fun _ _ _ _ _ h => h, fun _ _ _ _ h _ => h, fun v nR x hnR hR hk => ?_⟩
                        simp only [List.take_succ_cons, List.take_zero, frameF, Act.put, List.setIfInBounds_toArray, List.set_cons_zero, List.set_cons_succ]
                        exact stepF_val (by first | rfl | simp [Region.wanted, yielded, *]) (by go_simp <;> omega) ⟨rfl, Below.refl _ _, hR⟩
                      · refine ⟨fun _ _ _ _ _ h => h, fun _ _ _ _ h _ => h, fun v nR x hnR hR hk => ?_⟩
                        have h0 : v 0 = .slice (some ⟨b, o, none⟩) vs.length c := hk 0 (by kernel_rfl)
                        have h1 : v 1 = iv (k : Int) := hk 1 (by kernel_rfl)
                        simp only [List.take_succ_cons, List.take_zero, frameF, Act.put, List.setIfInBounds_toArray, List.set_cons_zero, List.set_cons_succ]
                        exact stepF_val (by first | rfl | simp [Region.wanted, yielded, *]) (by go_simp <;> omega) ⟨rfl, Below.refl _ _, hR⟩
                      · refine ⟨fun _ _ _ _ _ h => h, fun _ _ _ _ h _ => h, fun v nR x hnR hR hk => ?_⟩
                        have h2 : v 2 = .pointer (some ⟨b, o + k * 3, none⟩) := hk 2 (by kernel_rfl)
                        simp only [List.take_succ_cons, List.take_zero, frameF, Act.put, List.setIfInBounds_toArray, List.set_cons_zero, List.set_cons_succ]
                        exact stepF_val (by first | rfl | simp [Region.wanted, yielded, *]) (by go_simp <;> omega) ⟨rfl, Below.refl _ _, hR⟩
                      · refine ⟨fun _ _ _ _ _ h => h, fun _ _ _ _ h _ => h, fun v nR x hnR hR hk => ?_⟩
                        have h3 : v 3 = .pointer (some ⟨b, o + k * 3, none⟩) := hk 3 (by kernel_rfl)
                        have g1 := (HCX.out x (hbz.next hR (Nat.le_refl _))).2.2
                        simp only [List.take_succ_cons, List.take_zero, frameF, Act.put, List.setIfInBounds_toArray, List.set_cons_zero, List.set_cons_succ]
                        exact stepF_val (by first | rfl | simp [Region.wanted, yielded, *]) (by go_simp <;> omega) ⟨rfl, Below.refl _ _, hR⟩
                      · refine ⟨fun _ _ _ _ _ h => h, fun _ _ _ _ h _ => h, fun v nR x hnR hR hk => ?_⟩
                        simp only [List.take_succ_cons, List.take_zero, frameF, Act.put, List.setIfInBounds_toArray, List.set_cons_zero, List.set_cons_succ]
                        exact stepF_val (by first | rfl | simp [Region.wanted, yielded, *]) (by go_simp <;> omega) ⟨rfl, Below.refl _ _, hR⟩
                      · refine ⟨fun _ _ _ _ _ h => h, fun _ _ _ _ h _ => h, fun v nR x hnR hR hk => ?_⟩
                        simp only [List.take_succ_cons, List.take_zero, frameF, Act.put, List.setIfInBounds_toArray, List.set_cons_zero, List.set_cons_succ]
                        exact stepF_val (by first | rfl | simp [Region.wanted, yielded, *]) (by go_simp <;> omega) ⟨rfl, Below.refl _ _, hR⟩
                      · refine ⟨fun _ _ _ _ _ h => h, fun _ _ _ _ h _ => h, fun v nR x hnR hR hk => ?_⟩
                        have h6 : v 6 = iv (k : Int) := hk 6 (by kernel_rfl)
                        simp only [List.take_succ_cons, List.take_zero, frameF, Act.put, List.setIfInBounds_toArray, List.set_cons_zero, List.set_cons_succ]
                        exact stepF_val (by first | rfl | simp [Region.wanted, yielded, *]) (by go_simp <;> omega) ⟨rfl, Below.refl _ _, hR⟩
                      · refine ⟨fun _ _ _ _ _ h => h, fun _ _ _ _ h _ => h, fun v nR x hnR hR hk => ?_⟩
                        have h5 : v 5 = .slice (some ⟨b, o, none⟩) vs.length c := hk 5 (by kernel_rfl)
                        have h7 : v 7 = iv (j : Int) := hk 7 (by kernel_rfl)
                        simp only [List.take_succ_cons, List.take_zero, frameF, Act.put, List.setIfInBounds_toArray, List.set_cons_zero, List.set_cons_succ]
                        exact stepF_val (by first | rfl | simp [Region.wanted, yielded, *]) (by go_simp <;> omega) ⟨rfl, Below.refl _ _, hR⟩
                      · refine ⟨fun _ _ _ _ _ h => h, fun _ _ _ _ h _ => h, fun v nR x hnR hR hk => ?_⟩
                        have h8 : v 8 = .pointer (some ⟨b, o + j * 3, none⟩) := hk 8 (by kernel_rfl)
                        simp only [List.take_succ_cons, List.take_zero, frameF, Act.put, List.setIfInBounds_toArray, List.set_cons_zero, List.set_cons_succ]
                        exact stepF_val (by first | rfl | simp [Region.wanted, yielded, *]) (by go_simp <;> omega) ⟨rfl, Below.refl _ _, hR⟩
                      · refine ⟨fun _ _ _ _ _ h => h, fun _ _ _ _ h _ => h, fun v nR x hnR hR hk => ?_⟩
                        have h9 : v 9 = .pointer (some ⟨b, o + j * 3, none⟩) := hk 9 (by kernel_rfl)
                        have g1 := (HCX.out x (hbz.next hR (Nat.le_refl _))).1
                        simp only [List.take_succ_cons, List.take_zero, frameF, Act.put, List.setIfInBounds_toArray, List.set_cons_zero, List.set_cons_succ]
                        exact stepF_val (by first | rfl | simp [Region.wanted, yielded, *]) (by go_simp <;> omega) ⟨rfl, Below.refl _ _, hR⟩
                      · refine ⟨fun _ _ _ _ _ h => h, fun _ _ _ _ h _ => h, fun v nR x hnR hR hk => ?_⟩
                        simp only [List.take_succ_cons, List.take_zero, frameF, Act.put, List.setIfInBounds_toArray, List.set_cons_zero, List.set_cons_succ]
                        exact stepF_val (by first | rfl | simp [Region.wanted, yielded, *]) (by go_simp <;> omega) ⟨rfl, Below.refl _ _, hR⟩
                      · refine ⟨fun _ _ _ _ _ h => h, fun _ _ _ _ h _ => h, fun v nR x hnR hR hk => ?_⟩
                        simp only [List.take_succ_cons, List.take_zero, frameF, Act.put, List.setIfInBounds_toArray, List.set_cons_zero, List.set_cons_succ]
                        exact stepF_val (by first | rfl | simp [Region.wanted, yielded, *]) (by go_simp <;> omega) ⟨rfl, Below.refl _ _, hR⟩
                      · refine ⟨fun _ _ _ _ _ h => h, fun _ _ _ _ h _ => h, fun v nR x hnR hR hk => ?_⟩
                        have h12 : v 12 = iv (k : Int) := hk 12 (by kernel_rfl)
                        simp only [List.take_succ_cons, List.take_zero, frameF, Act.put, List.setIfInBounds_toArray, List.set_cons_zero, List.set_cons_succ]
                        exact stepF_val (by first | rfl | simp [Region.wanted, yielded, *]) (by go_simp <;> omega) ⟨rfl, Below.refl _ _, hR⟩
                      · refine ⟨fun _ _ _ _ _ h => h, fun _ _ _ _ h _ => h, fun v nR x hnR hR hk => ?_⟩
                        have h11 : v 11 = .slice (some ⟨b, o, none⟩) vs.length c := hk 11 (by kernel_rfl)
                        have h13 : v 13 = iv (j : Int) := hk 13 (by kernel_rfl)
                        simp only [List.take_succ_cons, List.take_zero, frameF, Act.put, List.setIfInBounds_toArray, List.set_cons_zero, List.set_cons_succ]
                        exact stepF_val (by first | rfl | simp [Region.wanted, yielded, *]) (by go_simp <;> omega) ⟨rfl, Below.refl _ _, hR⟩
                      · refine ⟨fun _ _ _ _ _ h => h, fun _ _ _ _ h _ => h, fun v nR x hnR hR hk => ?_⟩
                        have h14 : v 14 = .pointer (some ⟨b, o + j * 3, none⟩) := hk 14 (by kernel_rfl)
                        simp only [List.take_succ_cons, List.take_zero, frameF, Act.put, List.setIfInBounds_toArray, List.set_cons_zero, List.set_cons_succ]
                        exact stepF_val (by first | rfl | simp [Region.wanted, yielded, *]) (by go_simp <;> omega) ⟨rfl, Below.refl _ _, hR⟩
                      · refine ⟨fun _ _ _ _ _ h => h, fun _ _ _ _ h _ => h, fun v nR x hnR hR hk => ?_⟩
                        have h15 : v 15 = .pointer (some ⟨b, o + j * 3 + 1, none⟩) := hk 15 (by kernel_rfl)
                        have g1 := (HCX.out x (hbz.next hR (Nat.le_refl _))).2.1
                        simp only [List.take_succ_cons, List.take_zero, frameF, Act.put, List.setIfInBounds_toArray, List.set_cons_zero, List.set_cons_succ]
                        exact stepF_val (by first | rfl | simp [Region.wanted, yielded, *]) (by go_simp <;> omega) ⟨rfl, Below.refl _ _, hR⟩
                      · refine ⟨fun _ _ _ _ _ h => h, fun _ _ _ _ h _ => h, fun v nR x hnR hR hk => ?_⟩
                        have h16 : v 16 = .slice z.A z.old.length z.c := hk 16 (by kernel_rfl)
                        simp only [List.take_succ_cons, List.take_zero, frameF, Act.put, List.setIfInBounds_toArray, List.set_cons_zero, List.set_cons_succ]
                        exact stepF_val (by first | rfl | simp [Region.wanted, yielded, *]) (by go_simp <;> omega) ⟨rfl, Below.refl _ _, hR⟩
                      · refine ⟨fun _ _ _ _ _ h => h, fun _ _ _ _ h _ => h, fun v nR x hnR hR hk => ?_⟩
                        have h10 : v 10 = iv z.at_ := hk 10 (by kernel_rfl)
                        have h17 : v 17 = iv (z.old.length : Int) := hk 17 (by kernel_rfl)
                        simp only [List.take_succ_cons, List.take_zero, frameF, Act.put, List.setIfInBounds_toArray, List.set_cons_zero, List.set_cons_succ]
                        exact stepF_val (by first | rfl | simp [Region.wanted, yielded, *]) (by go_simp <;> omega) ⟨rfl, Below.refl _ _, hR⟩
                      · refine ⟨fun _ _ _ _ _ h => h, fun _ _ _ _ h _ => h, fun v nR x hnR hR hk => ?_⟩
                        have h4 : v 4 = iv y.at_ := hk 4 (by kernel_rfl)
                        have h18 : v 18 = iv (z.at_ + (z.old.length : Int)) := hk 18 (by kernel_rfl)
                        simp only [List.take_succ_cons, List.take_zero, frameF, Act.put, List.setIfInBounds_toArray, List.set_cons_zero, List.set_cons_succ]
                        exact stepF_val (by first | rfl | simp [Region.wanted, yielded, *]) (by go_simp <;> omega) ⟨rfl, Below.refl _ _, hR⟩
                    · intro v nR x1 hnR hR hall
                      have h19 : v 19 = .bool q := hall 19 (by decide)
                      clear hall hnR
                      simp only [List.drop_succ_cons, List.drop_zero, List.take_succ_cons, List.take_zero, frameF, Act.put, List.setIfInBounds_toArray, List.set_cons_zero, List.set_cons_succ, Nat.zero_add, Nat.reduceAdd, h19]
                      have hbz2 := hbz.next hR (Nat.le_refl _)
                      clear hq hR hbz
                      cases q
                      · have HO2 : Hid (File.ordered (C.take (k + 1)) = true) := Lib.hid (by
                          rw [HKJ.out, File.ordered_take HX.out HY.out, ← HKJ.out, HO.out, show decide (y.ed.at_ ≤ z.ed.at_ + (z.ed.old.length : Int)) = false from HQ.out]; rfl)
                        go_wp2_with fail
                        go_roundw
                        case rel => exact ⟨k + 1, k, rfl, by omega, by go_num, HO2, hbz2⟩
                        case measure => simp [intOf]; omega
                      · have hF : Hid (ans = 4) := Lib.hid (by
                          rw [HAN.out, File.ordered_false HX.out HY.out (of_decide_eq_true (show decide (y.ed.at_ ≤ z.ed.at_ + (z.ed.old.length : Int)) = true from HQ.out))]; rfl)
                        go_wp2_with fail
                        go_ret
                        exact ⟨ret_eq (by rw [hF.out]; rfl), hbz2⟩
                  · have hki5 : ¬ (k : Int) < (vs.length : Int) := by omega
                    have hF : Hid (ans = 0) := Lib.hid (by
                      have := HO.out
                      rw [List.take_of_length_le (by rw [HCL.out]; omega)] at this
                      rw [HAN.out, this]; rfl)
                    go_wp2_with fail
                    go_ret
                    exact ⟨ret_eq (by rw [hF.out]; rfl), hbz⟩
              · have hF : Hid (ans = e) := Lib.hid (by
                  rw [HA.out]; unfold File.checkChange
                  rw [if_pos HAO.out, if_pos HSO.out, if_neg (by rw [← HWE.out]; exact he0), HWE.out])
                have he1 : (e != 0) = true := by rw [bne_iff_ne]; exact he0
                clear HE HWE
                go_wp2_with fail
                go_ret
                exact ⟨ret_eq (by rw [hF.out]; rfl), hby⟩
end Fl
end Go.Proofs.YtekkhnjepcebkaaGreatDoor
end
section
namespace Go.Proofs.YtekkhnjepcebkaaGreatDoor
namespace File
theorem cut_next {f : List ByteArray} {p q : Nat} {s : ByteArray} (h : p ≤ q) (hs : f[q]? = some s) : cut f p (q + 1) = cut f p q ++ [s] := by
  obtain ⟨hq, rfl⟩ := List.getElem?_eq_some_iff.1 hs
  rw [← cut_cut h (Nat.le_succ q)]
  congr 1
  unfold cut
  rw [List.drop_eq_getElem_cons hq, show q + 1 - q = 1 by omega]
  rfl
theorem byOf_take {c : List (Edit ByteArray)} {k : Nat} {x : Edit ByteArray} (h : c[k]? = some x) : byOf (c.take (k + 1)) = byOf (c.take k) + ((x.new.length : Int) - (x.old.length : Int)) := by
  obtain ⟨hk, rfl⟩ := List.getElem?_eq_some_iff.1 h
  rw [List.take_succ_eq_append_getElem hk, byOf_snoc]
theorem byOf_le {K : Nat} : ∀ {c : List (Edit ByteArray)}, (∀ x ∈ c, x.old.length ≤ K ∧ x.new.length ≤ K) → -((c.length * K : Nat) : Int) ≤ byOf c ∧ byOf c ≤ ((c.length * K : Nat) : Int)
  | [], _ => by simp [byOf]
  | x :: r, h => by
    have ih := byOf_le (c := r) fun y hy => h y (List.mem_cons_of_mem _ hy)
    have hx := h x (by simp)
    have : ((x :: r).length * K : Nat) = r.length * K + K := by simp [Nat.add_mul]
    rw [this]
    unfold byOf
    omega
end File
namespace Fl
open Go.RowKit
set_option maxRecDepth 100000
set_option maxHeartbeats 8000000 in
theorem rmake_spec (F : Option Addr) (f : List ByteArray) (cf : Nat) (A : Option Addr) (vs : List EdV) (c : Nat) (w : World) (hF : f.length ≤ 30) (hfc : f.length ≤ cf) (hsF : Sl strE w F f) (hm : vs.length ≤ 1000) (hs : Sl edE w A vs) (hok : ∀ r ∈ vs, EdOk w r) (hch : File.ChOk (vs.map EdV.ed)) :
    Calls Tryz.prog 29 #[.slice F f.length cf, .slice A vs.length c] w fun e w' => ∃ v, e = .returned (.tuple #[v, iv (File.refMake f (vs.map EdV.ed)).2]) ∧ Own strE 9 w.heap.size w' v (File.refMake f (vs.map EdV.ed)).1 ∧ Below w.heap.size w w' := by
  obtain ⟨ans, hans⟩ : ∃ ans, ans = File.refMake f (vs.map EdV.ed) := ⟨_, rfl⟩
  rw [← hans]
  obtain ⟨R, hR⟩ : ∃ R, R = File.makeGo f 0 (vs.map EdV.ed) := ⟨_, rfl⟩
  have HA1 : Hid (R = none → ans = ([], 7)) := Lib.hid fun h => by rw [hans]; unfold File.refMake; rw [← hR, h]
  have HA2 : Hid (∀ l, R = some l → ans = if 24 < l.length then ([], 2) else (l, 0)) := Lib.hid fun l h => by rw [hans]; unfold File.refMake; rw [← hR, h]
  have HSM : Hid (∀ r ∈ vs, 0 ≤ r.at_ ∧ r.at_ ≤ 24 ∧ r.old.length ≤ 24 ∧ r.new.length ≤ 24) := Lib.hid fun r hr => ⟨(hch.at_ r.ed (List.mem_map_of_mem hr)).1, (hch.at_ r.ed (List.mem_map_of_mem hr)).2, hch.old r.ed (List.mem_map_of_mem hr), hch.new r.ed (List.mem_map_of_mem hr)⟩
  have HCH := Lib.hid (File.ch_chain hch)
  have HOK := Lib.hid hok
  have HR : Hid ((File.makeGo f 0 ((vs.map EdV.ed).drop 0)).map (([] : List ByteArray) ++ ·) = R) := Lib.hid (by rw [hR, List.drop_zero]; cases File.makeGo f 0 (vs.map EdV.ed) <;> rfl)
  clear hans hR hch hok
  go_enter Tryz.func29, Tryz.ntmps29
  go_wp2_with fail
  go_loopw [6, 7, 8] (fun u v7 v8 wr => ∃ (k p : Nat) (out : List ByteArray), k ≤ vs.length ∧ p ≤ f.length ∧ v7 = iv (p : Int) ∧ v8 = iv (k : Int) ∧ out.length ≤ 54 * k ∧ Hid ((File.makeGo f p ((vs.map EdV.ed).drop k)).map (out ++ ·) = R) ∧ Hid (File.Chain p ((vs.map EdV.ed).drop k)) ∧ Hid (Own strE 9 w.heap.size wr u out) ∧ Below w.heap.size w wr) (fun _ _ v8 _ => vs.length - (intOf v8).toNat)
  case atStart => exact ⟨0, 0, [], Nat.zero_le _, Nat.zero_le _, rfl, rfl, Nat.le_refl _, HR, HCH, Own.nil, Below.refl _ _⟩
  case round =>
    clear HR HCH
    obtain ⟨k, p, out, hk, hp, rfl, rfl, hol, HR, HCH, HO, hbr⟩ := hrel
    by_cases hlt : k < vs.length
    · have hki : (k : Int) < (vs.length : Int) := by omega
      obtain ⟨bv, ov, y, rfl, hbv, hy, hc0, hc1, hc2⟩ := Sl.atEd (hs.below hbr) hlt
      have hys := HSM.out y (mem_at hy)
      have HYO : Hid (∀ W, Below w.heap.size w W → Sl strE W y.A y.old) := Lib.hid fun W h => (HOK.out y (mem_at hy)).old.below h
      have HYN : Hid (∀ W, Below w.heap.size w W → Sl strE W y.A' y.new) := Lib.hid fun W h => (HOK.out y (mem_at hy)).new.below h
      have hr := HR.out
      have hc := HCH.out
      rw [drop_ed hy] at hr hc
      unfold File.makeGo at hr
      obtain ⟨hcc1, hcc2⟩ := hc
      obtain ⟨ya, yA, yc, yo, yA', yc', yn⟩ := y
      simp only at hys HYO HYN hc0 hc1 hc2
      obtain ⟨n, rfl⟩ : ∃ n : Nat, ya = (n : Int) := ⟨ya.toNat, by omega⟩
      have hr : (if ((n : Int) ≤ (f.length : Int) ∧ File.fitGo f n yo = true) then (File.makeGo f (n + yo.length) ((vs.map EdV.ed).drop (k + 1))).map (fun l => File.cut f p n ++ (yn ++ l)) else none).map (out ++ ·) = R := hr
      have hpn : p ≤ n := by have : (p : Int) ≤ (n : Int) := hcc1; omega
      have HC3 : Hid (File.Chain (n + yo.length) ((vs.map EdV.ed).drop (k + 1))) := Lib.hid (hcc2.weaken (Nat.le_succ _))
      have HNO : Hid (¬ ((n : Int) ≤ (f.length : Int) ∧ File.fitGo f n yo = true) → ans = ([], 7)) := Lib.hid fun h => HA1.out (by rw [← hr, if_neg h]; rfl)
      have HYES : Hid (((n : Int) ≤ (f.length : Int) ∧ File.fitGo f n yo = true) → (File.makeGo f (n + yo.length) ((vs.map EdV.ed).drop (k + 1))).map (((out ++ File.cut f p n) ++ yn) ++ ·) = R) := Lib.hid fun h => by
        rw [← hr, if_pos h, Option.map_map]
        congr 1
        funext l
        simp
      clear hr hcc1 hcc2 HR HCH hy
      go_wp2_with fail
      have hbB : Below wr.heap.size wr (wr.alloc (.cells #[iv (n : Int), .slice yA yo.length yc, .slice yA' yn.length yc'] 121)) := (Below.refl _ _).alloc (Nat.le_refl _) _
      have hB : Blk (wr.alloc (.cells #[iv (n : Int), .slice yA yo.length yc, .slice yA' yn.length yc'] 121)) wr.heap.size 121 #[iv (n : Int), .slice yA yo.length yc, .slice yA' yn.length yc'] := Blk.new _ _ _
      generalize wr.alloc (.cells #[iv (n : Int), .slice yA yo.length yc, .slice yA' yn.length yc'] 121) = wb at *
      have hbb := hbr.next hbB (Nat.le_refl _)
      have HO1 := Lib.hid (HO.out.below hbB)
      have HB1 := Lib.hid hB
      generalize wr.heap.size = gP at *
      clear hbB hB hc0 hc1 hc2 HO hbr
      go_loopw [6, 7] (fun u6 v7 wx => ∃ q : Nat, p ≤ q ∧ q ≤ n ∧ q ≤ f.length ∧ v7 = iv (q : Int) ∧ Hid (Own strE 9 w.heap.size wx u6 (out ++ File.cut f p q)) ∧ Hid (Blk wx gP 121 #[iv (n : Int), .slice yA yo.length yc, .slice yA' yn.length yc']) ∧ Below w.heap.size w wx) (fun _ v7 _ => f.length - (intOf v7).toNat)
      case atStart => exact ⟨p, Nat.le_refl _, hpn, hp, rfl, by rw [show File.cut f p p = [] by unfold File.cut; simp, List.append_nil]; exact HO1, HB1, hbb⟩
      case round =>
        clear HO1 HB1 hbb
        obtain ⟨q, hpq, hqn, hqf, rfl, HO, HB, hbx⟩ := hrel
        have hB := HB.out
        have hg0 := hB.cell 0
        have hgl := hB.lt
        have hcl := File.cut_len f p q
        clear hB
        by_cases hqn2 : q < n
        · have hqi : (q : Int) < (n : Int) := by omega
          by_cases hqf2 : q < f.length
          · have hfi : (q : Int) < (f.length : Int) := by omega
            obtain ⟨b2, off2, s, hA2, hb2', hs2, hd2⟩ := Sl.atS (hsF.below hbx) hqf2
            subst hA2
            have HCN : Hid ((out ++ File.cut f p q) ++ [s] = out ++ File.cut f p (q + 1)) := Lib.hid (by rw [File.cut_next hpq hs2, List.append_assoc])
            have hlen : (out ++ File.cut f p q).length + 1 ≤ big := by rw [List.length_append]; unfold big; omega
            clear hs2
            go_wp2_with (at_builtin; refine wpApp1 strE tyStrs rfl _ _ rfl HO.out s rfl rfl rfl hbx.size hlen ?_; intro v2 w2 hown2 hb2 hk2)
            have HO2 : Hid (Own strE 9 w.heap.size w2 v2 (out ++ File.cut f p (q + 1))) := Lib.hid (by rw [← HCN.out]; exact hown2)
            have HB2 : Hid (Blk w2 gP 121 #[iv (n : Int), .slice yA yo.length yc, .slice yA' yn.length yc']) := Lib.hid ((hk2 _ hgl (ownNeBlk HO.out HB.out (by decide))).trans HB.out)
            have hb02 := hbx.trans hb2
            clear hown2 hk2 hb2 HO HB hlen hcl
            go_wp2_with fail
            go_roundw
            case rel => exact ⟨q + 1, by omega, by omega, by omega, by go_num, HO2, HB2, hb02⟩
            case measure => simp [intOf]; omega
          · have hfi : ¬ (q : Int) < (f.length : Int) := by omega
            have HX : Hid (ans = ([], 7)) := Lib.hid (HNO.out fun h => by omega)
            go_wp2_with fail
            go_ret2
            exact ⟨.slice none 0 0, by rw [HX.out]; rfl, by rw [HX.out]; exact Own.nil, hbx⟩
        · obtain rfl : q = n := by omega
          have hqi : ¬ (q : Int) < (q : Int) := by omega
          have HF0 : Hid (File.fitGo f (q + 0) (yo.drop 0) = File.fitGo f q yo) := rfl
          go_wp2_with fail
          generalize wr = w5 at *
          go_loopw [7, 10] (fun v7 v10 wz => ∃ j t : Nat, Hid (t = q + j) ∧ j ≤ yo.length ∧ t ≤ f.length ∧ v7 = iv (t : Int) ∧ v10 = iv (j : Int) ∧ Hid (File.fitGo f t (yo.drop j) = File.fitGo f q yo) ∧ Below w5.heap.size w5 wz) (fun _ v10 _ => yo.length - (intOf v10).toNat)
          case atStart => exact ⟨0, q, rfl, Nat.zero_le _, hqf, rfl, rfl, HF0, Below.refl _ _⟩
          case round =>
            clear HF0
            obtain ⟨j, t, HT, hj, hqj, rfl, rfl, HFG, hbz⟩ := hrel
            have hb0z := hbx.next hbz (Nat.le_refl _)
            have hB := HB.out.under hbz
            have hg1 := hB.cell 1
            have hg2 := hB.cell 2
            have hgl2 := hB.lt
            clear hB hgl hg0
            by_cases hjl : j < yo.length
            · have hji : (j : Int) < (yo.length : Int) := by omega
              obtain ⟨b2, off2, s, hA2, hb2', hs2, hd2⟩ := Sl.atS (HYO.out _ hb0z) hjl
              subst hA2
              have hfg := HFG.out
              rw [drop_at hs2, File.fitGo] at hfg
              clear hs2 HFG
              by_cases hpf : t < f.length
              · have hpi : ¬ (t : Int) ≥ (f.length : Int) := by omega
                have hpi2 : (t : Int) < (f.length : Int) := by omega
                obtain ⟨b3, off3, u, hA3, hb3', hu, hd3⟩ := Sl.atS (hsF.below hb0z) hpf
                subst hA3
                rw [hu] at hfg
                have hsq := str_eq u s
                by_cases hus : u = s
                · have hfg2 : File.fitGo f (t + 1) (yo.drop (j + 1)) = File.fitGo f q yo := by rw [← hfg, hus]; simp
                  have HFG2 := Lib.hid hfg2
                  rw [decide_eq_true hus] at hsq
                  clear hfg hfg2 hus hu
                  go_wp2_with fail
                  go_quiet (fail)
                  have hqd : Below w5.heap.size w5 (wr.drewN nq) := ⟨hbz.os, hbz.tape, hbz.output, hbz.size, hbz.block⟩
                  generalize wr.drewN nq = wq at *
                  go_wp2_with fail
                  go_roundw
                  case rel => exact ⟨j + 1, t + 1, Lib.hid (by rw [HT.out]; omega), by omega, by omega, by go_num, by go_num, HFG2, hqd⟩
                  case measure => simp [intOf]; omega
                · have HX : Hid (ans = ([], 7)) := Lib.hid (HNO.out fun h => by
                    rw [h.2, decide_eq_false (fun e => hus (Option.some.inj e)), Bool.false_and] at hfg
                    cases hfg)
                  rw [decide_eq_false hus] at hsq
                  clear hfg hus hu
                  go_wp2_with fail
                  go_quiet (fail)
                  have hqd : Below w5.heap.size w5 (wr.drewN nq) := ⟨hbz.os, hbz.tape, hbz.output, hbz.size, hbz.block⟩
                  generalize wr.drewN nq = wq at *
                  go_wp2_with fail
                  go_ret2
                  exact ⟨.slice none 0 0, by rw [HX.out]; rfl, by rw [HX.out]; exact Own.nil, hbx.next hqd (Nat.le_refl _)⟩
              · have hpi : (t : Int) ≥ (f.length : Int) := by omega
                have HX : Hid (ans = ([], 7)) := Lib.hid (HNO.out fun h => by
                  rw [h.2, List.getElem?_eq_none (by omega), decide_eq_false (by simp), Bool.false_and] at hfg
                  cases hfg)
                clear hfg
                go_wp2_with fail
                go_quiet (fail)
                have hqd : Below w5.heap.size w5 (wr.drewN nq) := ⟨hbz.os, hbz.tape, hbz.output, hbz.size, hbz.block⟩
                generalize wr.drewN nq = wq at *
                go_wp2_with fail
                go_ret2
                exact ⟨.slice none 0 0, by rw [HX.out]; rfl, by rw [HX.out]; exact Own.nil, hbx.next hqd (Nat.le_refl _)⟩
            · have hji : ¬ (j : Int) < (yo.length : Int) := by omega
              have hfit : File.fitGo f q yo = true := by rw [← HFG.out, List.drop_eq_nil_of_le (by omega)]; rfl
              have htq : t = q + yo.length := by rw [HT.out]; omega
              have HR2 : Hid ((File.makeGo f t ((vs.map EdV.ed).drop (k + 1))).map (((out ++ File.cut f p q) ++ yn) ++ ·) = R) := Lib.hid (by rw [htq]; exact HYES.out ⟨by omega, hfit⟩)
              have HC4 : Hid (File.Chain t ((vs.map EdV.ed).drop (k + 1))) := Lib.hid (by rw [htq]; exact HC3.out)
              have HOz := HO.out.below hbz
              have hlen : (out ++ File.cut f p q).length + yn.length ≤ big := by rw [List.length_append]; unfold big; omega
              have hol2 : (out ++ File.cut f p q ++ yn).length ≤ 54 * (k + 1) := by rw [List.length_append, List.length_append]; omega
              clear hfit htq HFG HNO HYES HC3
              go_wp2_with (at_builtin; refine wpAppS strE tyStrs rfl _ _ rfl HOz (HYN.out _ hb0z) rfl rfl hb0z.size hlen ?_; intro v3 w3 hown3 hb3 hk3)
              have HO3 := Lib.hid hown3
              have hb03 := hb0z.trans hb3
              clear hown3 hk3 hb3 HOz hlen
              go_wp2_with fail
              go_roundw
              case rel => exact ⟨k + 1, t, _, by omega, hqj, rfl, by go_num, hol2, HR2, HC4, HO3, hb03⟩
              case measure => simp [intOf]; omega
    · have hki : ¬ (k : Int) < (vs.length : Int) := by omega
      have hr := HR.out
      rw [List.drop_eq_nil_of_le (by rw [List.length_map]; omega), File.makeGo] at hr
      obtain ⟨X, nX, ys, hys, hyl, hsy, RC⟩ := cut_from hfc hp (hsF.below hbr)
      have hr : some (out ++ ys) = R := by rw [hys]; exact hr
      have hans := HA2.out _ hr.symm
      have hlen : out.length + ys.length ≤ big := by unfold big; omega
      obtain ⟨L, hL⟩ : ∃ L, L = (out ++ ys).length := ⟨_, rfl⟩
      rw [← hL] at hans
      have HL := Lib.hid hL
      have hL9 : L ≤ 100000 := by rw [hL, List.length_append]; omega
      by_cases h24 : 24 < L
      · rw [if_pos h24] at hans
        have h24i : (L : Int) > 24 := by omega
        have HX := Lib.hid hans
        clear hL hr hys hans HR HCH
        go_wp2_with (at_builtin; refine wpAppS strE tyStrs rfl _ _ rfl HO.out hsy rfl rfl hbr.size hlen ?_; intro v3 w3 hown3 hb3 hk3; obtain ⟨A3, c3, e3, _, _⟩ := hown3.form; rw [← HL.out] at e3; subst e3)
        go_ret2
        exact ⟨.slice none 0 0, by rw [HX.out]; rfl, by rw [HX.out]; exact Own.nil, hbr.trans hb3⟩
      · rw [if_neg h24] at hans
        have h24i : ¬ (L : Int) > 24 := by omega
        have HX := Lib.hid hans
        clear hL hr hys hans HR HCH
        go_wp2_with (at_builtin; refine wpAppS strE tyStrs rfl _ _ rfl HO.out hsy rfl rfl hbr.size hlen ?_; intro v3 w3 hown3 hb3 hk3; obtain ⟨A3, c3, e3, _, _⟩ := hown3.form; rw [← HL.out] at e3; subst e3)
        go_ret2
        exact ⟨_, by rw [HX.out]; rfl, by rw [HX.out]; exact hown3, hbr.trans hb3⟩
set_option maxHeartbeats 8000000 in
theorem rback_spec (A : Option Addr) (vs : List EdV) (c : Nat) (w : World) (hm : vs.length ≤ 1000) (hs : Sl edE w A vs) (hok : ∀ r ∈ vs, EdOk w r) (hch : File.ChOk (vs.map EdV.ed)) :
    Calls Tryz.prog 28 #[.slice A vs.length c] w fun e w' => ∃ v, e = .returned (.tuple #[v, iv (File.backAns (vs.map EdV.ed)).2]) ∧ ∃ us : List EdV, Own edE 121 w.heap.size w' v us ∧ us.map EdV.ed = (File.backAns (vs.map EdV.ed)).1 ∧ (∀ r ∈ us, EdOk w r) ∧ Below w.heap.size w w' := by
  obtain ⟨C, hC⟩ : ∃ C, C = vs.map EdV.ed := ⟨_, rfl⟩
  have HAT : Hid (∀ (k : Nat) (r : EdV), vs[k]? = some r → C[k]? = some r.ed) := Lib.hid fun k r h => by rw [hC, List.getElem?_map, h]; rfl
  have HCL : Hid (C.length = vs.length) := Lib.hid (by rw [hC, List.length_map])
  have HBY : Hid (∀ k, k ≤ 1000 → -24000 ≤ File.byOf (C.take k) ∧ File.byOf (C.take k) ≤ 24000) := Lib.hid fun k hk => by
    have := File.byOf_le (K := 24) (c := C.take k) fun x hx => by
      have hx := List.mem_of_mem_take hx
      rw [hC] at hx
      exact ⟨hch.old x hx, hch.new x hx⟩
    have hl : (C.take k).length ≤ 1000 := by rw [List.length_take]; omega
    omega
  have HSM : Hid (∀ r ∈ vs, 0 ≤ r.at_ ∧ r.at_ ≤ 24 ∧ r.old.length ≤ 24 ∧ r.new.length ≤ 24) := Lib.hid fun r hr => ⟨(hch.at_ r.ed (List.mem_map_of_mem hr)).1, (hch.at_ r.ed (List.mem_map_of_mem hr)).2, hch.old r.ed (List.mem_map_of_mem hr), hch.new r.ed (List.mem_map_of_mem hr)⟩
  rw [← hC]
  obtain ⟨ans, hans⟩ : ∃ ans, ans = File.backAns C := ⟨_, rfl⟩
  rw [← hans]
  obtain ⟨R, hR⟩ : ∃ R, R = File.backTry 0 C := ⟨_, rfl⟩
  have hz : File.checkChange C = 0 := by rw [hC]; exact File.ch_zero hch
  have HA1 : Hid (R = none → ans = ([], 3)) := Lib.hid fun h => by rw [hans]; unfold File.backAns; rw [if_pos hz, ← hR, h]
  have HA2 : Hid (∀ l, R = some l → ans = (l, 0)) := Lib.hid fun l h => by rw [hans]; unfold File.backAns; rw [if_pos hz, ← hR, h]
  have HOK := Lib.hid hok
  have HR : Hid ((File.backTry (File.byOf (C.take 0)) (C.drop 0)).map ((([] : List EdV).map EdV.ed) ++ ·) = R) := Lib.hid (by
    rw [hR, List.drop_zero, show File.byOf (C.take 0) = 0 by rw [List.take_zero]; rfl]
    cases File.backTry 0 C <;> rfl)
  clear hans hR hch hok hC hz
  go_enter Tryz.func28, Tryz.ntmps28
  go_wp2_with fail
  go_loopw [4, 5] (fun u v5 wr => ∃ (k : Nat) (us : List EdV), k ≤ vs.length ∧ v5 = iv (k : Int) ∧ us.length ≤ k ∧ Hid ((File.backTry (File.byOf (C.take k)) (C.drop k)).map (us.map EdV.ed ++ ·) = R) ∧ Hid (Own edE 121 w.heap.size wr u us) ∧ Hid (∀ r ∈ us, EdOk w r) ∧ Below w.heap.size w wr) (fun _ v5 _ => vs.length - (intOf v5).toNat)
  case atStart => exact ⟨0, [], Nat.zero_le _, rfl, Nat.le_refl _, HR, Own.nil, Lib.hid (fun _ h => by cases h), Below.refl _ _⟩
  case round =>
    clear HR
    obtain ⟨k, us, hk, rfl, hul, HR, HO, HE, hbr⟩ := hrel
    by_cases hlt : k < vs.length
    · have hki : (k : Int) < (vs.length : Int) := by omega
      obtain ⟨bv, ov, y, rfl, hbv, hy, hc0, _, _⟩ := Sl.atEd (hs.below hbr) hlt
      have HCY : Hid (∀ W, Below w.heap.size w W → W.cell? ⟨bv, ov + k * 3, none⟩ = some (iv y.at_) ∧ W.cell? ⟨bv, ov + k * 3 + 1, none⟩ = some (.slice y.A y.old.length y.c) ∧ W.cell? ⟨bv, ov + k * 3 + 2, none⟩ = some (.slice y.A' y.new.length y.c')) := Lib.hid (Sl.cellEd hs hy)
      have hys := HSM.out y (mem_at hy)
      have HYK : Hid (EdOk w y) := Lib.hid (HOK.out y (mem_at hy))
      have HYC := Lib.hid (HAT.out k y hy)
      have hr := HR.out
      rw [drop_at HYC.out] at hr
      unfold File.backTry at hr
      have HTK := Lib.hid (File.byOf_take HYC.out)
      obtain ⟨ya, yA, yc, yo, yA', yc', yn⟩ := y
      simp only at hys HCY HYK HTK hc0
      have hr : (if 24 < ya + File.byOf (C.take k) then none else (File.backTry (File.byOf (C.take k) + ((yn.length : Int) - (yo.length : Int))) (C.drop (k + 1))).map ((⟨ya + File.byOf (C.take k), yn, yo⟩ : File.Edit ByteArray) :: ·)).map (us.map EdV.ed ++ ·) = R := hr
      have HR1 := Lib.hid hr
      have HM0 : Hid (ya = ya + File.byOf (C.take 0)) := Lib.hid (by rw [List.take_zero]; show ya = ya + 0; omega)
      clear hr HR hy
      go_wp2_with fail
      generalize wr = w2 at *
      go_loopw [6, 7] (fun v6 v7 wz => ∃ (j : Nat) (m : Int), j ≤ k ∧ v6 = iv m ∧ v7 = iv (j : Int) ∧ -24000 ≤ m ∧ m ≤ 24024 ∧ Hid (m = ya + File.byOf (C.take j)) ∧ Below w2.heap.size w2 wz) (fun _ v7 _ => k - (intOf v7).toNat)
      case atStart => exact ⟨0, ya, Nat.zero_le _, rfl, rfl, by omega, by omega, HM0, Below.refl _ _⟩
      case round =>
        clear HM0
        obtain ⟨j, m, hj, rfl, rfl, hm1, hm2, HM, hbz⟩ := hrel
        have hb0z := hbr.next hbz (Nat.le_refl _)
        have HOz := Lib.hid (HO.out.below hbz)
        by_cases hjk : j < k
        · have hji : (j : Int) < (k : Int) := by omega
          obtain ⟨b', o', z, hAb, hb', hz, hd0, hd1, hd2⟩ := Sl.atEd (hs.below hb0z) (show j < vs.length by omega)
          injection hAb with hAb
          injection hAb with e1 e2 _
          subst e1 e2
          have hzs := HSM.out z (mem_at hz)
          have hm3 := HM.out
          have hbt := File.byOf_take (HAT.out j z hz)
          have hbd := HBY.out (j + 1) (by omega)
          have HM2 : Hid (m + (z.new.length : Int) - (z.old.length : Int) = ya + File.byOf (C.take (j + 1))) := Lib.hid (by
            rw [hbt, hm3]; show _ = ya + (_ + ((z.new.length : Int) - (z.old.length : Int))); omega)
          have hm4 := HM2.out
          have hm5 : -24000 ≤ m + (z.new.length : Int) - (z.old.length : Int) := by omega
          have hm6 : m + (z.new.length : Int) - (z.old.length : Int) ≤ 24024 := by omega
          have hjl : (j : Int) < (vs.length : Int) := by omega
          have ew1 : IntKind.i64.wrap (m + (z.new.length : Int)) = m + (z.new.length : Int) := IntWalk.i64_in _ (by omega)
          have ew2 : IntKind.i64.wrap (m + (z.new.length : Int) - (z.old.length : Int)) = m + (z.new.length : Int) - (z.old.length : Int) := IntWalk.i64_in _ (by omega)
          clear hz hm3 hm4 hbt hbd HM hc0
          go_wp2_with fail
          go_quiet (fail)
          have hqd : Below w2.heap.size w2 (wr.drewN nq) := ⟨hbz.os, hbz.tape, hbz.output, hbz.size, hbz.block⟩
          generalize wr.drewN nq = wq at *
          go_wp2_with fail
          go_roundw
          case rel => exact ⟨j + 1, m + (z.new.length : Int) - (z.old.length : Int), by omega, by go_num, by go_num, hm5, hm6, HM2, hqd⟩
          case measure => simp [intOf]; omega
        · have hji : ¬ (j : Int) < (k : Int) := by omega
          have hmj : m = ya + File.byOf (C.take k) := by rw [HM.out, show j = k by omega]
          have hr := HR1.out
          rw [← hmj] at hr
          by_cases h24 : 24 < m
          · rw [if_pos h24] at hr
            have HX : Hid (ans = ([], 3)) := Lib.hid (HA1.out hr.symm)
            have h24i : m > 24 := h24
            clear hr hmj HM
            go_wp2_with fail
            go_ret2
            exact ⟨.slice none 0 0, by rw [HX.out]; rfl, [], Own.nil, by rw [HX.out]; rfl, (fun _ h => by cases h), hb0z⟩
          · rw [if_neg h24] at hr
            have h24i : ¬ m > 24 := h24
            obtain ⟨Y, hY⟩ : ∃ Y : EdV, Y = ⟨m, yA', yc', yn, yA, yc, yo⟩ := ⟨_, rfl⟩
            have HYO : Hid (EdOk w Y) := Lib.hid (by rw [hY]; exact ⟨HYK.out.new, HYK.out.old, HYK.out.nc, HYK.out.oc⟩)
            have HYD : Hid (([.int .i64 m, .slice yA' yn.length yc', .slice yA yo.length yc] : List Value) = [Y].flatMap edE.cells) := Lib.hid (by rw [hY]; rfl)
            have HR2 : Hid ((File.backTry (File.byOf (C.take (k + 1))) (C.drop (k + 1))).map ((us ++ [Y]).map EdV.ed ++ ·) = R) := Lib.hid (by
              rw [HTK.out, ← hr, Option.map_map]
              congr 1
              funext l
              rw [hY]
              simp [EdV.ed])
            have HE2 : Hid (∀ r ∈ us ++ [Y], EdOk w r) := Lib.hid fun r hr => by
              rcases List.mem_append.1 hr with hr | hr
              · exact HE.out r hr
              · rw [List.mem_singleton.1 hr]; exact HYO.out
            clear hr hmj HM hY HR1
            generalize wr = w5 at *
            go_upto_region 12 with fail
            refine wp_free_lit (by kernel_rfl) 14 (by kernel_rfl) (by kernel_rfl) (by decide) (fun nR x => Below w5.heap.size w5 x) (fun x x' => Below x.heap.size x x')
              [fun _ u _ => u = u4,
               fun _ u _ => u = iv m,
               fun _ u _ => u = .slice (some ⟨bv, ov, none⟩) vs.length c,
               fun _ u _ => u = iv (k : Int),
               fun _ u _ => u = .pointer (some ⟨bv, ov + k * 3, none⟩),
               fun _ u _ => u = .pointer (some ⟨bv, ov + k * 3 + 2, none⟩),
               fun _ u _ => u = .slice yA' yn.length yc',
               fun _ u _ => u = .slice (some ⟨bv, ov, none⟩) vs.length c,
               fun _ u _ => u = iv (k : Int),
               fun _ u _ => u = .pointer (some ⟨bv, ov + k * 3, none⟩),
               fun _ u _ => u = .pointer (some ⟨bv, ov + k * 3 + 1, none⟩),
               fun _ u _ => u = .slice yA yo.length yc,
               fun _ u _ => u = .agg #[iv m, .slice yA' yn.length yc', .slice yA yo.length yc],
               fun _ u x => ∃ A1, u = .slice A1 1 1 ∧ Sl edE x A1 [Y]]
              (Below.refl _ w5).drew ?_ ?_
            · simp only [List.take_succ_cons, List.take_zero, HopL]
              refine ⟨?_, ?_, ?_, ?_, ?_, ?_, ?_, ?_, ?_, ?_, ?_, ?_, ?_, ?_, trivial⟩
              · refine ⟨fun _ _ _ _ _ h => h, fun _ _ _ _ h _ => h, fun v nR x hnR hR hk => ?_⟩
                simp only [List.take_succ_cons, List.take_zero, frameF, Act.put, List.setIfInBounds_toArray, List.set_cons_zero, List.set_cons_succ]
                exact stepF_val (by first | rfl | simp [Region.wanted, yielded, *]) (by go_simp <;> omega) ⟨rfl, Below.refl _ _, hR⟩
              · refine ⟨fun _ _ _ _ _ h => h, fun _ _ _ _ h _ => h, fun v nR x hnR hR hk => ?_⟩
                simp only [List.take_succ_cons, List.take_zero, frameF, Act.put, List.setIfInBounds_toArray, List.set_cons_zero, List.set_cons_succ]
                exact stepF_val (by first | rfl | simp [Region.wanted, yielded, *]) (by go_simp <;> omega) ⟨rfl, Below.refl _ _, hR⟩
              · refine ⟨fun _ _ _ _ _ h => h, fun _ _ _ _ h _ => h, fun v nR x hnR hR hk => ?_⟩
                simp only [List.take_succ_cons, List.take_zero, frameF, Act.put, List.setIfInBounds_toArray, List.set_cons_zero, List.set_cons_succ]
                exact stepF_val (by first | rfl | simp [Region.wanted, yielded, *]) (by go_simp <;> omega) ⟨rfl, Below.refl _ _, hR⟩
              · refine ⟨fun _ _ _ _ _ h => h, fun _ _ _ _ h _ => h, fun v nR x hnR hR hk => ?_⟩
                simp only [List.take_succ_cons, List.take_zero, frameF, Act.put, List.setIfInBounds_toArray, List.set_cons_zero, List.set_cons_succ]
                exact stepF_val (by first | rfl | simp [Region.wanted, yielded, *]) (by go_simp <;> omega) ⟨rfl, Below.refl _ _, hR⟩
              · refine ⟨fun _ _ _ _ _ h => h, fun _ _ _ _ h _ => h, fun v nR x hnR hR hk => ?_⟩
                have h2 : v 2 = .slice (some ⟨bv, ov, none⟩) vs.length c := hk 2 (by kernel_rfl)
                have h3 : v 3 = iv (k : Int) := hk 3 (by kernel_rfl)
                simp only [List.take_succ_cons, List.take_zero, frameF, Act.put, List.setIfInBounds_toArray, List.set_cons_zero, List.set_cons_succ]
                exact stepF_val (by first | rfl | simp [Region.wanted, yielded, *]) (by go_simp <;> omega) ⟨rfl, Below.refl _ _, hR⟩
              · refine ⟨fun _ _ _ _ _ h => h, fun _ _ _ _ h _ => h, fun v nR x hnR hR hk => ?_⟩
                have h4 : v 4 = .pointer (some ⟨bv, ov + k * 3, none⟩) := hk 4 (by kernel_rfl)
                simp only [List.take_succ_cons, List.take_zero, frameF, Act.put, List.setIfInBounds_toArray, List.set_cons_zero, List.set_cons_succ]
                exact stepF_val (by first | rfl | simp [Region.wanted, yielded, *]) (by go_simp <;> omega) ⟨rfl, Below.refl _ _, hR⟩
              · refine ⟨fun _ _ _ _ _ h => h, fun _ _ _ _ h _ => h, fun v nR x hnR hR hk => ?_⟩
                have h5 : v 5 = .pointer (some ⟨bv, ov + k * 3 + 2, none⟩) := hk 5 (by kernel_rfl)
                have g1 := (HCY.out x (hb0z.next hR (Nat.le_refl _))).2.2
                simp only [List.take_succ_cons, List.take_zero, frameF, Act.put, List.setIfInBounds_toArray, List.set_cons_zero, List.set_cons_succ]
                exact stepF_val (by first | rfl | simp [Region.wanted, yielded, *]) (by go_simp <;> omega) ⟨rfl, Below.refl _ _, hR⟩
              · refine ⟨fun _ _ _ _ _ h => h, fun _ _ _ _ h _ => h, fun v nR x hnR hR hk => ?_⟩
                simp only [List.take_succ_cons, List.take_zero, frameF, Act.put, List.setIfInBounds_toArray, List.set_cons_zero, List.set_cons_succ]
                exact stepF_val (by first | rfl | simp [Region.wanted, yielded, *]) (by go_simp <;> omega) ⟨rfl, Below.refl _ _, hR⟩
              · refine ⟨fun _ _ _ _ _ h => h, fun _ _ _ _ h _ => h, fun v nR x hnR hR hk => ?_⟩
                simp only [List.take_succ_cons, List.take_zero, frameF, Act.put, List.setIfInBounds_toArray, List.set_cons_zero, List.set_cons_succ]
                exact stepF_val (by first | rfl | simp [Region.wanted, yielded, *]) (by go_simp <;> omega) ⟨rfl, Below.refl _ _, hR⟩
              · refine ⟨fun _ _ _ _ _ h => h, fun _ _ _ _ h _ => h, fun v nR x hnR hR hk => ?_⟩
                have h7 : v 7 = .slice (some ⟨bv, ov, none⟩) vs.length c := hk 7 (by kernel_rfl)
                have h8 : v 8 = iv (k : Int) := hk 8 (by kernel_rfl)
                simp only [List.take_succ_cons, List.take_zero, frameF, Act.put, List.setIfInBounds_toArray, List.set_cons_zero, List.set_cons_succ]
                exact stepF_val (by first | rfl | simp [Region.wanted, yielded, *]) (by go_simp <;> omega) ⟨rfl, Below.refl _ _, hR⟩
              · refine ⟨fun _ _ _ _ _ h => h, fun _ _ _ _ h _ => h, fun v nR x hnR hR hk => ?_⟩
                have h9 : v 9 = .pointer (some ⟨bv, ov + k * 3, none⟩) := hk 9 (by kernel_rfl)
                simp only [List.take_succ_cons, List.take_zero, frameF, Act.put, List.setIfInBounds_toArray, List.set_cons_zero, List.set_cons_succ]
                exact stepF_val (by first | rfl | simp [Region.wanted, yielded, *]) (by go_simp <;> omega) ⟨rfl, Below.refl _ _, hR⟩
              · refine ⟨fun _ _ _ _ _ h => h, fun _ _ _ _ h _ => h, fun v nR x hnR hR hk => ?_⟩
                have h10 : v 10 = .pointer (some ⟨bv, ov + k * 3 + 1, none⟩) := hk 10 (by kernel_rfl)
                have g1 := (HCY.out x (hb0z.next hR (Nat.le_refl _))).2.1
                simp only [List.take_succ_cons, List.take_zero, frameF, Act.put, List.setIfInBounds_toArray, List.set_cons_zero, List.set_cons_succ]
                exact stepF_val (by first | rfl | simp [Region.wanted, yielded, *]) (by go_simp <;> omega) ⟨rfl, Below.refl _ _, hR⟩
              · refine ⟨fun _ _ _ _ _ h => h, fun _ _ _ _ h _ => h, fun v nR x hnR hR hk => ?_⟩
                have h1 : v 1 = iv m := hk 1 (by kernel_rfl)
                have h6 : v 6 = .slice yA' yn.length yc' := hk 6 (by kernel_rfl)
                have h11 : v 11 = .slice yA yo.length yc := hk 11 (by kernel_rfl)
                simp only [List.take_succ_cons, List.take_zero, frameF, Act.put, List.setIfInBounds_toArray, List.set_cons_zero, List.set_cons_succ]
                exact stepF_val (by first | rfl | simp [Region.wanted, yielded, *]) (by go_simp <;> omega) ⟨rfl, Below.refl _ _, hR⟩
              · refine ⟨fun _ _ _ _ _ h => h, fun _ _ _ _ h hS => (by obtain ⟨A1, e0, o1⟩ := h; exact ⟨A1, e0, o1.below hS⟩), fun v nR x hnR hR hk => ?_⟩
                have h12 : v 12 = .agg #[iv m, .slice yA' yn.length yc', .slice yA yo.length yc] := hk 12 (by kernel_rfl)
                simp only [List.take_succ_cons, List.take_zero, frameF, Act.put, List.setIfInBounds_toArray, List.set_cons_zero, List.set_cons_succ]
                exact stepF_new (u := .slice (some ⟨x.heap.size, 0, none⟩) 1 1) (w' := x.alloc (.cells #[iv m, .slice yA' yn.length yc', .slice yA yo.length yc] 121)) (by rfl) (by go_simp) ⟨⟨_, rfl, Sl.fresh edE x _ _ [Y] HYD.out (by simp [maxLen])⟩, (Below.refl _ _).alloc (Nat.le_refl _) _, hR.alloc hR.size _⟩
            · intro v nR x1 hnR hR hall
              have h0 : v 0 = u4 := hall 0 (by decide)
              obtain ⟨A1, h13, o1⟩ := hall 13 (by decide)
              clear hall hnR
              simp only [List.drop_succ_cons, List.drop_zero, List.take_succ_cons, List.take_zero, frameF, Act.put, List.setIfInBounds_toArray, List.set_cons_zero, List.set_cons_succ, Nat.zero_add, Nat.reduceAdd, h0, h13]
              have hb0x := hb0z.next hR (Nat.le_refl _)
              have HO1 := Lib.hid (HOz.out.below hR)
              go_wp2_with (at_builtin; refine wpAppS edE tyEdR rfl _ _ rfl HO1.out o1 rfl rfl hb0x.size (by simp; unfold big; omega) ?_; intro v3 w3 hown3 hb3 hk3)
              have HO3 := Lib.hid hown3
              have hb03 := hb0x.trans hb3
              clear hown3 hk3 hb3 HO1 HOz o1
              go_wp2_with fail
              go_roundw
              case rel => exact ⟨k + 1, us ++ [Y], by omega, by go_num, by simp; omega, HR2, HO3, HE2, hb03⟩
              case measure => simp [intOf]; omega
    · have hki : ¬ (k : Int) < (vs.length : Int) := by omega
      have hr := HR.out
      rw [List.drop_eq_nil_of_le (by rw [HCL.out]; omega)] at hr
      have HX : Hid (ans = (us.map EdV.ed, 0)) := Lib.hid (HA2.out _ (by rw [← hr]; simp [File.backTry]))
      clear hr HR
      go_wp2_with fail
      go_ret2
      exact ⟨_, by rw [HX.out]; rfl, us, HO.out, by rw [HX.out], HE.out, hbr⟩
end Fl
end Go.Proofs.YtekkhnjepcebkaaGreatDoor
end
