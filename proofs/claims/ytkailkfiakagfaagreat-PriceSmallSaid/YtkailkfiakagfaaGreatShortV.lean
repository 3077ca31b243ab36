/- The search for the shortest list of numbers. Conditions: few numbers. -/
import Derived.Test.YtkailkfiakagfaaGreatShortP
import Derived.Test.YtkailkfiakagfaaGreatTriedW
import Derived.Laws.EntriesVeiled
set_option linter.unusedVariables false
set_option linter.unusedSimpArgs false
namespace Go.Proofs.YtkailkfiakagfaaGreat
open Go.RowKit Go.Shelf
set_option maxRecDepth 100000
abbrev bp (g : Nat) : Value := .pointer (some ⟨g, 0, none⟩)
/-- The boxes of the search: all but that of the list that is found. -/
structure Boxes (gm go gw gl gf bx : Nat) (many limit : Nat) (W : World) : Prop where
  m : Blk W gm 3 #[iv many]
  w : Blk W gw 53 #[.func (.func 16) #[] #[bp bx]]
  l : Blk W gl 3 #[iv limit]
  f : Blk W gf 109 #[.func (.func 63) #[] #[bp gm, bp go, bp gw, bp gl, bp gf]]
  ne : gm ≠ go ∧ gw ≠ go ∧ gl ≠ go ∧ gf ≠ go
theorem Boxes.only {gm go gw gl gf bx many limit : Nat} {W W' : World} (h : Boxes gm go gw gl gf bx many limit W) (ho : Only go W W') : Boxes gm go gw gl gf bx many limit W' :=
  ⟨h.m.only h.ne.1 ho, h.w.only h.ne.2.1 ho, h.l.only h.ne.2.2.1 ho, h.f.only h.ne.2.2.2 ho, h.ne⟩
/-- A slice lies in no block below a number. -/
def Since (L : Nat) (A : Option Addr) : Prop := ∀ b off s, A = some ⟨b, off, s⟩ → L ≤ b
/-- What the search answers. -/
def MoreOk (L : Nat) (r : Option (List Int)) (go : Nat) (W : World) (e : Ending) (w' : World) : Prop :=
  e = .returned (.bool r.isSome) ∧ Only go W w' ∧ ∃ v, Blk w' go 22 #[v] ∧ ∀ x, r = some x → ∃ A c, v = .slice A x.length c ∧ x.length ≤ c ∧ Since L A ∧ Sl intE w' A x
set_option maxHeartbeats 4000000 in
theorem more_zero (L : Nat) (holds : List Int → Bool) (gm go gw gl gf bx many limit : Nat) (l : List Int) (fr : Nat) (A : Option Addr) (c : Nat) (W : World) (hl : l.length = many) (hc : l.length ≤ c) (hb : Boxes gm go gw gl gf bx many limit W) (hgo : ∃ v, Blk W go 22 #[v]) (hs : Sl intE W A l) (hA : Far go A) (hL : Since L A)
    (r : Option (List Int)) (hr : Hid (r = if holds l then some l else none)) (HW : Hid (∀ W', Only go W W' → Calls Tryz.prog 16 #[.slice A l.length c, bp bx] W' fun e w' => e = .returned (.bool (holds l)) ∧ Below W'.heap.size W' w')) :
    Calls Tryz.prog 63 #[.slice A l.length c, iv fr, bp gm, bp go, bp gw, bp gl, bp gf] W (MoreOk L r go W) := by
  have hcf := callFunc_run (P := Tryz.prog) (K := 16) (by kernel_rfl)
  obtain ⟨v0, hg0⟩ := hgo
  have m0 := hb.m.cell 0
  have m1 := hb.m.lt
  have w0 := hb.w.cell 0
  have w1 := hb.w.lt
  have o0 := hg0.cell 0
  have o1 := hg0.lt
  have o2 := hg0.frozen
  have hne1 : ¬ gw = go := hb.ne.2.1
  have hon : Only go W (W.setCell ⟨go, 0, none⟩ (.slice A l.length c)) := Only.set_ _ _ _ _
  have HC1 := Lib.hid (HW.out _ hon)
  have HS2 := Lib.hid (hs.only hA hon)
  have HG2 := Lib.hid (hg0.set_ 0 (.slice A l.length c))
  have HON := Lib.hid hon
  have hlm : ((l.length : Int) == (many : Int)) = true := by simp [hl]
  have w0' : (W.setCell ⟨go, 0, none⟩ (.slice A l.length c)).cell? ⟨gw, 0, none⟩ = some (.func (.func 16) #[] #[bp bx]) := (hb.w.only hne1 hon).cell 0
  clear HW hon hs hg0 hb hl
  go_enter Tryz.func63, Tryz.ntmps63
  go_wp2_with (go_at_call 16; refine HC1.out.mono ?_; rintro e w2 ⟨rfl, hb2⟩)
  go_ret
  refine ⟨?_, HON.out.next hb2 (by simp [World.setCell]; omega) (by simp [World.setCell]), _, HG2.out.under hb2, fun x hx => ?_⟩
  · rw [hr.out]; cases holds l <;> rfl
  · rw [hr.out] at hx
    cases hh : holds l
    · rw [hh] at hx; cases hx
    · rw [hh] at hx
      injection hx with hx
      subst hx
      exact ⟨A, c, rfl, hc, hL, HS2.out.below hb2⟩
theorem Only.below_ {g : Nat} {w w1 w2 : World} (h : Only g w w1) (hb : Below w1.heap.size w1 w2) (hg : g < w.heap.size) : Only g w w2 := h.next hb (by have := h.below.size; omega) h.below.size
set_option maxHeartbeats 4000000 in
theorem more_spec (L : Nat) (holds : List Int → Bool) (gm go gw gl gf bx many limit : Nat) (hlim : limit ≤ 8) (hmany : many ≤ 9) (Wb : World) (hLb : L ≤ Wb.heap.size)
    (HW : Hid (∀ (W' : World) (ns : List Int) (A' : Option Addr) (c' : Nat), Only go Wb W' → Sl intE W' A' ns → ns.length ≤ 9 → (∀ i ∈ ns, 0 ≤ i ∧ i < limit) → Calls Tryz.prog 16 #[.slice A' ns.length c', bp bx] W' fun e w' => e = .returned (.bool (holds ns)) ∧ Below W'.heap.size W' w')) :
    ∀ (d : Nat) (l : List Int) (fr : Nat) (A : Option Addr) (c : Nat) (W : World) (r : Option (List Int)), l.length + d = many → fr ≤ limit → (∀ i ∈ l, 0 ≤ i ∧ i < limit) → l.length ≤ c → Boxes gm go gw gl gf bx many limit W → (∃ v, Blk W go 22 #[v]) → Only go Wb W → Sl intE W A l → Far go A → Since L A → Hid (r = Price.moreOf holds limit d l fr) →
      Calls Tryz.prog 63 #[.slice A l.length c, iv fr, bp gm, bp go, bp gw, bp gl, bp gf] W (MoreOk L r go W) := by
  intro d
  induction d with
  | zero =>
    intro l fr A c W r hl hfr hi hc hb hgo hon hs hA hL hr
    exact more_zero L holds gm go gw gl gf bx many limit l fr A c W (by omega) hc hb hgo hs hA hL r hr (fun W' h => HW.out W' l A c (hon.trans h) (hs.only hA h) (by omega) hi)
  | succ d ih =>
    intro l fr A c W r hl hfr hi hc hb hgo hon hs hA hL hr
    obtain ⟨v0, hg0⟩ := hgo
    have hgl0 := hg0.lt
    have hlm : ((l.length : Int) == (many : Int)) = false := beq_eq_false_iff_ne.2 (by omega)
    have hcf := callFunc_run (P := Tryz.prog) (K := 63) (by kernel_rfl)
    obtain ⟨f, hf⟩ : ∃ f : Nat → Option (List Int), f = fun (k : Nat) => Price.moreOf holds limit d (l ++ [(k : Int)]) (k + 1) := ⟨_, rfl⟩
    have hr2 : r = Price.firstK f (limit - fr) fr := by rw [hr.out, hf]; rfl
    have HF := Lib.hid hf
    have HR := Lib.hid hr2
    have HI := Lib.hid hi
    have m0 := hb.m.cell 0
    have m1 := hb.m.lt
    clear hf hr2 hr hi
    go_enter Tryz.func63, Tryz.ntmps63
    go_wp2_with fail
    go_loopw [10] (fun i wr => ∃ k : Nat, fr ≤ k ∧ k ≤ limit ∧ i = iv k ∧ Hid (Price.firstK f (limit - k) k = r) ∧ (∃ v, Blk wr go 22 #[v]) ∧ Only go W wr) (fun i _ => limit - (intOf i).toNat)
    case atStart => exact ⟨fr, Nat.le_refl _, hfr, rfl, HR.out.symm, ⟨v0, hg0⟩, Only.refl _ _⟩
    case round =>
      obtain ⟨k, hk1, hk2, rfl, hfk, ⟨vk, hgk⟩, honk⟩ := hrel
      have hbk := hb.only honk
      have l0 := hbk.l.cell 0
      have l1 := hbk.l.lt
      have hzk := honk.below.size
      by_cases hlt : k < limit
      · have hki : (k : Int) < (limit : Int) := by omega
        have hk1' : IntKind.i64.wrap ((k : Int) + 1) = (k : Int) + 1 := IntWalk.i64_in _ (by omega)
        have hfk' := hfk.out
        rw [show limit - k = (limit - (k + 1)) + 1 by omega] at hfk'
        simp only [Price.firstK] at hfk'
        have hsk := hs.only hA honk
        have hgk0 := hgk.lt
        have HCL : Hid (∀ a, Only go wr a → Calls Tryz.prog 64 #[.slice A l.length c] a fun e w' => ∃ v, e = .returned v ∧ Own intE 3 a.heap.size w' v l ∧ Below a.heap.size a w') := fun a h => cloneI A l c a (by unfold big; omega) (hsk.only hA h)
        obtain ⟨rk, hrk⟩ : ∃ rk, rk = f k := ⟨_, rfl⟩
        have HRK := Lib.hid hrk
        have IH : Hid (∀ a A' c', Only go wr a → (∃ u, Blk a go 22 #[u]) → Sl intE a A' (l ++ [(k : Int)]) → Far go A' → Since L A' → l.length + 1 ≤ c' → Calls Tryz.prog 63 #[.slice A' (l.length + 1) c', iv ((k : Int) + 1), bp gm, bp go, bp gw, bp gl, bp gf] a (MoreOk L rk go a)) := fun a A' c' h1 h5 h2 h3 h6 h4 => by
          have hon2 := honk.trans h1
          have := ih (l ++ [(k : Int)]) (k + 1) A' c' a rk (by simp; omega) (by omega) (fun i hi => by
            rcases List.mem_append.1 hi with h | h
            · exact HI.out i h
            · rw [List.mem_singleton.1 h]; omega) (by simp; omega) (hb.only hon2) h5 (hon.trans hon2) h2 h3 h6 (by rw [hrk, HF.out]; exact Lib.hid rfl)
          simpa using this
        obtain ⟨S, hS⟩ : ∃ S : World → Prop, S = fun a => Only go wr a ∧ (∃ u, Blk a go 22 #[u]) ∧ a.cell? ⟨gf, 0, none⟩ = some (.func (.func 63) #[] #[bp gm, bp go, bp gw, bp gl, bp gf]) := ⟨_, rfl⟩
        have HSB : Hid (∀ (a a' : World) (B : Nat), S a → Below B a a' → wr.heap.size ≤ B → S a') := fun a a' B h hb hB => by
          rw [hS] at h ⊢
          obtain ⟨h1, ⟨u, h2⟩, h3⟩ := h
          have h := h1.next hb (by omega) hB
          exact ⟨h, ⟨u, h2.below hb (by omega)⟩, (hbk.only h).f.cell 0⟩
        have HSN : Hid (∀ a a', S a → Only go a a' → (∃ u, Blk a' go 22 #[u]) → S a') := fun a a' h h1 h2 => by
          rw [hS] at h ⊢
          exact ⟨h.1.trans h1, h2, (hbk.only (h.1.trans h1)).f.cell 0⟩
        have HSO : Hid (∀ a, S a → Only go wr a) := fun a h => by rw [hS] at h; exact h.1
        have HSG : Hid (∀ a, S a → ∃ u, Blk a go 22 #[u]) := fun a h => by rw [hS] at h; exact h.2.1
        have HSZ : Hid (∀ a, S a → wr.heap.size ≤ a.heap.size) := fun a h => by rw [hS] at h; exact h.1.below.size
        have HSF : Hid (∀ a, S a → a.cell? ⟨gf, 0, none⟩ = some (.func (.func 63) #[] #[bp gm, bp go, bp gw, bp gl, bp gf])) := fun a h => by rw [hS] at h; exact h.2.2
        have HK0 : Hid (S wr.drew) := by
          have h : S wr := by rw [hS]; exact ⟨Only.refl _ _, ⟨vk, hgk⟩, hbk.f.cell 0⟩
          exact HSB.out _ _ wr.heap.size h (Below.refl _ _).drew (Nat.le_refl _)
        have f0 := HSF.out _ HK0.out
        have HS2 : Hid (∀ a, S a → S a ∧ a.cell? ⟨gf, 0, none⟩ = some (.func (.func 63) #[] #[bp gm, bp go, bp gw, bp gl, bp gf])) := fun a h => ⟨h, HSF.out a h⟩
        have hll : l.length ≤ 8 := by omega
        have hlm' : l.length ≤ big := by unfold big; omega
        have HON := Lib.hid honk
        have HLW := Lib.hid (Nat.le_trans hLb (hon.trans honk).below.size)
        have HFK2 := Lib.hid hfk'
        clear hfk hfk' hrk hbk hsk hgk honk hg0 hb hon hs hS
        go_wp2_with fail
        go_region_held3 (fun a => S a ∧ a.cell? ⟨gf, 0, none⟩ = some (.func (.func 63) #[] #[bp gm, bp go, bp gw, bp gl, bp gf])) (first | assumption | exact HS2.out _ HK0.out | exact HS2.out _ (HSB.out _ _ _ HK0.out ((Below.refl _ _).alloc (Nat.le_refl _) _) (Nat.le_refl _)) | exact HS2.out _ HX1.out | exact HS2.out _ HX2.out | exact HS2.out _ HX3.out | exact HS2.out _ (HSB.out _ _ _ HX1.out ((Below.refl _ _).alloc (Nat.le_refl _) _) (HSZ.out _ HX1.out)))
          (first
            | (go_at_call 64; refine (HCL.out _ (HSO.out _ (And.left ‹S _ ∧ _›))).mono ?_; rintro e x1 ⟨v, rfl, hown, hbx⟩; have HX1 := Lib.hid (HSB.out _ _ _ (And.left ‹S _ ∧ _›) hbx (HSZ.out _ (And.left ‹S _ ∧ _›))); obtain ⟨A', c', rfl, _, _⟩ := hown.form)
            | (refine stepAppS intE tyInts (by rfl) _ _ (by rfl) hown ((Sl.fresh intE wr.drew 3 #[iv k] [(k : Int)] rfl (by simp [maxLen])).below hbx) rfl (by rfl) (by rfl) (by rfl) hbx.size (by unfold big; simp; omega) ?_; intro v' x2 hown2 hbx2 _; have HX2 := Lib.hid (HSB.out _ _ _ HX1.out hbx2 (by simp)); obtain ⟨A2, c2, rfl, hle2, _⟩ := hown2.form; have hsl2 := hown2.sl; simp only [List.length_append, List.length_cons, List.length_nil, Nat.zero_add] at hle2)
            | (refine stepAppS intE tyInts (by rfl) _ _ (by rfl) (hown.below ((Below.refl _ x1).alloc (Nat.le_refl _) _)) (Sl.fresh intE x1 3 #[iv k] [(k : Int)] rfl (by simp [maxLen])) rfl (by rfl) (by rfl) (by rfl) (Nat.le_trans hbx.size (by simp)) (by unfold big; simp; omega) ?_; intro v' x2 hown2 hbx2 _; have HX2 := Lib.hid (HSB.out _ _ _ (HSB.out _ _ _ HX1.out ((Below.refl _ _).alloc (Nat.le_refl _) _) (HSZ.out _ HX1.out)) hbx2 (HSZ.out _ HK0.out)); obtain ⟨A2, c2, rfl, hle2, _⟩ := hown2.form; have hsl2 := hown2.sl; simp only [List.length_append, List.length_cons, List.length_nil, Nat.zero_add] at hle2)
            | (go_at_call 63; have hfar : Far go A2 := fun b off s e => by { have h1 := (hown2.lt b (by rw [e]; rfl)).1; have h2 := HSZ.out _ HK0.out; intro e2; first | omega | (simp at h1 h2; omega) }; have hsin : Since L A2 := fun b off s e => by { have h1 := (hown2.lt b (by rw [e]; rfl)).1; have h2 := HLW.out; simp only [World.size_drew] at h1; first | omega | (simp at h1; omega) }; have hIH := IH.out x2 A2 c2 (HSO.out _ (And.left ‹S _ ∧ _›)) (HSG.out _ (And.left ‹S _ ∧ _›)) hsl2 hfar hsin hle2; refine Calls.mono hIH ?_; rintro e x3 ⟨rfl, h31, v3, h32, h33⟩; have HX3 := Lib.hid (HSN.out _ _ (And.left ‹S x2 ∧ _›) h31 ⟨v3, h32⟩); have H33 := Lib.hid h33; have H32 := Lib.hid h32; clear h31 h32 h33))
        all_goals
          have hon3 := HON.out.trans (HSO.out _ HX3.out)
          have hrf : f k = rk := HRK.out.symm
          have hfk2 := HFK2.out
          rw [hrf] at hfk2
          rcases rk with _ | x
          · go_wp2_with fail
            refine ⟨⟨k + 1, by omega, by omega, by simp [iv], Lib.hid hfk2, ⟨v3, H32.out⟩, hon3⟩, ?_⟩
            show limit - ((k : Int) + 1).toNat < limit - ((k : Int)).toNat
            omega
          · go_wp2_with fail
            go_ret
            refine ⟨?_, hon3, v3, H32.out, fun y hy => ?_⟩
            · rw [← hfk2]; rfl
            · rw [← hfk2] at hy; exact H33.out y hy
      · have hfk' := hfk.out
        rw [show limit - k = 0 by omega] at hfk'
        simp only [Price.firstK] at hfk'
        have HFK := Lib.hid hfk'
        have hki : ¬ (k : Int) < (limit : Int) := by omega
        clear hfk hfk'
        go_wp2_with fail
        go_ret
        refine ⟨by rw [← HFK.out]; rfl, honk, vk, hgk, fun x hx => ?_⟩
        rw [← HFK.out] at hx; cases hx
end Go.Proofs.YtkailkfiakagfaaGreat
-- The shortest list of package price: the search, and Shortest. Conditions: lengths are below a great bound.
namespace Go.Proofs.YtkailkfiakagfaaGreat
open Go.RowKit Go.Shelf
set_option maxRecDepth 100000
/-- What the search returns. -/
def FirstOk (x : List Int) (w : World) (e : Ending) (w' : World) : Prop := ∃ A c, e = .returned (.slice A x.length c) ∧ x.length ≤ c ∧ Since w.heap.size A ∧ Sl intE w' A x ∧ Below w.heap.size w w'
set_option maxHeartbeats 4000000 in
theorem first_spec (holds : List Int → Bool) (limit bx : Nat) (w : World) (hlim : limit ≤ 8) (x : List Int) (hx : Price.manyOf holds limit (limit + 1) 0 = some x)
    (HW : Hid (∀ (W' : World) (ns : List Int) (A' : Option Addr) (c' : Nat), Below w.heap.size w W' → Sl intE W' A' ns → ns.length ≤ 9 → (∀ i ∈ ns, 0 ≤ i ∧ i < limit) → Calls Tryz.prog 16 #[.slice A' ns.length c', bp bx] W' fun e w' => e = .returned (.bool (holds ns)) ∧ Below W'.heap.size W' w')) :
    Calls Tryz.prog 15 #[iv limit, .agg #[.func (.func 16) #[] #[bp bx]]] w (FirstOk x w) := by
  have HX := Lib.hid hx
  have hcf := callFunc_run (P := Tryz.prog) (K := 63) (by kernel_rfl)
  have hb0 : Below w.heap.size w (((w.alloc (.cells #[iv limit] 3)).alloc (.cells #[.func (.func 16) #[] #[bp bx]] 53)).alloc (.cells #[.slice none 0 0] 22)) := (((Below.refl _ _).alloc (Nat.le_refl _) _).alloc (by simp) _).alloc (by simp; omega) _
  have hBl : Blk (((w.alloc (.cells #[iv limit] 3)).alloc (.cells #[.func (.func 16) #[] #[bp bx]] 53)).alloc (.cells #[.slice none 0 0] 22)) w.heap.size 3 #[iv limit] := ((Blk.new _ _ _).alloc _).alloc _
  have hBw : Blk (((w.alloc (.cells #[iv limit] 3)).alloc (.cells #[.func (.func 16) #[] #[bp bx]] 53)).alloc (.cells #[.slice none 0 0] 22)) (w.heap.size + 1) 53 #[.func (.func 16) #[] #[bp bx]] := (Blk.new_ _ _ _ (by simp)).alloc _
  have hBo : Blk (((w.alloc (.cells #[iv limit] 3)).alloc (.cells #[.func (.func 16) #[] #[bp bx]] 53)).alloc (.cells #[.slice none 0 0] 22)) (w.heap.size + 1 + 1) 22 #[.slice none 0 0] := Blk.new_ _ _ _ (by simp)
  clear hx
  go_enter Tryz.func15, Tryz.ntmps15
  go_wp2_with fail
  generalize ((w.alloc (.cells #[iv limit] 3)).alloc (.cells #[.func (.func 16) #[] #[bp bx]] 53)).alloc (.cells #[.slice none 0 0] 22) = w0 at *
  have l0 := hBl.cell
  have l1 := hBl.lt
  have hlm : IntKind.i64.wrap ((limit : Int) + 1) = (limit : Int) + 1 := IntWalk.i64_in _ (by omega)
  go_wp2_with fail
  go_loopw [6, 7, 10] (fun _ _ i wr => ∃ k : Nat, k ≤ limit + 1 ∧ i = iv k ∧ Hid (Price.manyOf holds limit (limit + 1 - k) k = some x) ∧ Blk wr w.heap.size 3 #[iv limit] ∧ Blk wr (w.heap.size + 1) 53 #[.func (.func 16) #[] #[bp bx]] ∧ (∃ v, Blk wr (w.heap.size + 1 + 1) 22 #[v]) ∧ Below w.heap.size w wr) (fun _ _ i _ => limit + 1 - (intOf i).toNat)
  case atStart => exact ⟨0, by omega, rfl, HX, hBl, hBw, ⟨_, hBo⟩, hb0⟩
  case round =>
    obtain ⟨k, hk, rfl, hf, hbl, hbw, ⟨vo, hbo⟩, hbr⟩ := hrel
    by_cases hlt : k < limit + 1
    · have hkl : (k : Int) < (limit : Int) + 1 := by omega
      have hk1 : IntKind.i64.wrap ((k : Int) + 1) = (k : Int) + 1 := IntWalk.i64_in _ (by omega)
      have hf2 := hf.out
      rw [show limit + 1 - k = (limit + 1 - (k + 1)) + 1 by omega] at hf2
      simp only [Price.manyOf] at hf2
      obtain ⟨r, hr⟩ : ∃ r, r = Price.moreOf holds limit k [] 0 := ⟨_, rfl⟩
      rw [← hr] at hf2
      have HR := Lib.hid hr
      have HF := Lib.hid hf2
      have hzo := hbo.lt
      have hzr := hbr.size
      have hba : Below wr.heap.size wr ((wr.alloc (.cells #[iv k] 3)).alloc (.cells #[.func (.func 63) #[] #[bp wr.heap.size, bp (w.heap.size + 1 + 1), bp (w.heap.size + 1), bp w.heap.size, bp (wr.heap.size + 1)]] 109)) := ((Below.refl _ _).alloc (Nat.le_refl _) _).alloc (by simp) _
      have hBm : Blk ((wr.alloc (.cells #[iv k] 3)).alloc (.cells #[.func (.func 63) #[] #[bp wr.heap.size, bp (w.heap.size + 1 + 1), bp (w.heap.size + 1), bp w.heap.size, bp (wr.heap.size + 1)]] 109)) wr.heap.size 3 #[iv k] := (Blk.new _ _ _).alloc _
      have hBf : Blk ((wr.alloc (.cells #[iv k] 3)).alloc (.cells #[.func (.func 63) #[] #[bp wr.heap.size, bp (w.heap.size + 1 + 1), bp (w.heap.size + 1), bp w.heap.size, bp (wr.heap.size + 1)]] 109)) (wr.heap.size + 1) 109 #[.func (.func 63) #[] #[bp wr.heap.size, bp (w.heap.size + 1 + 1), bp (w.heap.size + 1), bp w.heap.size, bp (wr.heap.size + 1)]] := Blk.new_ _ _ _ (by simp)
      have HM : Hid (Calls Tryz.prog 63 #[.slice none 0 0, iv 0, bp wr.heap.size, bp (w.heap.size + 1 + 1), bp (w.heap.size + 1), bp w.heap.size, bp (wr.heap.size + 1)] ((wr.alloc (.cells #[iv k] 3)).alloc (.cells #[.func (.func 63) #[] #[bp wr.heap.size, bp (w.heap.size + 1 + 1), bp (w.heap.size + 1), bp w.heap.size, bp (wr.heap.size + 1)]] 109)) (MoreOk w.heap.size r (w.heap.size + 1 + 1) ((wr.alloc (.cells #[iv k] 3)).alloc (.cells #[.func (.func 63) #[] #[bp wr.heap.size, bp (w.heap.size + 1 + 1), bp (w.heap.size + 1), bp w.heap.size, bp (wr.heap.size + 1)]] 109)))) := by
        have hbx := hbr.next hba (Nat.le_refl _)
        have hbl' := hbl.under hba
        have hbw' := hbw.under hba
        have hbo' := hbo.under hba
        generalize (wr.alloc (.cells #[iv k] 3)).alloc (.cells #[.func (.func 63) #[] #[bp wr.heap.size, bp (w.heap.size + 1 + 1), bp (w.heap.size + 1), bp w.heap.size, bp (wr.heap.size + 1)]] 109) = wx at *
        exact more_spec w.heap.size holds wr.heap.size (w.heap.size + 1 + 1) (w.heap.size + 1) w.heap.size (wr.heap.size + 1) bx k limit hlim (by omega) wx hbx.size
          (Lib.hid fun W' ns A' c' ho hsl hl hi => HW.out W' ns A' c' (hbx.trans (ho.below.mono (by omega))) hsl hl hi) k [] 0 none 0 wx r (by simp) (Nat.zero_le _) (fun i hi => by cases hi) (Nat.le_refl _)
          ⟨hBm, hbw', hbl', hBf, by omega, by omega, by omega, by omega⟩ ⟨_, hbo'⟩ (Only.refl _ _) Sl.nil (fun b off s h => by cases h) (fun b off s h => by cases h) HR
      have hon0 := hbr.next hba (Nat.le_refl _)
      have hbl2 := hbl.under hba
      have hbw2 := hbw.under hba
      clear hf hf2 hr hbl hbw hbo hbr HW
      go_wp2_with fail
      refine HM.out.mono ?_
      generalize (wr.alloc (.cells #[iv k] 3)).alloc (.cells #[.func (.func 63) #[] #[bp wr.heap.size, bp (w.heap.size + 1 + 1), bp (w.heap.size + 1), bp w.heap.size, bp (wr.heap.size + 1)]] 109) = wx at *
      rintro e w3 ⟨rfl, honly, v3, hB3, hv3⟩
      have hw3 : Below w.heap.size w w3 := hon0.trans (honly.below.mono (by omega))
      have hl3 := hbl2.only (by omega) honly
      have hw3' := hbw2.only (by omega) honly
      have o0 := hB3.cell
      have o1 := hB3.lt
      have HV3 := Lib.hid hv3
      have HF2 := HF.out
      clear HF hv3 HM hBm hBf hba honly hon0
      rcases r with _ | y
      · have HF3 := Lib.hid HF2
        clear HF2
        go_wp2_with fail
        go_roundw
        case rel => exact ⟨k + 1, by omega, by simp [iv], HF3, hl3, hw3', ⟨v3, hB3⟩, hw3⟩
        case measure => simp [intOf]; omega
      · injection HF2 with HF2
        subst HF2
        obtain ⟨Ay, cy, rfl, hcy, hLy, hsy⟩ := HV3.out _ rfl
        go_wp2_with fail
        go_ret
        exact ⟨Ay, cy, rfl, hcy, hLy, hsy, hw3⟩
    · exfalso
      have hf2 := hf.out
      rw [show limit + 1 - k = 0 by omega] at hf2
      cases hf2
namespace Price
def shortOf (l : List Rule) : List Int × Int := if check l = 0 then ((manyOf (givesP l) l.length (l.length + 1) 0).getD [], 0) else ([], check l)
end Price
/-- What Shortest returns. -/
def ShortestOk (l : List Rule) (w : World) (e : Ending) (w' : World) : Prop := ∃ A c, e = .returned (.tuple #[.slice A (Price.shortOf l).1.length c, iv (Price.shortOf l).2]) ∧ (Price.shortOf l).1.length ≤ c ∧ Since w.heap.size A ∧ Sl intE w' A (Price.shortOf l).1 ∧ Below w.heap.size w w'
set_option maxHeartbeats 4000000 in
theorem Shortest_spec (A : Option Addr) (l : List Rule) (c : Nat) (w : World) (hm : l.length ≤ big) (hc : l.length ≤ c) (hs : Sl ruleE w A l) :
    Calls Tryz.prog 7 #[.slice A l.length c] w (ShortestOk l w) := by
  have hb0 : Below w.heap.size w (w.alloc (.cells #[.slice A l.length c] 23)) := (Below.refl _ _).alloc (Nat.le_refl _) _
  have hB0 : Blk (w.alloc (.cells #[.slice A l.length c] 23)) w.heap.size 23 #[.slice A l.length c] := Blk.new _ _ _
  go_enter Tryz.func7, Tryz.ntmps7
  go_wp2_with fail
  generalize w.alloc (.cells #[.slice A l.length c] 23) = w0 at *
  refine (check_spec A l c w0 hm hc (hs.below hb0)).mono ?_
  rintro e w1 ⟨rfl, hb1⟩
  have hb01 := hb0.next hb1 (Nat.le_refl _)
  have hB1 := hB0.under hb1
  have c0 := hB1.cell
  have c1 := hB1.lt
  by_cases h0 : Price.check l = 0
  · have hl8 := Price.check_length h0
    have hp := Price.check_prices h0
    obtain ⟨x, hx, hfx⟩ := Price.short_some l
    have HSO : Hid (Price.shortOf l = (x, 0)) := by refine Lib.hid ?_; unfold Price.shortOf; rw [if_pos h0, hx]; rfl
    rw [h0]
    have HF : Hid (Calls Tryz.prog 15 #[iv l.length, .agg #[.func (.func 16) #[] #[bp w.heap.size]]] w1 (FirstOk x w1)) :=
      first_spec (Price.givesP l) l.length w.heap.size w1 hl8 x hx (Lib.hid fun W' ns A' c' hB hsl hl hi => wish_spec A l c A' ns c' w.heap.size W' hm (hs.below (hb01.next hB (by have := hb01.size; omega))) hp (by omega) hsl hi (Nat.lt_of_lt_of_le c1 hB.size) ((hB.cell (p := ⟨w.heap.size, 0, none⟩) c1).trans (c0 0)))
    clear h0 hp hx hfx hl8 hs hb0 hB0 hb1 hB1
    go_wp2_with fail
    refine HF.out.mono ?_
    rintro e w2 ⟨A2, c2, rfl, hc2, hL2, hs2, hb2⟩
    go_wp2_with fail
    go_ret2
    exact ⟨A2, c2, by rw [HSO.out]; rfl, by rw [HSO.out]; exact hc2, fun b off s e => Nat.le_trans hb01.size (hL2 b off s e), by rw [HSO.out]; exact hs2, hb01.next hb2 (Nat.le_refl _)⟩
  · have h0' : (Price.check l != 0) = true := by simpa using h0
    have HSO : Hid (Price.shortOf l = ([], Price.check l)) := by refine Lib.hid ?_; unfold Price.shortOf; rw [if_neg h0]
    clear h0
    go_wp2_with fail
    go_ret2
    exact ⟨none, 0, by rw [HSO.out]; rfl, by rw [HSO.out]; exact Nat.le_refl _, fun b off s e => (by cases e), by rw [HSO.out]; exact Sl.nil, hb01⟩
end Go.Proofs.YtkailkfiakagfaaGreat
