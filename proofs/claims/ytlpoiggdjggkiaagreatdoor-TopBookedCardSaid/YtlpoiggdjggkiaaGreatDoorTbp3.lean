/- What the proof of the claim's theorem uses, part 3. The conditions stand in each statement. -/
import Derived.WalkKit
import Derived.WalkSpells
import Derived.WalkLawsBesides
import Derived.WalkSmall
import Derived.Lib.Hide
import Derived.Laws.OwnMore
import Derived.Laws.CopyOwn
import Derived.Deep.Draws
import Derived.Laws.AppendOwnNone
import Derived.Test.YtlpoiggdjggkiaaGreatDoorProg
import Derived.Outline
import Derived.BigQuiet
import Derived.Deep.QuietTactic
import Derived.Lib.OthersKept
import Derived.Laws.EntriesVeiled
import Derived.Shelf.Strings.Builder1
import Derived.Shelf.LaysM
import Derived.Shelf.Strconv.Itoa3
import Derived.Orders
import Derived.RegionTactic
import Derived.BigRegion
import Derived.Deep.DeepCutAuto
import Derived.Maps.OwnRows
import Derived.Maps.GroupsBeside
import Derived.Deep.RegionHeld3
import Derived.Lib.SliceRun
import Derived.RangeFuncNested
import Derived.RangeFuncBound
import Derived.RangeFuncCalls
import Derived.RangeFuncLeaves
import Derived.Shelf.Abstract
import Derived.Shelf.RegionOpen
import Derived.OwnWalkIn
import Derived.TacticsInMore
import Derived.LoopNIn
import Derived.LoopIn
import Derived.Sort.QuietIn
import Derived.Deep.Quiet
import Derived.Maps.AppendAt
import Derived.Test.YtlpoiggdjggkiaaGreatDoorCards
import Derived.Test.YtlpoiggdjggkiaaGreatDoorTie
import Derived.ProofKit
import Derived.Deep.DeepHandedRow
import Derived.Lib.LaidTab
import Derived.Stop.LaidErr
import Derived.ChangeSame
import Derived.RowKit3
import Derived.ReadAgain
import Derived.OpenShut
import Derived.ChangeSlices
import Derived.WalkMore
import Derived.Maps.Own
import Derived.Maps.OwnOps
import Derived.Maps.OwnSet
import Derived.Shelf.Spec.SlicesInsert
import Derived.Shelf.Spec.SlicesInsertGrow
import Derived.Shelf.Bits.Mul64
import Derived.Deep.RegionLaw
import Derived.ChangeKeysEq
import Derived.Lib.Atoi
import Derived.Lib.Fields
import Derived.Shelf.Strings.SplitShaped
import Derived.Shelf.Strconv.Atoi
import Derived.Lay
import Derived.MakeChecks
import Derived.Deep.DeepWitnessRowRef
import Derived.Test.YtlpoiggdjggkiaaGreatDoorTbp2
set_option linter.unusedVariables false
set_option linter.unusedSimpArgs false
section
namespace Go.Proofs.YtlpoiggdjggkiaaGreatDoor
namespace Fl
open Go.RowKit Go.ChangeShapes
set_option maxRecDepth 100000
/-- The address of a part of a slice. -/
@[irreducible] def cutA (A : Option Addr) (c i sz : Nat) : Option Addr := if c = i then A else A.map (·.add (i * sz))
theorem run_cut {α : Type} (E : Enc α) {t e : TypeId} (hT : SlTy Tryz.prog t e E.sz) (A : Option Addr) (n c i x : Nat) (hi : i ≤ x) (hx : x ≤ c) :
    ∀ W : World, (Instr.slice t (.slice A n c) (some (iv (i : Int))) (some (iv (x : Int))) none).run Tryz.prog W = .ok (.slice (cutA A c i E.sz) (x - i) (c - i)) W := by
  intro W
  obtain ⟨j, z, hj, hz, hsz, hby, hzc⟩ := hT.info
  have he : Tryz.prog.elem t = e := by simp [Program.elem, hT.ht]
  rw [run_slice_lh W t A n c (by rw [he]; exact hT.ht) .i64 .i64 (i : Int) (x : Int) (by omega) (by omega) (by omega)]
  have hs : (sizeOf (Tryz.prog.elem t)).run Tryz.prog W = .ok E.sz W := by rw [he]; simp [sizeOf, typeInfo, hj, hsz]
  rw [hs]
  simp [sliced, cutA]
theorem run_cutFrom {α : Type} (E : Enc α) {t e : TypeId} (hT : SlTy Tryz.prog t e E.sz) (A : Option Addr) (n c i : Nat) (hi : i ≤ n) :
    ∀ W : World, (Instr.slice t (.slice A n c) (some (iv (i : Int))) none none).run Tryz.prog W = .ok (.slice (cutA A c i E.sz) (n - i) (c - i)) W := by
  intro W
  obtain ⟨j, z, hj, hz, hsz, hby, hzc⟩ := hT.info
  have he : Tryz.prog.elem t = e := by simp [Program.elem, hT.ht]
  rw [run_slice_l W t A n c (by rw [he]; exact hT.ht) .i64 (i : Int) (by omega) (by omega)]
  have hs : (sizeOf (Tryz.prog.elem t)).run Tryz.prog W = .ok E.sz W := by rw [he]; simp [sizeOf, typeInfo, hj, hsz]
  rw [hs]
  simp [sliced, cutA]
theorem Sl.cut {α : Type} {E : Enc α} {w : World} {A : Option Addr} {xs : List α} {c i x : Nat} (h : Sl E w A xs) (hc : xs.length ≤ c) (hi : i ≤ x) (hx : x ≤ xs.length) : Sl E w (cutA A c i E.sz) (File.cut xs i x) := fun hne => by
  have hcl : (File.cut xs i x).length = x - i := by unfold File.cut; rw [List.length_take, List.length_drop]; omega
  have hlt : i < x := by
    rcases Nat.lt_or_ge i x with h1 | h1
    · exact h1
    · exact absurd (List.eq_nil_of_length_eq_zero (by omega)) hne
  obtain ⟨b, off, hA, hb, hcell⟩ := h (by intro e; subst e; simp at hx; omega)
  subst hA
  refine ⟨b, off + i * E.sz, ?_, hb, fun k y hk j u hu => ?_⟩
  · unfold cutA
    rw [if_neg (by omega)]
    simp [Addr.add]
  · unfold File.cut at hk
    rw [List.getElem?_take] at hk
    split at hk
    · rw [List.getElem?_drop] at hk
      have := hcell (i + k) y hk j u hu
      rw [Nat.add_mul] at this
      rw [show off + i * E.sz + k * E.sz + j = off + (i * E.sz + k * E.sz) + j by omega]
      exact this
    · cases hk
theorem Only.past {g B : Nat} {w0 w w' : World} (h : Only g w0 w) (hb : Below B w w') (h1 : w0.heap.size ≤ B) (h2 : g ≤ B) : Only g w0 w' :=
  ⟨h.below.trans (hb.mono h2), fun i hi hg => (hb.block i (by omega)).trans (h.other i hi hg)⟩
theorem strs_app {B B0 : Nat} {w w' : World} {v : Value} {rs : List RawEd} (hown : Own rawE 126 B w v rs) (hsz : w.heap.size ≤ w'.heap.size) (hk : ∀ b, b < w.heap.size → v.ownBlock ≠ some b → w'.heap[b]? = w.heap[b]?) : Strs B0 w w' :=
  ⟨hsz, fun g cs fr _ hc => hk g (Array.getElem?_eq_some_iff.1 hc).1 fun hv => by
    rcases hown.2 with ⟨rfl, _⟩ | ⟨g', cap, cur, rfl, _, hg, _⟩
    · cases hv
    · have e1 : g' = g := by simpa [Value.ownBlock] using hv
      subst e1
      rw [hc] at hg
      injection hg with hg
      injection hg with _ h2 _
      exact absurd h2 (by decide)⟩
theorem Strs.trans {B : Nat} {a b c : World} (h : Strs B a b) (k : Strs B b c) : Strs B a c := ⟨Nat.le_trans h.1 k.1, fun g cs fr hg hc => (k.2 g cs fr hg ((h.2 g cs fr hg hc).trans hc)).trans (h.2 g cs fr hg hc)⟩
theorem Strs.set {B : Nat} {w w' : World} {p : Addr} (h : Strs B w w') (hp : p.block < B) (u : Value) : Strs B w (w'.setCell p u) :=
  ⟨Nat.le_trans h.1 ((Below.refl p.block w').setCell (Nat.le_refl _) u).size, fun g cs fr hg hc => by rw [Below.heap_setCell _ _ _ _ (by omega)]; exact h.2 g cs fr hg hc⟩
/-- What is left of the pairs and the end. -/
def Tail (a b : List ByteArray) (i j : Nat) (l : List (Nat × Nat)) : Prop := l = [] ∨ ∃ r, l = r ++ [(a.length, b.length)] ∧ File.Pairs a b i j r ∧ i ≤ a.length ∧ j ≤ b.length
theorem Tail.cons {a b : List ByteArray} {i j x y : Nat} {l : List (Nat × Nat)} (h : Tail a b i j ((x, y) :: l)) : i ≤ x ∧ j ≤ y ∧ x ≤ a.length ∧ y ≤ b.length ∧ Tail a b (x + 1) (y + 1) l := by
  rcases h with h | ⟨r, h1, h2, h3, h4⟩
  · cases h
  · cases r with
    | nil =>
      simp only [List.nil_append, List.cons.injEq, Prod.mk.injEq] at h1
      obtain ⟨⟨rfl, rfl⟩, rfl⟩ := h1
      exact ⟨h3, h4, Nat.le_refl _, Nat.le_refl _, .inl rfl⟩
    | cons p r =>
      simp only [List.cons_append, List.cons.injEq] at h1
      obtain ⟨rfl, rfl⟩ := h1
      obtain ⟨k1, k2, ⟨k3, k4, _⟩, k6⟩ := h2
      exact ⟨k1, k2, Nat.le_of_lt k3, Nat.le_of_lt k4, .inr ⟨r, rfl, k6, k3, k4⟩⟩
set_option maxHeartbeats 4000000 in
theorem diff_spec (A : Option Addr) (a : List ByteArray) (c : Nat) (A' : Option Addr) (b : List ByteArray) (c' : Nat) (w : World) (ga : Good a) (gb : Good b) (hca : a.length ≤ c) (hcb : b.length ≤ c') (hsa : Sl strE w A a) (hsb : Sl strE w A' b) :
    Calls Tryz.prog 28 #[.slice A a.length c, .slice A' b.length c'] w fun e w' => ∃ v rs, e = .returned v ∧ Own rawE 126 w.heap.size w' v rs ∧ EdsR w.heap.size w' rs (File.diff a b) ∧ Below w.heap.size w w' := by
  have hB0 : Below w.heap.size w (w.alloc (.cells #[iv 0, iv 0] 128)) := (Below.refl _ _).alloc (Nat.le_refl _) _
  have m1 := ga.many
  have m2 := gb.many
  have hAt : Blk (w.alloc (.cells #[iv 0, iv 0] 128)) w.heap.size 128 #[iv 0, iv 0] := Blk.new _ _ _
  go_enter Tryz.func28, Tryz.ntmps28
  go_wp2_with fail
  generalize w.alloc (.cells #[iv 0, iv 0] 128) = w1 at *
  refine (common_spec A a c A' b c' w1 m1 m2 (hsa.below hB0) (hsb.below hB0) (fun s hs => Nat.le_trans (ga.wide s hs) (by decide)) (fun s hs => Nat.le_trans (gb.wide s hs) (by decide))).mono ?_
  rintro e w2 ⟨v, rfl, hv, hb2⟩
  have hll : (File.common a b).length ≤ 24 := by rw [File.common_length]; exact Nat.le_trans (File.lcs_most a b) m1
  have HV := Lib.hid hv
  have hbig : (File.common a b).length + 1 ≤ big := by unfold big; omega
  have hs2 := hb2.size
  clear hv
  go_wp2_with (first
    | (at_builtin; refine wpApp1 pairE tyPairs rfl _ _ rfl HV.out (a.length, b.length) rfl rfl rfl hs2 hbig ?_; intro v3 w3 hown3 hb3 _; obtain ⟨X, cx, rfl, hcx, hmx⟩ := hown3.form; have HO3 := Lib.hid hown3; have HL3 : Hid ((File.common a b ++ [(a.length, b.length)]).length = (File.common a b).length + 1) := Lib.hid (by rw [List.length_append]; rfl); clear hown3))
  have hb13 : Below w.heap.size w w3 := (hB0.next hb2 (by have := hAt.lt; omega)).trans (hb3.mono (by have := hAt.lt; have := hb2.size; omega))
  have hAt3 : Blk w3 w.heap.size 128 #[iv 0, iv 0] := (hAt.under hb2).below hb3 hAt.lt
  obtain ⟨L, hL⟩ : ∃ L, L = File.common a b ++ [(a.length, b.length)] := ⟨_, rfl⟩
  have HXL : Hid (Sl pairE w3 X L) := Lib.hid (by rw [hL]; exact HO3.out.sl)
  have HLl : L.length = (File.common a b).length + 1 := by rw [hL]; exact HL3.out
  have HD : Hid (File.diff a b = File.diffGo a b 0 0 L) := Lib.hid (by rw [hL]; rfl)
  have HTL : Hid (Tail a b 0 0 (L.drop 0)) := Lib.hid (by rw [hL]; exact .inr ⟨_, rfl, File.common_pairs a b, Nat.zero_le _, Nat.zero_le _⟩)
  have hLb : ((File.common a b).length : Int) + 1 = (L.length : Int) := by omega
  have HXf : Hid (∀ b off, X = some ⟨b, off, none⟩ → w.heap.size < b) := Lib.hid fun b off e => by
    have h1 := (HO3.out.lt b (by rw [e]; rfl)).1
    have h2 := hAt.lt
    omega
  simp only [← HLl, hLb]
  have hL24 : L.length ≤ 25 := by omega
  clear hL HO3 HL3 HV HLl hLb hll hbig hcx
  go_loopw [5, 21] (fun u q wr => ∃ (k i j : Nat) (rs : List RawEd) (es : List (File.Edit ByteArray)), k ≤ L.length ∧ q = iv (k : Int) ∧ Hid (es ++ File.diffGo a b i j (L.drop k) = File.diff a b) ∧ Hid (Own rawE 126 w3.heap.size wr u rs) ∧ Hid (EdsR w3.heap.size wr rs es) ∧ Blk wr w.heap.size 128 #[iv (i : Int), iv (j : Int)] ∧ Hid (Only w.heap.size w3 wr) ∧ Hid (Tail a b i j (L.drop k))) (fun _ q _ => L.length - (intOf q).toNat)
  case atStart => exact ⟨0, 0, 0, [], [], Nat.zero_le _, rfl, by rw [HD.out]; rfl, Own.nil, trivial, hAt3, Only.refl _ _, HTL⟩
  case round =>
    obtain ⟨k, i, j, rs, es, hk, rfl, HE, HR, HS, hat, HO, HT⟩ := hrel
    have hwl : w.heap.size < w3.heap.size := hAt3.lt
    by_cases hlt : k < L.length
    · have hX : Sl pairE wr X L := fun hne => by
        obtain ⟨bx, ox, rfl, hbx, hc⟩ := HXL.out hne
        have hnb := HXf.out bx ox rfl
        exact ⟨bx, ox, rfl, Nat.lt_of_lt_of_le hbx HO.out.below.size, fun t u ht j2 u2 hu2 => by rw [← hc t u ht j2 u2 hu2]; exact World.cell?_of_block (HO.out.other bx hbx (by omega))⟩
      obtain ⟨bx, ox, p, rfl, hbx, hp, hc⟩ := Sl.at_ hX hlt
      obtain ⟨x, y⟩ := p
      have hd : L.drop k = (x, y) :: L.drop (k + 1) := by rw [drop_at hp]
      have hTc := HT.out
      rw [hd] at hTc
      obtain ⟨t1, t2, t3, t4, t5⟩ := Tail.cons hTc
      have HT5 := Lib.hid t5
      have HE2 := HE.out
      rw [hd] at HE2
      have HE3 := Lib.hid HE2
      clear hTc t5 HE2 hd HT HE
      have q0 : wr.cell? ⟨bx, ox + k * 2, none⟩ = some (iv (x : Int)) := by simpa [pairE] using hc 0 (iv (x : Int)) rfl
      have q1 : wr.cell? ⟨bx, ox + k * 2 + 1, none⟩ = some (iv (y : Int)) := by simpa [pairE] using hc 1 (iv (y : Int)) rfl
      have hzr := hat.lt
      clear hc hX
      go_upto_region 6 with fail
      have hNb : Below wr.heap.size wr (wr.alloc (.cells #[Value.int .i64 (x : Int), Value.int .i64 (y : Int)] 128)) := (Below.refl _ _).alloc (Nat.le_refl _) _
      have hNx : Blk (wr.alloc (.cells #[Value.int .i64 (x : Int), Value.int .i64 (y : Int)] 128)) wr.heap.size 128 #[iv (x : Int), iv (y : Int)] := Blk.new _ _ _
      generalize wr.alloc (.cells #[Value.int .i64 (x : Int), Value.int .i64 (y : Int)] 128) = wN at *
      have hatN := hat.under hNb
      have n0 := hNx.cell 0
      have n1 := hNx.cell 1
      have a0 := hatN.cell 0
      have a1 := hatN.cell 1
      have hNn := hNx.cell
      have hAn := hatN.cell
      by_cases hxy : x = i ∧ y = j
      · obtain ⟨rfl, rfl⟩ := hxy
        have e1 : IntKind.i64.wrap ((x : Int) + 1) = ((x + 1 : Nat) : Int) := IntWalk.i64_in _ (by omega)
        have e2 : IntKind.i64.wrap ((y : Int) + 1) = ((y + 1 : Nat) : Int) := IntWalk.i64_in _ (by omega)
        have f0 := hatN.frozen 0
        have f1 := hatN.frozen 1
        have hO5 : Hid (Only w.heap.size w3 ((wN.setCell ⟨w.heap.size, 0, none⟩ (iv ((x + 1 : Nat) : Int))).setCell ⟨w.heap.size, 1, none⟩ (iv ((y + 1 : Nat) : Int)))) := Lib.hid ((((HO.out.next hNb (by omega))).trans (Only.set_ _ _ _ _)).trans (Only.set_ _ _ _ _))
        have hR5 : Hid (Own rawE 126 w3.heap.size ((wN.setCell ⟨w.heap.size, 0, none⟩ (iv ((x + 1 : Nat) : Int))).setCell ⟨w.heap.size, 1, none⟩ (iv ((y + 1 : Nat) : Int))) u5 rs) := Lib.hid (((HR.out.below hNb).setCell hwl _).setCell hwl _)
        have hS5 : Hid (EdsR w3.heap.size ((wN.setCell ⟨w.heap.size, 0, none⟩ (iv ((x + 1 : Nat) : Int))).setCell ⟨w.heap.size, 1, none⟩ (iv ((y + 1 : Nat) : Int))) rs es) := Lib.hid (EdsR.keep (((Strs.below hNb).set hwl _).set hwl _) HS.out)
        have hA5 : Blk ((wN.setCell ⟨w.heap.size, 0, none⟩ (iv ((x + 1 : Nat) : Int))).setCell ⟨w.heap.size, 1, none⟩ (iv ((y + 1 : Nat) : Int))) w.heap.size 128 #[iv ((x + 1 : Nat) : Int), iv ((y + 1 : Nat) : Int)] := (hatN.set_ 0 _).set_ 1 _
        have hE5 : Hid (es ++ File.diffGo a b (x + 1) (y + 1) (L.drop (k + 1)) = File.diff a b) := Lib.hid (by have := HE3.out; rw [File.diffGo, if_pos ⟨rfl, rfl⟩, List.nil_append] at this; exact this)
        clear HE3 HO HR HS
        go_wp2_with fail
        go_roundw
        case rel => exact ⟨k + 1, x + 1, y + 1, rs, es, by omega, by go_num, hE5, hR5, hS5, hA5, hO5, HT5⟩
        case measure => simp [intOf]; omega
      · by_cases hxi : x = i
        · obtain rfl := hxi
          have hyj : ¬ (y : Int) = (j : Int) := fun e => hxy ⟨rfl, by omega⟩
          have HZ1 : Hid (w3.heap.size ≤ wN.heap.size) := Lib.hid (Nat.le_trans HO.out.below.size hNb.size)
          have HC1 : Hid (∀ W, Below w3.heap.size wN W → Calls Tryz.prog 58 #[.slice (cutA A c x 1) (x - x) (c - x)] W fun e w' => ∃ v, e = .returned v ∧ Own strE 9 W.heap.size w' v (File.cut a x x) ∧ Below W.heap.size W w') := Lib.hid fun W hW => by
            have hbN : Below w.heap.size w W := ((hb13.trans HO.out.below).trans (hNb.mono (by omega))).trans (hW.mono (by omega))
            have h1 : (File.cut a x x).length = x - x := File.cut_length t3 t1
            have := cloneS (cutA A c x 1) (File.cut a x x) (c - x) W (by rw [h1]; unfold big; omega) (Sl.cut (hsa.below hbN) hca t1 t3)
            rw [h1] at this
            exact this
          have HC2 : Hid (∀ W, Below w3.heap.size wN W → Calls Tryz.prog 58 #[.slice (cutA A' c' j 1) (y - j) (c' - j)] W fun e w' => ∃ v, e = .returned v ∧ Own strE 9 W.heap.size w' v (File.cut b j y) ∧ Below W.heap.size W w') := Lib.hid fun W hW => by
            have hbN : Below w.heap.size w W := ((hb13.trans HO.out.below).trans (hNb.mono (by omega))).trans (hW.mono (by omega))
            have h1 : (File.cut b j y).length = y - j := File.cut_length t4 t2
            have := cloneS (cutA A' c' j 1) (File.cut b j y) (c' - j) W (by rw [h1]; unfold big; omega) (Sl.cut (hsb.below hbN) hcb t2 t4)
            rw [h1] at this
            exact this
          have R1 : ∀ W : World, (Instr.slice 43 (.slice A a.length c) (some (iv (x : Int))) (some (iv (x : Int))) none).run Tryz.prog W = .ok (.slice (cutA A c x 1) (x - x) (c - x)) W := run_cut strE tyStrs A a.length c x x t1 (Nat.le_trans t3 hca)
          have R2 : ∀ W : World, (Instr.slice 43 (.slice A' b.length c') (some (iv (j : Int))) (some (iv (y : Int))) none).run Tryz.prog W = .ok (.slice (cutA A' c' j 1) (y - j) (c' - j)) W := run_cut strE tyStrs A' b.length c' j y t2 (Nat.le_trans t4 hcb)
          generalize cutA A c x 1 = X1 at R1 HC1
          generalize x - x = m3 at R1 HC1
          generalize c - x = n3 at R1 HC1
          generalize cutA A' c' j 1 = X2 at R2 HC2
          generalize y - j = m4 at R2 HC2
          generalize c' - j = n4 at R2 HC2
          have HS0 : Hid (∀ z : World, Below wN.heap.size wN z → Below w3.heap.size wN z ∧ (z.cell? ⟨w.heap.size, 0, none⟩ = some (iv (x : Int)) ∧ z.cell? ⟨w.heap.size, 1, none⟩ = some (iv (j : Int)) ∧ z.cell? ⟨wr.heap.size, 0, none⟩ = some (iv (x : Int)) ∧ z.cell? ⟨wr.heap.size, 1, none⟩ = some (iv (y : Int)))) := Lib.hid fun z h => ⟨h.mono HZ1.out, (hatN.under h).cell 0, (hatN.under h).cell 1, (hNx.under h).cell 0, (hNx.under h).cell 1⟩
          have HK0 := Lib.hid (HS0.out wN.drew (Below.refl _ _).drew)
          have HRL : Hid (rs.length + 1 ≤ big) := Lib.hid (by
            have h1 := EdsR.length HS.out
            have h2 := File.diff_len a b
            have h3 := congrArg List.length HE3.out
            rw [List.length_append] at h3
            unfold big
            omega)
          go_upto_region 7 with fail
          go_region_held3 (fun z => Below w3.heap.size wN z ∧ (z.cell? ⟨w.heap.size, 0, none⟩ = some (iv (x : Int)) ∧ z.cell? ⟨w.heap.size, 1, none⟩ = some (iv (j : Int)) ∧ z.cell? ⟨wr.heap.size, 0, none⟩ = some (iv (x : Int)) ∧ z.cell? ⟨wr.heap.size, 1, none⟩ = some (iv (y : Int))))
            (first | with_reducible assumption | exact HK0.out | exact HS3.out | exact HS0.out _ (HX2.out.alloc HX2.out.size _) | exact HS0.out _ HX2.out | exact HS0.out _ HX1.out)
            (first
              | (go_at_call 58; refine (HC1.out _ (Below.refl _ wN).drew).mono ?_; rintro e x1 ⟨v1, rfl, ho1, hbx1⟩; have HX1 := Lib.hid ((Below.refl wN.heap.size wN).drew.next hbx1 (Nat.le_refl _)); obtain ⟨A1, c1, rfl, _, _⟩ := ho1.form; have HW1 := Lib.hid ho1; clear ho1)
              | (go_at_call 58; refine (HC2.out _ (HX1.out.mono HZ1.out)).mono ?_; rintro e x2 ⟨v2, rfl, ho2, hbx2⟩; have HX2 := Lib.hid (HX1.out.next hbx2 (Nat.le_refl _)); obtain ⟨A2, c2, rfl, _, _⟩ := ho2.form; have HW2 := Lib.hid ho2; have HW1b := Lib.hid (Own.below HW1.out hbx2); have HO10 := Lib.hid (Own.below (Own.below HR.out hNb) HX2.out); have HP2 := Lib.hid (hNx.under HX2.out); have HA2 := Lib.hid (hatN.under HX2.out); have HZ2 := Lib.hid (Nat.le_trans HZ1.out HX2.out.size); clear ho2)
              | (refine stepApp1 rawE tyEdits (by rfl) _ _ (by rfl) (w := x2) HO10.out (⟨(x : Int), A1, (File.cut a x x).length, c1, A2, (File.cut b j y).length, c2⟩ : RawEd) (by rfl) (by rfl) rfl (by rfl) rfl HZ2.out HRL.out ?_; intro v3 x3 ho3 hbx3 hk3; have HV3 := Lib.hid ho3; have HP3 : Hid (Blk x3 wr.heap.size 128 #[iv (x : Int), iv (y : Int)]) := Lib.hid ((hk3 _ HP2.out.lt (Own.apartBlk HO10.out HP2.out (by decide))).trans HP2.out); have HA3 := Lib.hid (HA2.out.below hbx3 hwl); have HX3 := Lib.hid ((HX2.out.mono HZ1.out).trans hbx3); have HS3 : Hid (Below w3.heap.size wN x3 ∧ (x3.cell? ⟨w.heap.size, 0, none⟩ = some (iv (x : Int)) ∧ x3.cell? ⟨w.heap.size, 1, none⟩ = some (iv (j : Int)) ∧ x3.cell? ⟨wr.heap.size, 0, none⟩ = some (iv (x : Int)) ∧ x3.cell? ⟨wr.heap.size, 1, none⟩ = some (iv (y : Int)))) := Lib.hid ⟨HX3.out, HA3.out.cell 0, HA3.out.cell 1, HP3.out.cell 0, HP3.out.cell 1⟩; have HST : Hid (Strs w3.heap.size x2 x3) := Lib.hid (strs_app HO10.out hbx3.size hk3); clear ho3 hbx3 hk3))
          all_goals
            have HEd : Hid (EdR w3.heap.size x3 ⟨(x : Int), A1, (File.cut a x x).length, c1, A2, (File.cut b j y).length, c2⟩ ⟨(x : Int), File.cut a x x, File.cut b j y⟩) := Lib.hid ⟨rfl, rfl, rfl, HST.out.own (HW1b.out.base HZ1.out), HST.out.own (HW2.out.base (Nat.le_trans HZ1.out HX1.out.size))⟩
            have HEs := Lib.hid (EdsR.snoc HEd.out (EdsR.keep (((Strs.below hNb).trans (Strs.below HX2.out)).trans HST.out) HS.out))
            have HOx : Hid (Only w.heap.size w3 x3) := Lib.hid (HO.out.past ((hNb.mono HO.out.below.size).trans HX3.out) (Nat.le_refl _) (Nat.le_of_lt hwl))
            have e1 : IntKind.i64.wrap ((x : Int) + 1) = ((x + 1 : Nat) : Int) := IntWalk.i64_in _ (by omega)
            have e2 : IntKind.i64.wrap ((y : Int) + 1) = ((y + 1 : Nat) : Int) := IntWalk.i64_in _ (by omega)
            have p0 := HP3.out.cell 0
            have p1 := HP3.out.cell 1
            have g0 := HA3.out.cell 0
            have g1 := HA3.out.cell 1
            have gl := HA3.out.lt
            have f0 := HA3.out.frozen 0
            have f1 := HA3.out.frozen 1
            have hO5 : Hid (Only w.heap.size w3 ((x3.setCell ⟨w.heap.size, 0, none⟩ (iv ((x + 1 : Nat) : Int))).setCell ⟨w.heap.size, 1, none⟩ (iv ((y + 1 : Nat) : Int)))) := Lib.hid ((HOx.out.trans (Only.set_ _ _ _ _)).trans (Only.set_ _ _ _ _))
            have hR5 := Lib.hid ((HV3.out.setCell (p := ⟨w.heap.size, 0, none⟩) hwl (iv ((x + 1 : Nat) : Int))).setCell (p := ⟨w.heap.size, 1, none⟩) hwl (iv ((y + 1 : Nat) : Int)))
            have hS5 : Hid (EdsR w3.heap.size ((x3.setCell ⟨w.heap.size, 0, none⟩ (iv ((x + 1 : Nat) : Int))).setCell ⟨w.heap.size, 1, none⟩ (iv ((y + 1 : Nat) : Int))) _ _) := Lib.hid (EdsR.keep (((Strs.below (Below.refl _ x3)).set hwl _).set hwl _) HEs.out)
            have hA5 : Blk ((x3.setCell ⟨w.heap.size, 0, none⟩ (iv ((x + 1 : Nat) : Int))).setCell ⟨w.heap.size, 1, none⟩ (iv ((y + 1 : Nat) : Int))) w.heap.size 128 #[iv ((x + 1 : Nat) : Int), iv ((y + 1 : Nat) : Int)] := (HA3.out.set_ 0 _).set_ 1 _
            have hE5 : Hid ((es ++ [(⟨(x : Int), File.cut a x x, File.cut b j y⟩ : File.Edit ByteArray)]) ++ File.diffGo a b (x + 1) (y + 1) (L.drop (k + 1)) = File.diff a b) := Lib.hid (by have := HE3.out; rw [File.diffGo, if_neg (by simpa using hxy), ← List.append_assoc] at this; exact this)
            clear HE3 HO HR HS HEs HEd HOx hxy
            go_wp2_with fail
            go_roundw
            case rel => exact ⟨k + 1, x + 1, y + 1, _, _, by omega, by go_num, hE5, hR5, hS5, hA5, hO5, HT5⟩
            case measure => simp [intOf]; omega
        · have hxi2 : ¬ (x : Int) = (i : Int) := fun e => hxi (by omega)
          have HZ1 : Hid (w3.heap.size ≤ wN.heap.size) := Lib.hid (Nat.le_trans HO.out.below.size hNb.size)
          have HC1 : Hid (∀ W, Below w3.heap.size wN W → Calls Tryz.prog 58 #[.slice (cutA A c i 1) (x - i) (c - i)] W fun e w' => ∃ v, e = .returned v ∧ Own strE 9 W.heap.size w' v (File.cut a i x) ∧ Below W.heap.size W w') := Lib.hid fun W hW => by
            have hbN : Below w.heap.size w W := ((hb13.trans HO.out.below).trans (hNb.mono (by omega))).trans (hW.mono (by omega))
            have h1 : (File.cut a i x).length = x - i := File.cut_length t3 t1
            have := cloneS (cutA A c i 1) (File.cut a i x) (c - i) W (by rw [h1]; unfold big; omega) (Sl.cut (hsa.below hbN) hca t1 t3)
            rw [h1] at this
            exact this
          have HC2 : Hid (∀ W, Below w3.heap.size wN W → Calls Tryz.prog 58 #[.slice (cutA A' c' j 1) (y - j) (c' - j)] W fun e w' => ∃ v, e = .returned v ∧ Own strE 9 W.heap.size w' v (File.cut b j y) ∧ Below W.heap.size W w') := Lib.hid fun W hW => by
            have hbN : Below w.heap.size w W := ((hb13.trans HO.out.below).trans (hNb.mono (by omega))).trans (hW.mono (by omega))
            have h1 : (File.cut b j y).length = y - j := File.cut_length t4 t2
            have := cloneS (cutA A' c' j 1) (File.cut b j y) (c' - j) W (by rw [h1]; unfold big; omega) (Sl.cut (hsb.below hbN) hcb t2 t4)
            rw [h1] at this
            exact this
          have R1 : ∀ W : World, (Instr.slice 43 (.slice A a.length c) (some (iv (i : Int))) (some (iv (x : Int))) none).run Tryz.prog W = .ok (.slice (cutA A c i 1) (x - i) (c - i)) W := run_cut strE tyStrs A a.length c i x t1 (Nat.le_trans t3 hca)
          have R2 : ∀ W : World, (Instr.slice 43 (.slice A' b.length c') (some (iv (j : Int))) (some (iv (y : Int))) none).run Tryz.prog W = .ok (.slice (cutA A' c' j 1) (y - j) (c' - j)) W := run_cut strE tyStrs A' b.length c' j y t2 (Nat.le_trans t4 hcb)
          generalize cutA A c i 1 = X1 at R1 HC1
          generalize x - i = m3 at R1 HC1
          generalize c - i = n3 at R1 HC1
          generalize cutA A' c' j 1 = X2 at R2 HC2
          generalize y - j = m4 at R2 HC2
          generalize c' - j = n4 at R2 HC2
          have HS0 : Hid (∀ z : World, Below wN.heap.size wN z → Below w3.heap.size wN z ∧ (z.cell? ⟨w.heap.size, 0, none⟩ = some (iv (i : Int)) ∧ z.cell? ⟨w.heap.size, 1, none⟩ = some (iv (j : Int)) ∧ z.cell? ⟨wr.heap.size, 0, none⟩ = some (iv (x : Int)) ∧ z.cell? ⟨wr.heap.size, 1, none⟩ = some (iv (y : Int)))) := Lib.hid fun z h => ⟨h.mono HZ1.out, (hatN.under h).cell 0, (hatN.under h).cell 1, (hNx.under h).cell 0, (hNx.under h).cell 1⟩
          have HK0 := Lib.hid (HS0.out wN.drew (Below.refl _ _).drew)
          have HRL : Hid (rs.length + 1 ≤ big) := Lib.hid (by
            have h1 := EdsR.length HS.out
            have h2 := File.diff_len a b
            have h3 := congrArg List.length HE3.out
            rw [List.length_append] at h3
            unfold big
            omega)
          go_upto_region 7 with fail
          go_region_held3 (fun z => Below w3.heap.size wN z ∧ (z.cell? ⟨w.heap.size, 0, none⟩ = some (iv (i : Int)) ∧ z.cell? ⟨w.heap.size, 1, none⟩ = some (iv (j : Int)) ∧ z.cell? ⟨wr.heap.size, 0, none⟩ = some (iv (x : Int)) ∧ z.cell? ⟨wr.heap.size, 1, none⟩ = some (iv (y : Int))))
            (first | with_reducible assumption | exact HK0.out | exact HS3.out | exact HS0.out _ (HX2.out.alloc HX2.out.size _) | exact HS0.out _ HX2.out | exact HS0.out _ HX1.out)
            (first
              | (go_at_call 58; refine (HC1.out _ (Below.refl _ wN).drew).mono ?_; rintro e x1 ⟨v1, rfl, ho1, hbx1⟩; have HX1 := Lib.hid ((Below.refl wN.heap.size wN).drew.next hbx1 (Nat.le_refl _)); obtain ⟨A1, c1, rfl, _, _⟩ := ho1.form; have HW1 := Lib.hid ho1; clear ho1)
              | (go_at_call 58; refine (HC2.out _ (HX1.out.mono HZ1.out)).mono ?_; rintro e x2 ⟨v2, rfl, ho2, hbx2⟩; have HX2 := Lib.hid (HX1.out.next hbx2 (Nat.le_refl _)); obtain ⟨A2, c2, rfl, _, _⟩ := ho2.form; have HW2 := Lib.hid ho2; have HW1b := Lib.hid (Own.below HW1.out hbx2); have HO10 := Lib.hid (Own.below (Own.below HR.out hNb) HX2.out); have HP2 := Lib.hid (hNx.under HX2.out); have HA2 := Lib.hid (hatN.under HX2.out); have HZ2 := Lib.hid (Nat.le_trans HZ1.out HX2.out.size); clear ho2)
              | (refine stepApp1 rawE tyEdits (by rfl) _ _ (by rfl) (w := x2) HO10.out (⟨(i : Int), A1, (File.cut a i x).length, c1, A2, (File.cut b j y).length, c2⟩ : RawEd) (by rfl) (by rfl) rfl (by rfl) rfl HZ2.out HRL.out ?_; intro v3 x3 ho3 hbx3 hk3; have HV3 := Lib.hid ho3; have HP3 : Hid (Blk x3 wr.heap.size 128 #[iv (x : Int), iv (y : Int)]) := Lib.hid ((hk3 _ HP2.out.lt (Own.apartBlk HO10.out HP2.out (by decide))).trans HP2.out); have HA3 := Lib.hid (HA2.out.below hbx3 hwl); have HX3 := Lib.hid ((HX2.out.mono HZ1.out).trans hbx3); have HS3 : Hid (Below w3.heap.size wN x3 ∧ (x3.cell? ⟨w.heap.size, 0, none⟩ = some (iv (i : Int)) ∧ x3.cell? ⟨w.heap.size, 1, none⟩ = some (iv (j : Int)) ∧ x3.cell? ⟨wr.heap.size, 0, none⟩ = some (iv (x : Int)) ∧ x3.cell? ⟨wr.heap.size, 1, none⟩ = some (iv (y : Int)))) := Lib.hid ⟨HX3.out, HA3.out.cell 0, HA3.out.cell 1, HP3.out.cell 0, HP3.out.cell 1⟩; have HST : Hid (Strs w3.heap.size x2 x3) := Lib.hid (strs_app HO10.out hbx3.size hk3); clear ho3 hbx3 hk3))
          all_goals
            have HEd : Hid (EdR w3.heap.size x3 ⟨(i : Int), A1, (File.cut a i x).length, c1, A2, (File.cut b j y).length, c2⟩ ⟨(i : Int), File.cut a i x, File.cut b j y⟩) := Lib.hid ⟨rfl, rfl, rfl, HST.out.own (HW1b.out.base HZ1.out), HST.out.own (HW2.out.base (Nat.le_trans HZ1.out HX1.out.size))⟩
            have HEs := Lib.hid (EdsR.snoc HEd.out (EdsR.keep (((Strs.below hNb).trans (Strs.below HX2.out)).trans HST.out) HS.out))
            have HOx : Hid (Only w.heap.size w3 x3) := Lib.hid (HO.out.past ((hNb.mono HO.out.below.size).trans HX3.out) (Nat.le_refl _) (Nat.le_of_lt hwl))
            have e1 : IntKind.i64.wrap ((x : Int) + 1) = ((x + 1 : Nat) : Int) := IntWalk.i64_in _ (by omega)
            have e2 : IntKind.i64.wrap ((y : Int) + 1) = ((y + 1 : Nat) : Int) := IntWalk.i64_in _ (by omega)
            have p0 := HP3.out.cell 0
            have p1 := HP3.out.cell 1
            have g0 := HA3.out.cell 0
            have g1 := HA3.out.cell 1
            have gl := HA3.out.lt
            have f0 := HA3.out.frozen 0
            have f1 := HA3.out.frozen 1
            have hO5 : Hid (Only w.heap.size w3 ((x3.setCell ⟨w.heap.size, 0, none⟩ (iv ((x + 1 : Nat) : Int))).setCell ⟨w.heap.size, 1, none⟩ (iv ((y + 1 : Nat) : Int)))) := Lib.hid ((HOx.out.trans (Only.set_ _ _ _ _)).trans (Only.set_ _ _ _ _))
            have hR5 := Lib.hid ((HV3.out.setCell (p := ⟨w.heap.size, 0, none⟩) hwl (iv ((x + 1 : Nat) : Int))).setCell (p := ⟨w.heap.size, 1, none⟩) hwl (iv ((y + 1 : Nat) : Int)))
            have hS5 : Hid (EdsR w3.heap.size ((x3.setCell ⟨w.heap.size, 0, none⟩ (iv ((x + 1 : Nat) : Int))).setCell ⟨w.heap.size, 1, none⟩ (iv ((y + 1 : Nat) : Int))) _ _) := Lib.hid (EdsR.keep (((Strs.below (Below.refl _ x3)).set hwl _).set hwl _) HEs.out)
            have hA5 : Blk ((x3.setCell ⟨w.heap.size, 0, none⟩ (iv ((x + 1 : Nat) : Int))).setCell ⟨w.heap.size, 1, none⟩ (iv ((y + 1 : Nat) : Int))) w.heap.size 128 #[iv ((x + 1 : Nat) : Int), iv ((y + 1 : Nat) : Int)] := (HA3.out.set_ 0 _).set_ 1 _
            have hE5 : Hid ((es ++ [(⟨(i : Int), File.cut a i x, File.cut b j y⟩ : File.Edit ByteArray)]) ++ File.diffGo a b (x + 1) (y + 1) (L.drop (k + 1)) = File.diff a b) := Lib.hid (by have := HE3.out; rw [File.diffGo, if_neg (by simpa using hxy), ← List.append_assoc] at this; exact this)
            clear HE3 HO HR HS HEs HEd HOx hxy
            go_wp2_with fail
            go_roundw
            case rel => exact ⟨k + 1, x + 1, y + 1, _, _, by omega, by go_num, hE5, hR5, hS5, hA5, hO5, HT5⟩
            case measure => simp [intOf]; omega
    · have hke : k = L.length := by omega
      have hE : es = File.diff a b := by
        have := HE.out
        rw [hke, List.drop_length] at this
        simpa [File.diffGo] using this
      have hbF : Below w.heap.size w wr := hb13.trans HO.out.below
      have hOw := Lib.hid (Own.base HR.out (Nat.le_of_lt hwl))
      have hSS := Lib.hid HS.out
      have HE2 := Lib.hid hE
      clear hE HE HR HS HO hke
      go_wp2_with fail
      go_ret
      refine ⟨_, rs, rfl, hOw.out, ?_, hbF⟩
      rw [← HE2.out]
      exact EdsR.base (Nat.le_of_lt hwl) hSS.out
end Fl
end Go.Proofs.YtlpoiggdjggkiaaGreatDoor
end
section
namespace Go.Proofs.YtlpoiggdjggkiaaGreatDoor
namespace File
def inr (n : Int) : Bool := decide (0 ≤ n) && decide (n ≤ 24)
end File
namespace Fl
open Go.RowKit Go.ChangeShapes
set_option maxRecDepth 100000
theorem Sl.take {α : Type} {E : Enc α} {w : World} {A : Option Addr} {xs : List α} (h : Sl E w A xs) (j : Nat) : Sl E w A (xs.take j) := fun hx => by
  obtain ⟨b, off, hA, hb, hc⟩ := h (by intro e; rw [e] at hx; simp at hx)
  refine ⟨b, off, hA, hb, fun i x hi => hc i x ?_⟩
  rw [List.getElem?_take] at hi
  split at hi
  · exact hi
  · cases hi
end Fl
end Go.Proofs.YtlpoiggdjggkiaaGreatDoor
end
section
namespace Go.Proofs.YtlpoiggdjggkiaaGreatDoor
open Go.RowKit
set_option maxRecDepth 100000
/-- make([]T, n, m) -/
theorem wpMakeCap {α : Type} (E : Enc α) {P : Program} {t e : TypeId} (hT : SlTy P t e E.sz) {ops : Array Oper} {rest : List Oper} {o : Oper} {a : Act} {Q : Exit → Act → World → Prop} {w : World}
    (hgd : o.guard = none) (l c : Operand) (ho : o.op = .makeSlice t l c) (n m : Nat) (hl : a.eval l = iv n) (hc : a.eval c = iv m) (hnm : n ≤ m) (hm : m ≤ big)
    (h : ∀ w' cs, cs.size = m * E.sz → Blk w' w.heap.size e cs → Below w.heap.size w w' → w'.heap.size = w.heap.size + 1 → wpList P ops Q rest (a.put o.dst (.slice (some ⟨w.heap.size, 0, none⟩) n m)) w') :
    wpList P ops Q (o :: rest) a w := by
  obtain ⟨i, z, hi, hz, hsz, hby, hzc⟩ := hT.info
  unfold big at hm
  have hb' : (i.bytes : Int) * (m : Int) ≤ 281474976710656 := by
    have h1 := Nat.mul_le_mul hby hm
    have h : ((i.bytes * m : Nat) : Int) ≤ 281474976710656 := by omega
    rwa [Int.natCast_mul] at h
  have hr := run_make (P := P) w t e i z hT.ht hi hz .i64 .i64 n m (by omega) (by omega) hb' (by omega)
  simp only [Int.toNat_natCast] at hr
  refine wpList_plain hgd fun K hK' => ?_
  unfold Oper.wp
  simp [execOp, ho, hl, hc, hr, Result.andThen]
  exact hK' _ _ (h _ _ (by rw [size_madeCells, hsz]) (Blk.new _ _ _) ((Below.refl _ _).alloc (Nat.le_refl _) _) (by simp))
/-- copy to the head of a block. -/
theorem run_copyE {α : Type} (E : Enc α) {P : Program} {t e ty : TypeId} (hT : SlTy P t e E.sz) {w : World} {g : Nat} {cur : Array Value} (hB : Blk w g e cur) {A : Option Addr} {ys : List α} (hs : Sl E w A ys) (dl dc c k : Nat)
    (hk : k = Nat.min ys.length dl) (hfit : k * E.sz ≤ cur.size) :
    ∃ w2, (Builtin.copy_ #[t, t] ty #[.slice (some ⟨g, 0, none⟩) dl dc, .slice A ys.length c]).run P w = .ok (iv k) w2 ∧ Blk w2 g e ((ys.take k).flatMap E.cells ++ cur.toList.drop (k * E.sz)).toArray ∧ Below g w w2 := by
  obtain ⟨i, z, hi, hz, hsz, hby, hzc⟩ := hT.info
  by_cases h0 : k = 0
  · refine ⟨w, ?_, ?_, Below.refl _ _⟩
    · cases A with
      | none => simp [Builtin.copy_, run_underlying hT.ht, Builtin.lenOf, Builtin.firstCells, sizeOf, typeInfo, hi, ← hk, h0, storeCells]; rfl
      | some ad => simp [Builtin.copy_, run_underlying hT.ht, Builtin.lenOf, Builtin.firstCells, sizeOf, typeInfo, hi, ← hk, h0, storeCells]; rfl
    · simp [h0]; exact hB
  · have hys : ys ≠ [] := by
      rintro rfl
      simp at hk
      omega
    obtain ⟨b, off, rfl, hb, hc⟩ := hs hys
    have hkl : k ≤ ys.length := by rw [hk]; exact Nat.min_le_left _ _
    have hlen : ((ys.take k).flatMap E.cells).length = k * E.sz := by rw [flat_length, List.length_take, Nat.min_eq_left hkl]
    have hl := run_loadCells_list (P := P) w ⟨b, off, none⟩ ((ys.take k).flatMap E.cells) fun j u hu => by
      obtain ⟨q, y, q', rfl, hq, hu⟩ := flat_inv E _ j u hu
      rw [Addr.add_lit, ← Nat.add_assoc]
      refine hc q y ?_ q' u hu
      rw [List.getElem?_take] at hq
      split at hq
      · exact hq
      · cases hq
    have hst := run_storeCells_at P g 0 e ((ys.take k).flatMap E.cells) 0 cur w hB (by simpa [hlen] using hfit) fun u hu => by
      obtain ⟨y, _, hu⟩ := List.mem_flatMap.1 hu
      exact E.one y u hu
    simp only [Nat.zero_add, Nat.add_zero, List.take_zero, List.nil_append, hlen] at hst hl
    refine ⟨w.setRow g ((ys.take k).flatMap E.cells ++ cur.toList.drop (k * E.sz)).toArray, ?_, setRow_heap w g cur _ e (0, 0) hB, below_setRow (Below.refl g w) (Nat.le_refl _) _⟩
    simp only [Builtin.copy_, run_underlying hT.ht, Builtin.lenOf, Builtin.firstCells, sizeOf, typeInfo, hi, hsz, ← hk]
    simp [hl, hst, Builtin.firstCells, run_underlying hT.ht, sizeOf, typeInfo, Builtin.lenOf, hi, hsz, ← hk, Result.andThen, goInt]
theorem wpCopyE {α : Type} (E : Enc α) {P : Program} {t e : TypeId} (hT : SlTy P t e E.sz) {ops : Array Oper} {rest : List Oper} {o : Oper} {a : Act} {Q : Exit → Act → World → Prop} {w : World}
    (hgd : o.guard = none) (d s : Operand) (ho : o.op = .call { callee := .builtin .copy, args := #[d, s], argTypes := #[t, t] }) {g : Nat} {cur : Array Value} (hB : Blk w g e cur) {A : Option Addr} {ys : List α} (hs : Sl E w A ys) (dl dc c k : Nat)
    (hd : a.eval d = .slice (some ⟨g, 0, none⟩) dl dc) (hse : a.eval s = .slice A ys.length c) (hk : k = Nat.min ys.length dl) (hfit : k * E.sz ≤ cur.size)
    (h : ∀ w', Blk w' g e ((ys.take k).flatMap E.cells ++ cur.toList.drop (k * E.sz)).toArray → Below g w w' → wpList P ops Q rest (a.put o.dst (iv k)) w') : wpList P ops Q (o :: rest) a w := by
  obtain ⟨w2, hr, hB2, hb2⟩ := run_copyE E (ty := o.type) hT hB hs dl dc c k hk hfit
  refine wpList_plain hgd fun K hK => ?_
  unfold Oper.wp
  simp [execOp, ho, resolve, invoke, builtin, hd, hse, hr, Result.andThen]
  exact hK _ _ (h w2 hB2 hb2)
/-- A block whose head holds the list is owned. -/
theorem Own.ofHead {α : Type} {E : Enc α} {e : TypeId} {B : Nat} {w : World} {g n m : Nat} {xs : List α} {rest : List Value} (h : Blk w g e (xs.flatMap E.cells ++ rest).toArray) (hB : B ≤ g) (hn : xs.length = n) (hnm : n ≤ m) (hm : m ≤ maxLen) (hr : n * E.sz + rest.length = m * E.sz) :
    Own E e B w (.slice (some ⟨g, 0, none⟩) n m) xs := by
  subst hn
  exact ⟨flat_length E xs, .inr ⟨g, m, _, rfl, hB, h, hnm, hm, by rw [List.size_toArray, List.length_append, flat_length, hr], by simp [← flat_length E xs]⟩⟩
/-- append of a slice that may be nil, and may begin anywhere, at such a step. -/
theorem stepAppA {α : Type} (E : Enc α) {P : Program} {t e : TypeId} (hT : SlTy P t e E.sz) {ops : Array Oper} {o : Oper} {a : Act} {K : Act → World → Prop} {Q : Exit → Act → World → Prop} {E' : Prop} {w : World}
    (hgd : o.guard = none) (s x : Operand) (ho : o.op = .call { callee := .builtin .append, args := #[s, x], argTypes := #[t, t] })
    {B : Nat} {v : Value} {xs : List α} (hown : Own E e B w v xs) {A : Option Addr} {n c : Nat} {ys : List α} (hy : Sl E w A ys) (hyn : n = ys.length) (hs : a.eval s = v) (hx : a.eval x = .slice A n c)
    (hB : B ≤ w.heap.size) (hn : xs.length + ys.length ≤ big)
    (h : ∀ v' w', Own E e B w' v' (xs ++ ys) → Below B w w' → (∀ b, b < w.heap.size → v.ownBlock ≠ some b → w'.heap[b]? = w.heap[b]?) → K (a.put o.dst v') w') :
    if Region.wanted o (yielded ops a.tmps) = true then Oper.wp P o a w K Q else E' := by
  subst hyn
  have hw : Region.wanted o (yielded ops a.tmps) = true := by simp [Region.wanted, hgd]
  rw [if_pos hw]
  obtain ⟨i, z, hi, hz, hsz, hby, hzc⟩ := hT.info
  unfold big at hn
  have hlt := Own.lt hown
  cases A with
  | none =>
    have hys : ys = [] := by
      by_cases h0 : ys = []
      · exact h0
      · obtain ⟨b, off, hA, _⟩ := hy h0
        cases hA
    subst hys
    have hrun : (Builtin.append_ #[t, t] o.type #[v, .slice none 0 c]).run P w = .ok v w := by
      rcases hown.2 with ⟨rfl, hn'⟩ | ⟨g, cap, cur, rfl, _, _, hnc, _⟩
      · simp [Builtin.append_, run_underlying hT.ht, sizeOf, typeInfo, hi, Builtin.lenOf, Builtin.firstCells]
      · simp [Builtin.append_, run_underlying hT.ht, sizeOf, typeInfo, hi, Builtin.lenOf, Builtin.firstCells, hnc, storeCells]
    simp only [List.length_nil] at hx
    unfold Oper.wp
    simp [execOp, ho, resolve, invoke, builtin, hs, hx, hrun, Result.andThen]
    exact h v w (by simpa using hown) (Below.refl _ _) fun _ _ _ => rfl
  | some ad =>
    refine wp_append_own w s x t ho B e i z E.sz i.bytes hT.ht hi hz hsz rfl hzc E.pos v xs.length (xs.flatMap E.cells) hs hown
      ad ys.length c (ys.flatMap E.cells) hx (flat_length E ys) ?_ ?_ (by unfold maxLen; omega) (by have := Nat.mul_le_mul hn hby; omega) hB ?_
    · intro j u hu
      obtain ⟨k, y, k', rfl, hk, hu⟩ := flat_inv E ys j u hu
      obtain ⟨b, off, hA, _, hc⟩ := hy (by intro e; subst e; simp at hk)
      injection hA with hA
      subst hA
      rw [Addr.add_lit]
      rw [← Nat.add_assoc]
      exact hc k y hk k' u hu
    · intro u hu
      obtain ⟨y, _, hu⟩ := List.mem_flatMap.1 hu
      exact E.one y u hu
    · intro v' w' hown' hg _
      exact h v' w' (by unfold Own; simpa using hown') ((Below.refl B w).grown hg hB fun k hk => (hlt k hk).1) fun b hb hv => hg.block b hb (fun e => hv e.symm)
end Go.Proofs.YtlpoiggdjggkiaaGreatDoor
end
section
namespace Go.Proofs.YtlpoiggdjggkiaaGreatDoor
namespace Fl
open Go.RowKit Go.ChangeShapes
set_option maxRecDepth 100000
theorem drop_cut {f : List ByteArray} (i : Nat) : f.drop i = File.cut f i f.length := by
  unfold File.cut
  rw [List.take_of_length_le (by rw [List.length_drop]; exact Nat.le_refl _)]
set_option maxHeartbeats 4000000 in
theorem made_spec (A : Option Addr) (f : List ByteArray) (c k : Nat) (B : Option Addr) (o d : Nat) (B' : Option Addr) (new : List ByteArray) (d' : Nat) (w : World) (hf : f.length ≤ 100000) (hn : new.length ≤ 100000) (hk : k + o ≤ f.length) (hc : f.length ≤ c)
    (hs : Sl strE w A f) (hs' : Sl strE w B' new) :
    Calls Tryz.prog 59 #[.slice A f.length c, .agg #[iv (k : Int), .slice B o d, .slice B' new.length d']] w fun e w' => ∃ v, e = .returned v ∧ Own strE 9 w.heap.size w' v (f.take k ++ (new ++ f.drop (k + o))) ∧ Below w.heap.size w w' := by
  have e1 : IntKind.i64.wrap ((f.length : Int) + (new.length : Int)) = ((f.length + new.length : Nat) : Int) := IntWalk.i64_in _ (by omega)
  have e2 : IntKind.i64.wrap ((k : Int) + (o : Int)) = ((k + o : Nat) : Int) := IntWalk.i64_in _ (by omega)
  have RC : ∀ W : World, (Instr.slice 43 (.slice A f.length c) (some (iv ((k + o : Nat) : Int))) none none).run Tryz.prog W = .ok (.slice (cutA A c (k + o) 1) (f.length - (k + o)) (c - (k + o))) W := run_cutFrom strE tyStrs A f.length c (k + o) hk
  have hdl : (f.drop (k + o)).length = f.length - (k + o) := List.length_drop
  have HDL := Lib.hid hdl
  have HSD : Hid (Sl strE w (cutA A c (k + o) 1) (f.drop (k + o))) := Lib.hid (by
    rw [drop_cut]
    exact Sl.cut hs hc hk (Nat.le_refl _))
  generalize cutA A c (k + o) 1 = X at RC HSD
  generalize f.length - (k + o) = m3 at RC HDL
  generalize c - (k + o) = n3 at RC
  have HKO : Hid (∃ q, q = k + o) := Lib.hid ⟨_, rfl⟩
  obtain ⟨q, hq⟩ := HKO.out
  rw [← hq] at e2 RC HSD HDL hdl ⊢
  have hkq : k ≤ f.length := by omega
  have HQ := Lib.hid hq
  clear hq hk
  go_enter Tryz.func59, Tryz.ntmps59
  go_upto_region 1 with fail
  have hM : Blk (w.alloc (.cells #[iv (k : Int), .slice B o d, .slice B' new.length d'] 126)) w.heap.size 126 #[iv (k : Int), .slice B o d, .slice B' new.length d'] := Blk.new _ _ _
  have hb1 : Below w.heap.size w (w.alloc (.cells #[iv (k : Int), .slice B o d, .slice B' new.length d'] 126)) := (Below.refl _ _).alloc (Nat.le_refl _) _
  generalize w.alloc (.cells #[iv (k : Int), .slice B o d, .slice B' new.length d'] 126) = w1 at *
  have m1 := hM.cell
  have l1 := hM.lt
  go_upto_region 3 with (first
    | (at_make; refine wpMakeCap strE tyStrs rfl _ _ rfl k (f.length + new.length) rfl (by first | rfl | exact congrArg iv e1) (by omega) (by unfold big; omega) ?_; intro w3 cs hcs hB3 hb3 hz3; have hM3 := hM.under hb3; have m3 := hM3.cell; have l3 := hM3.lt)
    | (refine wpCopyE strE tyStrs rfl _ _ rfl hB3 (hs.below (hb1.next hb3 (Nat.le_refl _))) k (f.length + new.length) c k rfl rfl (by simp [Nat.min_def]; omega) (by rw [hcs]; exact Nat.mul_le_mul_right _ (by omega)) ?_; intro w4 hB4 hb4))
  have hb14 : Below w1.heap.size w1 w4 := hb3.trans hb4
  have hM4 := hM.under hb14
  have hO4 : Own strE 9 w1.heap.size w4 (.slice (some ⟨w1.heap.size, 0, none⟩) k (f.length + new.length)) (f.take k) := Own.ofHead (n := k) (m := f.length + new.length) hB4 (Nat.le_refl _) (by rw [List.length_take]; omega) (by omega) (by unfold maxLen; omega) (by
    have hz : strE.sz = 1 := rfl
    simp only [List.length_drop, Array.length_toList, hcs, hz]; omega)
  have HO4 := Lib.hid (hO4.below (Below.refl w4.heap.size w4).drew)
  have HS0 : Hid (∀ z : World, Below w1.heap.size w4 z → Below w1.heap.size w4 z ∧ (z.cell? ⟨w.heap.size, 0, none⟩ = some (iv (k : Int)) ∧ z.cell? ⟨w.heap.size, 1, none⟩ = some (.slice B o d) ∧ z.cell? ⟨w.heap.size, 2, none⟩ = some (.slice B' new.length d'))) := Lib.hid fun z h => ⟨h, (hM4.below h l1).cell 0, (hM4.below h l1).cell 1, (hM4.below h l1).cell 2⟩
  have HK0 := Lib.hid (HS0.out w4.drew (Below.refl _ _).drew)
  have HN : Hid (∀ z : World, Below w1.heap.size w4 z → Sl strE z B' new) := Lib.hid fun z h => hs'.below ((hb1.next hb14 (Nat.le_refl _)).trans (h.mono hb1.size))
  have HD : Hid (∀ z : World, Below w1.heap.size w4 z → Sl strE z X (f.drop q)) := Lib.hid fun z h => HSD.out.below ((hb1.next hb14 (Nat.le_refl _)).trans (h.mono hb1.size))
  have HZ4 := Lib.hid hb14.size
  have HTK : Hid ((f.take k).length = k) := Lib.hid (by rw [List.length_take]; omega)
  have HB04 := Lib.hid (hb1.next hb14 (Nat.le_refl _))
  have HBZ := Lib.hid hb1.size
  have HX0 := Lib.hid (Below.refl w1.heap.size w4).drew
  have HBG : Hid ((f.take k).length + new.length ≤ big) := Lib.hid (by rw [HTK.out]; unfold big; omega)
  have HBG2 : Hid ((f.take k ++ new).length + (f.drop q).length ≤ big) := Lib.hid (by rw [List.length_append, HTK.out, List.length_drop]; unfold big; omega)
  clear hM m1 hB3 hb3 hz3 hM3 m3 l3 hB4 hb4 hb14 hM4 hO4 hcs hb1 HSD hs hs' hdl
  go_region_held3 (fun z => Below w1.heap.size w4 z ∧ (z.cell? ⟨w.heap.size, 0, none⟩ = some (iv (k : Int)) ∧ z.cell? ⟨w.heap.size, 1, none⟩ = some (.slice B o d) ∧ z.cell? ⟨w.heap.size, 2, none⟩ = some (.slice B' new.length d')))
    (first | with_reducible assumption | exact HK0.out | exact HS0.out _ HX2.out | exact HS0.out _ HX1.out)
    (first
      | (refine stepAppA strE tyStrs (by rfl) _ _ (by rfl) HO4.out (HN.out _ HX0.out) rfl (by rfl) (by rfl) HZ4.out HBG.out ?_; intro v1 x1 ho1 hbx1 _; have HX1 := Lib.hid (HX0.out.trans hbx1); have HO1 := Lib.hid ho1; have HZ1 := Lib.hid (Nat.le_trans HZ4.out HX1.out.size); clear ho1 hbx1)
      | (refine stepAppA strE tyStrs (by rfl) _ _ (by rfl) HO1.out (HD.out _ HX1.out) HDL.out.symm (by rfl) (by rfl) HZ1.out HBG2.out ?_; intro v2 x2 ho2 hbx2 _; have HX2 := Lib.hid (HX1.out.trans hbx2); have HO2 := Lib.hid ho2; clear ho2 hbx2))
  all_goals
    go_wp2_with fail
    go_ret
    exact ⟨_, rfl, by rw [← List.append_assoc]; exact HO2.out.base HBZ.out, HB04.out.trans (HX2.out.mono HBZ.out)⟩
end Fl
end Go.Proofs.YtlpoiggdjggkiaaGreatDoor
end
section
namespace Go.Proofs.YtlpoiggdjggkiaaGreatDoor
namespace Fl
open Go.RowKit Go.ChangeShapes
set_option maxRecDepth 100000
/-- An edit: where its lists lie, and what they hold. -/
structure EdV where
  at_ : Int
  A : Option Addr
  c : Nat
  old : List ByteArray
  A' : Option Addr
  c' : Nat
  new : List ByteArray
def EdV.ed (r : EdV) : File.Edit ByteArray := ⟨r.at_, r.old, r.new⟩
def EdV.v (r : EdV) : Value := .agg #[iv r.at_, .slice r.A r.old.length r.c, .slice r.A' r.new.length r.c']
def edE : Enc EdV := ⟨fun r => [iv r.at_, .slice r.A r.old.length r.c, .slice r.A' r.new.length r.c'], 3, fun _ => rfl, fun _ u h => by simp at h; rcases h with rfl | rfl | rfl <;> rfl, by decide⟩
structure EdOk (w : World) (r : EdV) : Prop where
  old : Sl strE w r.A r.old
  new : Sl strE w r.A' r.new
  oc : r.old.length ≤ r.c
  nc : r.new.length ≤ r.c'
theorem EdOk.below {w w' : World} {r : EdV} (h : EdOk w r) (hb : Below w.heap.size w w') : EdOk w' r := ⟨h.old.below hb, h.new.below hb, h.oc, h.nc⟩
/-- Edits as Diff returns them are such edits. -/
theorem eds_of {B : Nat} {w : World} : ∀ {rs : List RawEd} {xs : List (File.Edit ByteArray)}, EdsR B w rs xs → ∃ vs : List EdV, vs.map EdV.ed = xs ∧ (∀ r ∈ vs, EdOk w r) ∧ vs.flatMap edE.cells = rs.flatMap rawE.cells ∧ vs.length = rs.length
  | [], [], _ => ⟨[], rfl, fun _ h => (by cases h), rfl, rfl⟩
  | r :: rs, x :: xs, ⟨h, h2⟩ => by
    obtain ⟨vs, k1, k2, k3, k4⟩ := eds_of h2
    obtain ⟨p1, p2, p3, p4, p5⟩ := h
    obtain ⟨a, A, n, c, A', n', c'⟩ := r
    obtain ⟨xa, xo, xn⟩ := x
    simp only at p1 p2 p3 p4 p5
    subst p1 p2 p3
    obtain ⟨_, _, e1, c1, _⟩ := p4.form
    obtain ⟨_, _, e2, c2, _⟩ := p5.form
    injection e1 with _ _ e1
    injection e2 with _ _ e2
    subst e1 e2
    refine ⟨⟨a, A, c, xo, A', c', xn⟩ :: vs, by simp [EdV.ed, k1], fun r hr => ?_, by rw [List.flatMap_cons, List.flatMap_cons, k3]; rfl, by simp [k4]⟩
    rcases List.mem_cons.1 hr with rfl | hr
    · exact ⟨p4.sl, p5.sl, c1, c2⟩
    · exact k2 r hr
theorem own_eds {e : TypeId} {B : Nat} {w : World} {v : Value} {rs : List RawEd} {vs : List EdV} (h : Own rawE e B w v rs) (hc : vs.flatMap edE.cells = rs.flatMap rawE.cells) (hl : vs.length = rs.length) : Own edE e B w v vs := by
  unfold Own at h ⊢
  rw [hc, hl]
  exact h
theorem tyEds : SlTy Tryz.prog 77 126 3 := tyEdits
theorem Sl.atEd {w : World} {A : Option Addr} {vs : List EdV} {k : Nat} (h : Sl edE w A vs) (hk : k < vs.length) :
    ∃ b off x, A = some ⟨b, off, none⟩ ∧ b < w.heap.size ∧ vs[k]? = some x ∧ w.cell? ⟨b, off + k * 3, none⟩ = some (iv x.at_) ∧ w.cell? ⟨b, off + k * 3 + 1, none⟩ = some (.slice x.A x.old.length x.c) ∧ w.cell? ⟨b, off + k * 3 + 2, none⟩ = some (.slice x.A' x.new.length x.c') := by
  obtain ⟨b, off, x, hA, hb, hx, hc⟩ := h.at_ hk
  exact ⟨b, off, x, hA, hb, hx, by simpa [edE] using hc 0 (iv x.at_) rfl, by simpa [edE] using hc 1 _ rfl, by simpa [edE] using hc 2 _ rfl⟩
/-- What is small of a change. -/
structure SmallC (xs : List (File.Edit ByteArray)) : Prop where
  many : xs.length ≤ 25
  old : ∀ x ∈ xs, x.old.length ≤ 24
  new : ∀ x ∈ xs, x.new.length ≤ 24
set_option maxHeartbeats 4000000 in
theorem has0_spec (lo hi : Nat) (A1 : Option Addr) (n1 c1 : Nat) (A : Option Addr) (base : List ByteArray) (c : Nat) (vs : List EdV) (C : Option Addr) (cc : Nat) (w : World) (hm : base.length ≤ 24) (hc : base.length ≤ c) (hlo : lo ≤ hi) (hhi : hi ≤ base.length)
    (hsm : SmallC (vs.map EdV.ed)) (hch : File.Chain lo (vs.map EdV.ed)) (hwi : File.Within hi (vs.map EdV.ed)) (hs : Sl strE w A base) (hv : Sl edE w C vs) (hok : ∀ r ∈ vs, EdOk w r) :
    Calls Tryz.prog 29 #[.agg #[iv (lo : Int), iv (hi : Int), .slice C vs.length cc, .slice A1 n1 c1], .slice A base.length c, iv 0] w fun e w' => ∃ v, e = .returned v ∧ Own strE 9 w.heap.size w' v (File.hasGo base hi lo (vs.map EdV.ed)) ∧ Below w.heap.size w w' := by
  have hb1 : Below w.heap.size w (w.alloc (.cells #[iv (lo : Int), iv (hi : Int), .slice C vs.length cc, .slice A1 n1 c1] 81)) := (Below.refl _ _).alloc (Nat.le_refl _) _
  have hM : Blk (w.alloc (.cells #[iv (lo : Int), iv (hi : Int), .slice C vs.length cc, .slice A1 n1 c1] 81)) w.heap.size 81 #[iv (lo : Int), iv (hi : Int), .slice C vs.length cc, .slice A1 n1 c1] := Blk.new _ _ _
  have HCL : Hid (∀ W, Below w.heap.size w W → Calls Tryz.prog 58 #[.slice (cutA A c lo 1) (hi - lo) (c - lo)] W fun e w' => ∃ v, e = .returned v ∧ Own strE 9 W.heap.size w' v (File.cut base lo hi) ∧ Below W.heap.size W w') := Lib.hid fun W hW => by
    have h1 : (File.cut base lo hi).length = hi - lo := File.cut_length hhi hlo
    have := cloneS (cutA A c lo 1) (File.cut base lo hi) (c - lo) W (by rw [h1]; unfold big; omega) (Sl.cut (hs.below hW) hc hlo hhi)
    rw [h1] at this
    exact this
  have RC : ∀ W : World, (Instr.slice 43 (.slice A base.length c) (some (iv (lo : Int))) (some (iv (hi : Int))) none).run Tryz.prog W = .ok (.slice (cutA A c lo 1) (hi - lo) (c - lo)) W := run_cut strE tyStrs A base.length c lo hi hlo (Nat.le_trans hhi hc)
  generalize cutA A c lo 1 = X1 at RC HCL
  generalize hi - lo = m3 at RC HCL
  generalize c - lo = n3 at RC HCL
  have hvl : vs.length ≤ 25 := by have := hsm.many; rwa [List.length_map] at this
  have e1 : IntKind.i64.wrap ((vs.length : Int) - 1) = (vs.length : Int) - 1 := IntWalk.i64_in _ (by omega)
  have HV := Lib.hid hv
  have m1 := hM.cell
  have l1 := hM.lt
  have HLB : Hid (∀ p, (File.hasGo base hi lo ((vs.map EdV.ed).drop p)).length ≤ 100000) := Lib.hid fun p => by
    have h1 := File.hasGo_len (base := base) (hi := hi) (M := 24) (c := (vs.map EdV.ed).drop p) (at_ := lo) fun x hx => hsm.new x (List.mem_of_mem_drop hx)
    have h2 : ((vs.map EdV.ed).drop p).length ≤ 25 := by rw [List.length_drop, List.length_map]; omega
    have h3 : ((vs.map EdV.ed).drop p).length * (base.length + 24) ≤ 25 * 48 := Nat.mul_le_mul h2 (by omega)
    omega
  go_enter Tryz.func29, Tryz.ntmps29
  go_upto_region 1 with fail
  generalize w.alloc (.cells #[iv (lo : Int), iv (hi : Int), .slice C vs.length cc, .slice A1 n1 c1] 81) = w1 at *
  go_wp2_with (go_at_call 58; refine (HCL.out _ hb1).mono ?_; rintro e w2 ⟨v, rfl, ho2, hb2⟩; have hM2 := hM.under hb2; have m2 := hM2.cell; have l2 := hM2.lt)
  have hb02 := hb1.next hb2 (Nat.le_refl _)
  go_loopw [7, 8] (fun u q wr => ∃ (p : Nat), p ≤ vs.length ∧ q = iv ((p : Int) - 1) ∧ Hid (Own strE 9 w.heap.size wr u (File.hasGo base hi lo ((vs.map EdV.ed).drop p))) ∧ Below w2.heap.size w2 wr) (fun _ q _ => (intOf q + 1).toNat)
  case atStart => exact ⟨vs.length, Nat.le_refl _, rfl, by rw [List.drop_of_length_le (by rw [List.length_map]; exact Nat.le_refl _)]; exact ho2.base hb1.size, Below.refl _ _⟩
  case round =>
    obtain ⟨p, hp, rfl, HO, hbr⟩ := hrel
    have hMr := hM2.under hbr
    have b0 := hMr.cell 0
    have b1 := hMr.cell 1
    have b2 := hMr.cell 2
    have b3 := hMr.cell 3
    have lr := hMr.lt
    by_cases hlt : 0 < p
    · obtain ⟨q, rfl⟩ : ∃ q, p = q + 1 := ⟨p - 1, by omega⟩
      have hqi : (0 : Int) ≤ (q : Int) := by omega
      have e2 : ((q + 1 : Nat) : Int) - 1 = (q : Int) := by omega
      have hql : (q : Int) < (vs.length : Int) := by omega
      rw [e2]
      obtain ⟨bx, ox, x, hC, hbx, hx, hc0, hc1, hc2⟩ := Sl.atEd (HV.out.below (hb02.next hbr (Nat.le_refl _))) (show q < vs.length by omega)
      subst hC
      have hxm := mem_at hx
      have hd : (vs.map EdV.ed).drop q = x.ed :: (vs.map EdV.ed).drop (q + 1) := drop_at (by rw [List.getElem?_map, hx]; rfl)
      have hsp : vs.map EdV.ed = (vs.map EdV.ed).take q ++ x.ed :: (vs.map EdV.ed).drop (q + 1) := by rw [← hd, List.take_append_drop]
      have hch2 := hch
      rw [hsp] at hch2
      obtain ⟨k1, k2⟩ := File.Chain.suf hch2
      have hmem : x.ed ∈ vs.map EdV.ed := List.mem_map_of_mem hxm
      have hmade := File.made_has (base := base) k1 k2.2 (fun y hy => hwi y (List.mem_of_mem_drop hy)) (hwi _ hmem) hhi
      have hlo2 : x.at_ - (lo : Int) = ((x.at_.toNat - lo : Nat) : Int) := by have : (lo : Int) ≤ x.at_ := k1; omega
      have hmd : File.hasGo base hi lo ((vs.map EdV.ed).drop q) = (File.hasGo base hi lo ((vs.map EdV.ed).drop (q + 1))).take (x.at_.toNat - lo) ++ (x.new ++ (File.hasGo base hi lo ((vs.map EdV.ed).drop (q + 1))).drop (x.at_.toNat - lo + x.old.length)) := by
        rw [hd, ← hmade.2]
        have e3 : (x.ed.at_ - (lo : Int)).toNat = x.at_.toNat - lo := by show (x.at_ - (lo : Int)).toNat = _; omega
        unfold File.made
        simp only [e3]
        rfl
      have hfit : x.at_.toNat - lo + x.old.length ≤ (File.hasGo base hi lo ((vs.map EdV.ed).drop (q + 1))).length := by
        have h1 := hmade.1
        have : x.ed.hi = x.at_.toNat + x.old.length := rfl
        have : (lo : Int) ≤ x.at_ := k1
        omega
      have hat : x.at_.toNat ≤ 24 := by
        have h1 : x.ed.hi ≤ hi := hwi _ hmem
        have : x.ed.hi = x.at_.toNat + x.old.length := rfl
        omega
      have hpos : 0 ≤ x.at_ := by have : (lo : Int) ≤ x.at_ := k1; omega
      have hnew : x.new.length ≤ 24 := hsm.new _ hmem
      have HOK := Lib.hid (hok x hxm)
      have HMD := Lib.hid hmd
      have HFIT := Lib.hid hfit
      have HOut := HO.out
      obtain ⟨Y, hY⟩ : ∃ Y, Y = File.hasGo base hi lo ((vs.map EdV.ed).drop (q + 1)) := ⟨_, rfl⟩
      rw [← hY] at HMD HFIT HOut
      have HYL : Y.length ≤ 100000 := by rw [hY]; exact HLB.out _
      obtain ⟨Yv, cy, rfl, hcy, _⟩ := HOut.form
      have e3 : IntKind.i64.wrap (x.at_ - (lo : Int)) = ((x.at_.toNat - lo : Nat) : Int) := by rw [← hlo2]; exact IntWalk.i64_in _ (by omega)
      have HOO := Lib.hid HOut
      have e4 : IntKind.i64.wrap ((q : Int) - 1) = (q : Int) - 1 := IntWalk.i64_in _ (by omega)
      generalize x.at_.toNat - lo = kk at e3 HMD HFIT
      clear hx hd hsp hch2 k1 k2 hmade hmd hfit HO HOut hmem hxm hY hlo2
      go_upto_region 6 with fail
      have hNb : Below wr.heap.size wr (wr.alloc (.cells #[iv x.at_, .slice x.A x.old.length x.c, .slice x.A' x.new.length x.c'] 126)) := (Below.refl _ _).alloc (Nat.le_refl _) _
      have hNx : Blk (wr.alloc (.cells #[iv x.at_, .slice x.A x.old.length x.c, .slice x.A' x.new.length x.c'] 126)) wr.heap.size 126 #[iv x.at_, .slice x.A x.old.length x.c, .slice x.A' x.new.length x.c'] := Blk.new _ _ _
      generalize wr.alloc (.cells #[iv x.at_, .slice x.A x.old.length x.c, .slice x.A' x.new.length x.c'] 126) = wN at *
      have n0 := hNx.cell 0
      have n1 := hNx.cell 1
      have n2 := hNx.cell 2
      have nl := hNx.lt
      have nf := hNx.frozen 0
      have hMN := hMr.under hNb
      have a0 := hMN.cell 0
      go_upto_region 7 with fail
      have hNs := hNx.set_ 0 (iv (kk : Int))
      have hbS : Below wr.heap.size wr (wN.setCell ⟨wr.heap.size, 0, none⟩ (iv (kk : Int))) := hNb.setCell (p := ⟨wr.heap.size, 0, none⟩) (Nat.le_refl _) _
      generalize wN.setCell ⟨wr.heap.size, 0, none⟩ (iv (kk : Int)) = wS at *
      have s0 := hNs.cell 0
      have s1 := hNs.cell 1
      have s2 := hNs.cell 2
      have sl := hNs.lt
      have hb2S : Below w2.heap.size w2 wS := hbr.next hbS (Nat.le_refl _)
      have HMS := Lib.hid (made_spec Yv Y cy kk x.A x.old.length x.c x.A' x.new x.c' wS HYL (by omega) HFIT.out hcy (Sl.below HOO.out.sl hbS) (HOK.out.new.below (hb02.next hb2S (Nat.le_refl _))))
      clear n0 n1 n2 nf a0 hMN hNx hNb hNs hbS
      go_wp2_with (go_at_call 59; refine HMS.out.mono ?_; rintro e w5 ⟨v5, rfl, ho5, hb5⟩)
      go_roundw
      case rel => exact ⟨q, by omega, rfl, by rw [HMD.out]; exact ho5.base (hb02.next hb2S (Nat.le_refl _)).size, hb2S.next hb5 (Nat.le_refl _)⟩
      case measure => simp [intOf]
    · obtain rfl : p = 0 := by omega
      go_wp2_with fail
      go_ret
      exact ⟨_, rfl, HO.out, hb02.next hbr (Nat.le_refl _)⟩
set_option maxHeartbeats 4000000 in
theorem has1_spec (lo hi : Nat) (A0 : Option Addr) (n0 c0 : Nat) (A : Option Addr) (base : List ByteArray) (c : Nat) (vs : List EdV) (C : Option Addr) (cc : Nat) (w : World) (hm : base.length ≤ 24) (hc : base.length ≤ c) (hlo : lo ≤ hi) (hhi : hi ≤ base.length)
    (hsm : SmallC (vs.map EdV.ed)) (hch : File.Chain lo (vs.map EdV.ed)) (hwi : File.Within hi (vs.map EdV.ed)) (hs : Sl strE w A base) (hv : Sl edE w C vs) (hok : ∀ r ∈ vs, EdOk w r) :
    Calls Tryz.prog 29 #[.agg #[iv (lo : Int), iv (hi : Int), .slice A0 n0 c0, .slice C vs.length cc], .slice A base.length c, iv 1] w fun e w' => ∃ v, e = .returned v ∧ Own strE 9 w.heap.size w' v (File.hasGo base hi lo (vs.map EdV.ed)) ∧ Below w.heap.size w w' := by
  have hb1 : Below w.heap.size w (w.alloc (.cells #[iv (lo : Int), iv (hi : Int), .slice A0 n0 c0, .slice C vs.length cc] 81)) := (Below.refl _ _).alloc (Nat.le_refl _) _
  have hM : Blk (w.alloc (.cells #[iv (lo : Int), iv (hi : Int), .slice A0 n0 c0, .slice C vs.length cc] 81)) w.heap.size 81 #[iv (lo : Int), iv (hi : Int), .slice A0 n0 c0, .slice C vs.length cc] := Blk.new _ _ _
  have HCL : Hid (∀ W, Below w.heap.size w W → Calls Tryz.prog 58 #[.slice (cutA A c lo 1) (hi - lo) (c - lo)] W fun e w' => ∃ v, e = .returned v ∧ Own strE 9 W.heap.size w' v (File.cut base lo hi) ∧ Below W.heap.size W w') := Lib.hid fun W hW => by
    have h1 : (File.cut base lo hi).length = hi - lo := File.cut_length hhi hlo
    have := cloneS (cutA A c lo 1) (File.cut base lo hi) (c - lo) W (by rw [h1]; unfold big; omega) (Sl.cut (hs.below hW) hc hlo hhi)
    rw [h1] at this
    exact this
  have RC : ∀ W : World, (Instr.slice 43 (.slice A base.length c) (some (iv (lo : Int))) (some (iv (hi : Int))) none).run Tryz.prog W = .ok (.slice (cutA A c lo 1) (hi - lo) (c - lo)) W := run_cut strE tyStrs A base.length c lo hi hlo (Nat.le_trans hhi hc)
  generalize cutA A c lo 1 = X1 at RC HCL
  generalize hi - lo = m3 at RC HCL
  generalize c - lo = n3 at RC HCL
  have hvl : vs.length ≤ 25 := by have := hsm.many; rwa [List.length_map] at this
  have e1 : IntKind.i64.wrap ((vs.length : Int) - 1) = (vs.length : Int) - 1 := IntWalk.i64_in _ (by omega)
  have HV := Lib.hid hv
  have m1 := hM.cell
  have l1 := hM.lt
  have HLB : Hid (∀ p, (File.hasGo base hi lo ((vs.map EdV.ed).drop p)).length ≤ 100000) := Lib.hid fun p => by
    have h1 := File.hasGo_len (base := base) (hi := hi) (M := 24) (c := (vs.map EdV.ed).drop p) (at_ := lo) fun x hx => hsm.new x (List.mem_of_mem_drop hx)
    have h2 : ((vs.map EdV.ed).drop p).length ≤ 25 := by rw [List.length_drop, List.length_map]; omega
    have h3 : ((vs.map EdV.ed).drop p).length * (base.length + 24) ≤ 25 * 48 := Nat.mul_le_mul h2 (by omega)
    omega
  go_enter Tryz.func29, Tryz.ntmps29
  go_upto_region 1 with fail
  generalize w.alloc (.cells #[iv (lo : Int), iv (hi : Int), .slice A0 n0 c0, .slice C vs.length cc] 81) = w1 at *
  go_wp2_with (go_at_call 58; refine (HCL.out _ hb1).mono ?_; rintro e w2 ⟨v, rfl, ho2, hb2⟩; have hM2 := hM.under hb2; have m2 := hM2.cell; have l2 := hM2.lt)
  have hb02 := hb1.next hb2 (Nat.le_refl _)
  go_loopw [7, 8] (fun u q wr => ∃ (p : Nat), p ≤ vs.length ∧ q = iv ((p : Int) - 1) ∧ Hid (Own strE 9 w.heap.size wr u (File.hasGo base hi lo ((vs.map EdV.ed).drop p))) ∧ Below w2.heap.size w2 wr) (fun _ q _ => (intOf q + 1).toNat)
  case atStart => exact ⟨vs.length, Nat.le_refl _, rfl, by rw [List.drop_of_length_le (by rw [List.length_map]; exact Nat.le_refl _)]; exact ho2.base hb1.size, Below.refl _ _⟩
  case round =>
    obtain ⟨p, hp, rfl, HO, hbr⟩ := hrel
    have hMr := hM2.under hbr
    have b0 := hMr.cell 0
    have b1 := hMr.cell 1
    have b2 := hMr.cell 2
    have b3 := hMr.cell 3
    have lr := hMr.lt
    by_cases hlt : 0 < p
    · obtain ⟨q, rfl⟩ : ∃ q, p = q + 1 := ⟨p - 1, by omega⟩
      have hqi : (0 : Int) ≤ (q : Int) := by omega
      have e2 : ((q + 1 : Nat) : Int) - 1 = (q : Int) := by omega
      have hql : (q : Int) < (vs.length : Int) := by omega
      rw [e2]
      obtain ⟨bx, ox, x, hC, hbx, hx, hc0, hc1, hc2⟩ := Sl.atEd (HV.out.below (hb02.next hbr (Nat.le_refl _))) (show q < vs.length by omega)
      subst hC
      have hxm := mem_at hx
      have hd : (vs.map EdV.ed).drop q = x.ed :: (vs.map EdV.ed).drop (q + 1) := drop_at (by rw [List.getElem?_map, hx]; rfl)
      have hsp : vs.map EdV.ed = (vs.map EdV.ed).take q ++ x.ed :: (vs.map EdV.ed).drop (q + 1) := by rw [← hd, List.take_append_drop]
      have hch2 := hch
      rw [hsp] at hch2
      obtain ⟨k1, k2⟩ := File.Chain.suf hch2
      have hmem : x.ed ∈ vs.map EdV.ed := List.mem_map_of_mem hxm
      have hmade := File.made_has (base := base) k1 k2.2 (fun y hy => hwi y (List.mem_of_mem_drop hy)) (hwi _ hmem) hhi
      have hlo2 : x.at_ - (lo : Int) = ((x.at_.toNat - lo : Nat) : Int) := by have : (lo : Int) ≤ x.at_ := k1; omega
      have hmd : File.hasGo base hi lo ((vs.map EdV.ed).drop q) = (File.hasGo base hi lo ((vs.map EdV.ed).drop (q + 1))).take (x.at_.toNat - lo) ++ (x.new ++ (File.hasGo base hi lo ((vs.map EdV.ed).drop (q + 1))).drop (x.at_.toNat - lo + x.old.length)) := by
        rw [hd, ← hmade.2]
        have e3 : (x.ed.at_ - (lo : Int)).toNat = x.at_.toNat - lo := by show (x.at_ - (lo : Int)).toNat = _; omega
        unfold File.made
        simp only [e3]
        rfl
      have hfit : x.at_.toNat - lo + x.old.length ≤ (File.hasGo base hi lo ((vs.map EdV.ed).drop (q + 1))).length := by
        have h1 := hmade.1
        have : x.ed.hi = x.at_.toNat + x.old.length := rfl
        have : (lo : Int) ≤ x.at_ := k1
        omega
      have hat : x.at_.toNat ≤ 24 := by
        have h1 : x.ed.hi ≤ hi := hwi _ hmem
        have : x.ed.hi = x.at_.toNat + x.old.length := rfl
        omega
      have hpos : 0 ≤ x.at_ := by have : (lo : Int) ≤ x.at_ := k1; omega
      have hnew : x.new.length ≤ 24 := hsm.new _ hmem
      have HOK := Lib.hid (hok x hxm)
      have HMD := Lib.hid hmd
      have HFIT := Lib.hid hfit
      have HOut := HO.out
      obtain ⟨Y, hY⟩ : ∃ Y, Y = File.hasGo base hi lo ((vs.map EdV.ed).drop (q + 1)) := ⟨_, rfl⟩
      rw [← hY] at HMD HFIT HOut
      have HYL : Y.length ≤ 100000 := by rw [hY]; exact HLB.out _
      obtain ⟨Yv, cy, rfl, hcy, _⟩ := HOut.form
      have e3 : IntKind.i64.wrap (x.at_ - (lo : Int)) = ((x.at_.toNat - lo : Nat) : Int) := by rw [← hlo2]; exact IntWalk.i64_in _ (by omega)
      have HOO := Lib.hid HOut
      have e4 : IntKind.i64.wrap ((q : Int) - 1) = (q : Int) - 1 := IntWalk.i64_in _ (by omega)
      generalize x.at_.toNat - lo = kk at e3 HMD HFIT
      clear hx hd hsp hch2 k1 k2 hmade hmd hfit HO HOut hmem hxm hY hlo2
      go_upto_region 6 with fail
      have hNb : Below wr.heap.size wr (wr.alloc (.cells #[iv x.at_, .slice x.A x.old.length x.c, .slice x.A' x.new.length x.c'] 126)) := (Below.refl _ _).alloc (Nat.le_refl _) _
      have hNx : Blk (wr.alloc (.cells #[iv x.at_, .slice x.A x.old.length x.c, .slice x.A' x.new.length x.c'] 126)) wr.heap.size 126 #[iv x.at_, .slice x.A x.old.length x.c, .slice x.A' x.new.length x.c'] := Blk.new _ _ _
      generalize wr.alloc (.cells #[iv x.at_, .slice x.A x.old.length x.c, .slice x.A' x.new.length x.c'] 126) = wN at *
      have n0 := hNx.cell 0
      have n1 := hNx.cell 1
      have n2 := hNx.cell 2
      have nl := hNx.lt
      have nf := hNx.frozen 0
      have hMN := hMr.under hNb
      have a0 := hMN.cell 0
      go_upto_region 7 with fail
      have hNs := hNx.set_ 0 (iv (kk : Int))
      have hbS : Below wr.heap.size wr (wN.setCell ⟨wr.heap.size, 0, none⟩ (iv (kk : Int))) := hNb.setCell (p := ⟨wr.heap.size, 0, none⟩) (Nat.le_refl _) _
      generalize wN.setCell ⟨wr.heap.size, 0, none⟩ (iv (kk : Int)) = wS at *
      have s0 := hNs.cell 0
      have s1 := hNs.cell 1
      have s2 := hNs.cell 2
      have sl := hNs.lt
      have hb2S : Below w2.heap.size w2 wS := hbr.next hbS (Nat.le_refl _)
      have HMS := Lib.hid (made_spec Yv Y cy kk x.A x.old.length x.c x.A' x.new x.c' wS HYL (by omega) HFIT.out hcy (Sl.below HOO.out.sl hbS) (HOK.out.new.below (hb02.next hb2S (Nat.le_refl _))))
      clear n0 n1 n2 nf a0 hMN hNx hNb hNs hbS
      go_wp2_with (go_at_call 59; refine HMS.out.mono ?_; rintro e w5 ⟨v5, rfl, ho5, hb5⟩)
      go_roundw
      case rel => exact ⟨q, by omega, rfl, by rw [HMD.out]; exact ho5.base (hb02.next hb2S (Nat.le_refl _)).size, hb2S.next hb5 (Nat.le_refl _)⟩
      case measure => simp [intOf]
    · obtain rfl : p = 0 := by omega
      go_wp2_with fail
      go_ret
      exact ⟨_, rfl, HO.out, hb02.next hbr (Nat.le_refl _)⟩
end Fl
end Go.Proofs.YtlpoiggdjggkiaaGreatDoor
end
section
namespace Go.Proofs.YtlpoiggdjggkiaaGreatDoor
open Go.RowKit Go.Shelf
/-- What lay below n is as it was, but for the block g. -/
structure KeptBut (n g : Nat) (X Y : World) : Prop where
  size : X.heap.size ≤ Y.heap.size
  same : ∀ b, b < n → b ≠ g → Y.heap[b]? = X.heap[b]?
theorem KeptBut.refl (n g : Nat) (X : World) : KeptBut n g X X := ⟨Nat.le_refl _, fun _ _ _ => rfl⟩
theorem KeptBut.trans {n g : Nat} {X Y Z : World} (h : KeptBut n g X Y) (k : KeptBut n g Y Z) : KeptBut n g X Z := ⟨Nat.le_trans h.size k.size, fun b hb hg => (k.same b hb hg).trans (h.same b hb hg)⟩
theorem KeptBut.alloc (n g : Nat) (X : World) (o : Obj) (hn : n ≤ X.heap.size) : KeptBut n g X (X.alloc o) := ⟨by simp, fun b hb _ => Below.heap_alloc X o b (by omega)⟩
theorem KeptBut.of_below {n g : Nat} {X Y : World} (h : Below X.heap.size X Y) (hn : n ≤ X.heap.size) : KeptBut n g X Y := ⟨h.size, fun b hb _ => h.block b (by omega)⟩
theorem KeptBut.set_ {n g : Nat} {X : World} (p : Addr) (hp : p.block = g ∨ n ≤ p.block) (u : Value) : KeptBut n g X (X.setCell p u) := ⟨by simp [World.setCell], fun b hb hg => Below.heap_setCell X p u b (by omega)⟩
/-- An iterator over which all of xs come, one behind the other; the block at the heap's size is its own; of what lay below w's size the rounds may write g alone. -/
def SeqAll {α : Type} (F : Fence) (n : Nat) (P : Program) (gf : Nat) (lb : Array Value) (encs : α → Array Value) (xs : List α) (g : Nat) (w : World) : Prop :=
  ∀ (l : Nat) (J : Nat → World → Prop) (W : World), KeptBut w.heap.size g w W →
    (∀ k X Y row, J k X → X.grownBy Y row → (∀ r, row = some r → r = W.heap.size) → J k Y) →
    (∀ k x X, xs[k]? = some x → J k X → W.heap.size < X.heap.size → YieldAt F (n - 1) P l (encs x) X fun e Y =>
      e = .returned (.bool true) ∧ J (k + 1) Y ∧ X.heap.size ≤ Y.heap.size ∧ ∀ b, (b < w.heap.size ∨ b = W.heap.size) → b ≠ g → Y.heap[b]? = X.heap[b]?) →
    J 0 W →
    CallsIn F n P gf (#[.func (.yield l) #[] #[]] ++ lb) W fun e W' => (∃ v, e = .returned v) ∧ J xs.length W'
theorem grown_putObj (W : World) (l : Nat) (o : Obj) : W.grownBy (W.putObj l o) (some l) := grownBy_putObj' W l o
/-- The statement. -/
theorem wpIn_rangeAll {α : Type} {F : Fence} {n : Nat} {P : Program} {f : Operand} {ps : Array Tmp} {assign body : Code} {Q : Exit → Act → World → Prop} {a : Act} {w : World}
    (hro : F.round = none) (h1 : 1 ≤ n) {gf : Nat} {lb : Array Value} (hf : a.eval f = .func (.func gf) #[] lb) (hFg : F.fn gf) (eg : ∀ args w, (callFunc gf args).run P w = .ok (.enter gf args) w)
    {encs : α → Array Value} {xs : List α} {g : Nat} (hg : g < w.heap.size) (hseq : SeqAll F (n - 1) P gf lb encs xs g w) (hps : ∀ x, (encs x).size = ps.size)
    (I : Nat → World → Prop) (hI : ∀ k X Y row, I k X → X.grownBy Y row → (∀ r, row = some r → w.heap.size ≤ r ∧ r < w.heap.size + 3) → I k Y) (h0 : I 0 w)
    (Ax : Nat → Act → World → Prop) (hAx : ∀ k a' X Y row, Ax k a' X → X.grownBy Y row → (∀ r, row = some r → w.heap.size ≤ r ∧ r < w.heap.size + 3) → Ax k a' Y)
    (hassign : ∀ (l k : Nat) (x : α) (X : World) (K : Act → World → Prop), xs[k]? = some x → I k X → w.heap.size + 2 < X.heap.size → (∀ a' Y, KeptBut (w.heap.size + 3) g X Y → Ax k a' Y → K a' Y) →
      assign.wpIn (F.inRound l) (n - 1 - 1) P (Exit.then K (fun _ _ _ => False)) { tmps := (ps.zip (encs x)).foldl (fun t (p, v) => t.setIfInBounds p v) a.tmps, defers := [] } X)
    (hbody : ∀ (l k : Nat) (x : α) (a' : Act) (X : World), xs[k]? = some x → Ax k a' X → w.heap.size + 2 < X.heap.size →
      body.wpIn (F.inRound l) (n - 1 - 1) P (Exit.then (fun _ Y => KeptBut (w.heap.size + 3) g X Y ∧ I (k + 1) Y) (fun _ _ _ => False)) a' X)
    (hdone : ∀ W : World, I xs.length W → W.heap[w.heap.size]? = some (.deferred (some [])) → Q .normal { a with defers := { target := .collected w.heap.size, args := #[] } :: a.defers } W) :
    (Code.rangeFunc f ps assign body).wpIn F n P Q a w := by
  refine wpIn_rangeFunc ?_
  intro fn hfn
  rw [hro]
  obtain ⟨rec, hrec⟩ : ∃ rec : LoopState → Loop, rec = fun st => { state := st, pending := none, fn, tmps := a.tmps, params := ps, assign, body, defers := w.heap.size } := ⟨_, rfl⟩
  have hst : ∀ st, (rec st).state = st ∧ (rec st).pending = none ∧ (rec st).params = ps := fun st => by rw [hrec]; exact ⟨rfl, rfl, rfl⟩
  obtain ⟨W1, hW1⟩ : ∃ W1, (w.alloc (.deferred (some []))).alloc (.loop (rec .ready)) = W1 := ⟨_, rfl⟩
  have hz1 : W1.heap.size = w.heap.size + 2 := by rw [← hW1]; simp
  have hL1 : W1.heap[w.heap.size + 1]? = some (.loop (rec .ready)) := by
    rw [← hW1]
    have := World.alloc_heap_new (w.alloc (.deferred (some []))) (.loop (rec .ready))
    rwa [World.size_alloc] at this
  have hD1 : W1.heap[w.heap.size]? = some (.deferred (some [])) := by
    rw [← hW1]; exact (Below.heap_alloc _ _ _ (by simp)).trans (World.alloc_heap_new w _)
  have hI1 : I 0 W1 := by
    rw [← hW1]
    exact hI _ _ _ none (hI _ _ _ none h0 (World.grownBy_alloc _ _ _) (fun r e => by cases e)) (World.grownBy_alloc _ _ _) (fun r e => by cases e)
  have hk1 : KeptBut w.heap.size g w W1 := by
    rw [← hW1]
    exact (KeptBut.alloc _ _ _ _ (Nat.le_refl _)).trans (KeptBut.alloc _ _ _ _ (by simp))
  refine ⟨w.heap.size + 1, [{ target := .collected w.heap.size, args := #[] }], W1, { target := .fn (.func gf) lb, args := #[.func (.yield (w.heap.size + 1)) #[] #[]] }, W1, gf,
    #[.func (.yield (w.heap.size + 1)) #[] #[]] ++ lb, W1, ?_, ?_, ?_, ?_, fun _ => h1, ?_⟩
  · rw [← hW1, hrec]
    exact run_enterLoop_outer _ _ _ _ _
  · simp only [resolve, hf]
    simp [go_sem]
  · intro f' hf'
    simp [Target.leads] at hf'
    subst hf'
    exact hFg
  · simp [invoke, go_sem, eg]
  refine (hseq (w.heap.size + 1) (fun k X => I k X ∧ X.heap[w.heap.size + 1]? = some (.loop (rec .ready)) ∧ X.heap[w.heap.size]? = some (.deferred (some []))) W1 hk1 ?_ ?_ ⟨hI1, hL1, hD1⟩).mono ?_
  · rintro k X Y row ⟨hi, hl, hd⟩ hgr hr
    rw [hz1] at hr
    refine ⟨hI k X Y row hi hgr fun r e => ?_, ?_, ?_⟩
    · have := hr r e
      omega
    · rw [hgr.block _ (Array.getElem?_eq_some_iff.1 hl).1 (fun e => by have := hr _ e.symm; omega)]
      exact hl
    · rw [hgr.block _ (Array.getElem?_eq_some_iff.1 hd).1 (fun e => by have := hr _ e.symm; omega)]
      exact hd
  · rintro k x X hx ⟨hi, hl, hd⟩ hlt
    rw [hz1] at hlt
    have hy := run_yield (P := P) (args := encs x) hl (by rw [(hst _).2.2]; exact hps x)
    rw [hrec] at hy
    refine ⟨fn, _, assign, body, hy, roundIn_of_wpIn hfn (hassign _ k x X _ hx hi hlt ?_)⟩
    intro a' Xa hka hax
    have hla := (hka.same (w.heap.size + 1) (by omega) (by omega)).trans hl
    have hda := (hka.same w.heap.size (by omega) (by omega)).trans hd
    have hza : w.heap.size + 2 < Xa.heap.size := Nat.lt_of_lt_of_le hlt hka.size
    refine ⟨_, run_beginRound hla (hst _).1, ?_⟩
    have hbr : ({ rec .ready with state := .busy } : Loop) = rec .busy := by rw [hrec]
    rw [hbr]
    have hl2 : (Xa.putObj (w.heap.size + 1) (.loop (rec .busy))).heap[w.heap.size + 1]? = some (.loop (rec .busy)) := World.putObj_heap_same (by omega)
    have hd2 : (Xa.putObj (w.heap.size + 1) (.loop (rec .busy))).heap[w.heap.size]? = some (.deferred (some [])) := (World.putObj_heap_other (by omega)).trans hda
    refine wpIn_mono (hbody _ k x a' _ hx (hAx k a' _ _ _ hax (grown_putObj _ _ _) (fun r e => by cases e; omega)) (by rw [World.putObj_size]; exact hza)) ?_
    rintro e a3 X3 hp
    cases e with
    | normal =>
      obtain ⟨hk3, hi3⟩ := hp
      have hl3 := (hk3.same (w.heap.size + 1) (by omega) (by omega)).trans hl2
      have hd3 := (hk3.same w.heap.size (by omega) (by omega)).trans hd2
      have hr := run_endRound (P := P) none hl3
      have her : ({ rec .busy with state := if (none : Option Code).isNone then .ready else .done, pending := none } : Loop) = rec .ready := by rw [hrec]; rfl
      rw [her] at hr
      have hz3 := hk3.size
      rw [World.putObj_size] at hz3
      refine ⟨_, _, hr, rfl, ⟨hI _ _ _ _ hi3 (grown_putObj _ _ _) (fun r e => by cases e; omega), World.putObj_heap_same (by omega), (World.putObj_heap_other (by omega)).trans hd3⟩, ?_, fun b hb hbg => ?_⟩
      · rw [World.putObj_size]
        have := hka.size
        omega
      · rw [hz1] at hb
        rw [World.putObj_heap_other (by omega), hk3.same b (by omega) hbg, World.putObj_heap_other (by omega), hka.same b (by omega) hbg]
    | _ => exact hp.elim
  · rintro e W2 ⟨⟨v, rfl⟩, hi, hl, hd⟩
    have hr := run_endLoop (P := P) hl (by rw [(hst _).1]; simp)
    rw [(hst _).2.1] at hr
    exact ⟨none, _, hr, hdone _ (hI _ _ _ _ hi (grown_putObj _ _ _) (fun r e => by cases e; omega)) ((World.putObj_heap_other (by omega)).trans hd)⟩
end Go.Proofs.YtlpoiggdjggkiaaGreatDoor
end
section
namespace Go.Proofs.YtlpoiggdjggkiaaGreatDoor
namespace Fl
open Go.RowKit Go.ChangeShapes Go.Shelf
set_option maxRecDepth 100000
attribute [local go_sem] Oper.semAt_some
def mergeV : Nat → List EdV → List EdV → List (Bool × EdV)
  | 0, _, _ => []
  | _ + 1, [], [] => []
  | n + 1, [], y :: d => (true, y) :: mergeV n [] d
  | n + 1, x :: c, [] => (false, x) :: mergeV n c []
  | n + 1, x :: c, y :: d => if y.at_ < x.at_ then (true, y) :: mergeV n (x :: c) d else (false, x) :: mergeV n c (y :: d)
theorem mergeV_map : ∀ (n : Nat) (c d : List EdV), (mergeV n c d).map (fun p => (p.1, p.2.ed)) = File.mergeGo n (c.map EdV.ed) (d.map EdV.ed) := by
  intro n
  induction n with
  | zero => intro c d; rfl
  | succ n ih =>
    intro c d
    cases c with
    | nil =>
      cases d with
      | nil => rfl
      | cons y d => simp only [mergeV, List.map_cons, List.map_nil, File.mergeGo, ih]
    | cons x c =>
      cases d with
      | nil => simp only [mergeV, List.map_cons, List.map_nil, File.mergeGo, ih]
      | cons y d =>
        simp only [mergeV, List.map_cons, File.mergeGo]
        show List.map _ (if y.at_ < x.at_ then _ else _) = if y.at_ < x.at_ then _ else _
        split <;> simp [ih]
theorem mergeV_length : ∀ (n : Nat) (c d : List EdV), c.length + d.length = n → (mergeV n c d).length = n := by
  intro n
  induction n with
  | zero => intro c d h; rfl
  | succ n ih =>
    intro c d h
    cases c with
    | nil =>
      cases d with
      | nil => simp at h
      | cons y d => simp only [mergeV, List.length_cons, ih [] d (by simpa using h)]
    | cons x c =>
      cases d with
      | nil => simp only [mergeV, List.length_cons, ih c [] (by simpa using h)]
      | cons y d =>
        simp only [mergeV]
        simp only [List.length_cons] at h
        split <;> simp only [List.length_cons]
        · rw [ih (x :: c) d (by simp only [List.length_cons]; omega)]
        · rw [ih c (y :: d) (by simp only [List.length_cons]; omega)]
/-- What is handed over. -/
def encP (p : Bool × EdV) : Array Value := #[iv (if p.1 then 1 else 0), p.2.v]
def numAt (w : World) (g o : Nat) : Nat := match w.cell? ⟨g, o, none⟩ with
  | some (.int _ n) => n.toNat
  | _ => 0
/-- A slice of edits that the rounds do not write. -/
structure Edits (w : World) (A : Option Addr) (vs : List EdV) (g : Nat) : Prop where
  sl : Sl edE w A vs
  apart : vs ≠ [] → ∀ b off, A = some ⟨b, off, none⟩ → b ≠ g
theorem Edits.kept {w W : World} {A : Option Addr} {vs : List EdV} {g : Nat} (h : Edits w A vs g) (hk : KeptBut w.heap.size g w W) : Sl edE W A vs := fun hne => by
  obtain ⟨b, off, hA, hb, hc⟩ := h.sl hne
  refine ⟨b, off, hA, Nat.lt_of_lt_of_le hb hk.size, fun i x hx j u hu => ?_⟩
  rw [World.cell?_of_block (w := w) (hk.same b hb (h.apart hne b off hA))]
  exact hc i x hx j u hu
theorem grown_setCell (W : World) (g o : Nat) (v : Value) : W.grownBy (W.setCell ⟨g, o, none⟩ v) (some g) :=
  ⟨rfl, rfl, rfl, by simp [World.setCell], fun b _ hb => Below.heap_setCell W ⟨g, o, none⟩ v b (fun e => hb (by rw [e]))⟩
set_option maxHeartbeats 4000000 in
theorem edits1_all (n : Nat) (hn : 1 ≤ n) (p : Nat) (A0 : Option Addr) (c0 : Nat) (A1 : Option Addr) (c1 : Nat) (vs0 vs1 : List EdV) (g : Nat) (w : World)
    (hp : Blk w p 79 #[.slice A0 vs0.length c0, .slice A1 vs1.length c1]) (hpg : p ≠ g) (h0 : Edits w A0 vs0 g) (h1 : Edits w A1 vs1 g) (hl : vs0.length + vs1.length ≤ 1000) (hgl : g < w.heap.size) :
    SeqAll Fence.wide n Tryz.prog 79 #[.pointer (some ⟨p, 0, none⟩)] encP (mergeV (vs0.length + vs1.length) vs0 vs1) g w := by
  intro l J W hk hJ hY hJ0
  refine callsIn_of_wp Tryz.func79 rfl trivial ?_ rfl
  simp only [Tryz.ntmps79, List.size_toArray, List.length_cons, List.length_nil, Nat.reduceAdd, Nat.reduceSub, Array.replicate_succ, Array.replicate_zero, List.push_toArray, List.append_toArray, List.nil_append, List.cons_append]
  have hJa : J 0 (W.alloc (.cells #[iv 0, iv 0] 33)) := hJ 0 _ _ none hJ0 (World.grownBy_alloc _ _ _) (fun r e => by cases e)
  have hAt : Blk (W.alloc (.cells #[iv 0, iv 0] 33)) W.heap.size 33 #[iv 0, iv 0] := Blk.new _ _ _
  have hka : KeptBut w.heap.size g w (W.alloc (.cells #[iv 0, iv 0] 33)) := hk.trans (KeptBut.alloc _ _ _ _ hk.size)
  have HE0 := Lib.hid h0
  have HE1 := Lib.hid h1
  have HP := Lib.hid hp
  have hplt := hp.lt
  have hWz := hk.size
  clear h0 h1 hp hJ0 hk
  obtain ⟨xs, hxs⟩ : ∃ xs, xs = mergeV (vs0.length + vs1.length) vs0 vs1 := ⟨_, rfl⟩
  rw [← hxs] at hY ⊢
  have HXL : Hid (xs.length = vs0.length + vs1.length) := Lib.hid (by rw [hxs]; exact mergeV_length _ _ _ rfl)
  have HX0 : Hid (xs.drop 0 = mergeV (vs0.length + vs1.length - 0) (vs0.drop 0) (vs1.drop 0)) := Lib.hid (by rw [hxs]; rfl)
  have HY := Lib.hid hY
  have HJ := Lib.hid hJ
  clear hxs hY hJ
  gi_wp2
  generalize W.alloc (.cells #[iv 0, iv 0] 33) = Wa at *
  gi_loopw [4] (fun _ wr => ∃ (i j : Nat), i ≤ vs0.length ∧ j ≤ vs1.length ∧ Blk wr W.heap.size 33 #[iv (i : Int), iv (j : Int)] ∧ J (i + j) wr ∧ KeptBut w.heap.size g w wr ∧ Hid (xs.drop (i + j) = mergeV (vs0.length + vs1.length - (i + j)) (vs0.drop i) (vs1.drop j)))
    (fun _ wr => vs0.length + vs1.length - (numAt wr W.heap.size 0 + numAt wr W.heap.size 1))
  case atStart => exact ⟨0, 0, Nat.zero_le _, Nat.zero_le _, hAt, hJa, hka, HX0⟩
  case round =>
    obtain ⟨i, j, hi, hj, hat, hJr, hkr, HX⟩ := hrel
    have a0 := hat.cell 0
    have a1 := hat.cell 1
    have al := hat.lt
    have hpr : Blk wr p 79 #[.slice A0 vs0.length c0, .slice A1 vs1.length c1] := (hkr.same p hplt hpg).trans HP.out
    have p0 := hpr.cell 0
    have p1 := hpr.cell 1
    have pl := hpr.lt
    by_cases hi0 : i < vs0.length
    · obtain ⟨b0, o0, x, hA0, hb0, hx, x0, x1, x2⟩ := Sl.atEd (HE0.out.kept hkr) hi0
      have hi0i : (i : Int) < (vs0.length : Int) := by omega
      have hi0e : ((i : Int) == (vs0.length : Int)) = false := by simp; omega
      by_cases hj0 : j < vs1.length
      · obtain ⟨b1, o1, y, hA1, hb1, hy, y0, y1, y2⟩ := Sl.atEd (HE1.out.kept hkr) hj0
        have hj0i : (j : Int) < (vs1.length : Int) := by omega
        subst hA0 hA1
        by_cases hlt : y.at_ < x.at_
        · have hd : xs.drop (i + j) = (true, y) :: mergeV (vs0.length + vs1.length - (i + (j + 1))) (vs0.drop i) (vs1.drop (j + 1)) := by
            rw [HX.out, drop_at hx, drop_at hy, show vs0.length + vs1.length - (i + j) = (vs0.length + vs1.length - (i + (j + 1))) + 1 by omega]
            simp only [mergeV]
            rw [if_pos hlt]
          have hxk : xs[i + j]? = some (true, y) := by
            have h6 := congrArg List.head? hd
            rw [List.head?_drop] at h6
            simpa using h6
          have HD2 : Hid (xs.drop (i + (j + 1)) = mergeV (vs0.length + vs1.length - (i + (j + 1))) (vs0.drop i) (vs1.drop (j + 1))) := Lib.hid (by
            rw [show i + (j + 1) = (i + j) + 1 by omega, ← List.drop_drop, hd, show i + j + 1 = i + (j + 1) by omega]
            rfl)
          clear hd HX
          gi_wp2
          gi_quiet (fail)
          have hgr : wr.grownBy (wr.drewN (nq + 1)) none := ⟨rfl, rfl, rfl, Nat.le_refl _, fun _ _ _ => rfl⟩
          obtain ⟨fn, tmps, assign, body, hy2, hR⟩ := HY.out (i + j) _ (wr.drewN (nq + 1)) hxk (HJ.out _ _ _ none hJr hgr (fun r e => by cases e)) al
          have hy3 : (Instr.yield l #[Value.int .i64 1, .agg #[iv y.at_, .slice y.A y.old.length y.c, .slice y.A' y.new.length y.c']]).run Tryz.prog (wr.drewN (nq + 1)) = .ok (.round l fn tmps assign body) (wr.drewN (nq + 1)) := hy2
          clear hy2
          have hmix : (Tryz.prog).follows .mixedOrders = true := by kernel_rfl
          gi_wp2_with fail
          gi_region_with_o (refine hR.mono ?_; rintro e W3 ⟨rfl, hJ3, hz3, hk3⟩)
          all_goals
            have hat3 : Blk W3 W.heap.size 33 #[iv (i : Int), iv (j : Int)] := (hk3 W.heap.size (.inr rfl) (by omega)).trans hat
            have hkr3 : KeptBut w.heap.size g w W3 := hkr.trans ⟨hz3, fun b hb hbg => hk3 b (.inl hb) hbg⟩
            have c0 := hat3.cell 0
            have c1 := hat3.cell 1
            have cl := hat3.lt
            have cf := hat3.frozen 1
            have ew : IntKind.i64.wrap ((j : Int) + 1) = ((j + 1 : Nat) : Int) := IntWalk.i64_in _ (by omega)
            have hat4 := hat3.set_ 1 (iv ((j + 1 : Nat) : Int))
            have hkr4 : KeptBut w.heap.size g w (W3.setCell ⟨W.heap.size, 1, none⟩ (iv ((j + 1 : Nat) : Int))) := hkr3.trans (KeptBut.set_ _ (.inr hWz) _)
            have HJ4 : Hid (J (i + (j + 1)) (W3.setCell ⟨W.heap.size, 1, none⟩ (iv ((j + 1 : Nat) : Int)))) := Lib.hid (by
              rw [show i + (j + 1) = i + j + 1 by omega]
              exact HJ.out _ W3 _ (some W.heap.size) hJ3 (grown_setCell W3 W.heap.size 1 _) (fun r e => by cases e; rfl))
            gi_wp2
            go_roundw
            case rel => exact ⟨i, (j + 1), by omega, by omega, hat4, HJ4.out, hkr4, HD2⟩
            case measure =>
              have e0 : numAt wr W.heap.size 0 = i := by unfold numAt; rw [a0]; simp
              have e1 : numAt wr W.heap.size 1 = j := by unfold numAt; rw [a1]; simp
              have f0 := hat4.cell 0
              have f1 := hat4.cell 1
              have e2 : numAt (W3.setCell ⟨W.heap.size, 1, none⟩ (iv ((j + 1 : Nat) : Int))) W.heap.size 0 = i := by unfold numAt; rw [f0]; simp; try omega
              have e3 : numAt (W3.setCell ⟨W.heap.size, 1, none⟩ (iv ((j + 1 : Nat) : Int))) W.heap.size 1 = (j + 1) := by unfold numAt; rw [f1]; simp; try omega
              rw [e0, e1]
              show vs0.length + vs1.length - (numAt (W3.setCell ⟨W.heap.size, 1, none⟩ (iv ((j + 1 : Nat) : Int))) W.heap.size 0 + numAt (W3.setCell ⟨W.heap.size, 1, none⟩ (iv ((j + 1 : Nat) : Int))) W.heap.size 1) < _
              rw [e2, e3]
              omega
        · have hd : xs.drop (i + j) = (false, x) :: mergeV (vs0.length + vs1.length - ((i + 1) + j)) (vs0.drop (i + 1)) (vs1.drop j) := by
            rw [HX.out, drop_at hx, drop_at hy, show vs0.length + vs1.length - (i + j) = (vs0.length + vs1.length - ((i + 1) + j)) + 1 by omega]
            simp only [mergeV]
            rw [if_neg hlt]
          have hxk : xs[i + j]? = some (false, x) := by
            have h6 := congrArg List.head? hd
            rw [List.head?_drop] at h6
            simpa using h6
          have HD2 : Hid (xs.drop ((i + 1) + j) = mergeV (vs0.length + vs1.length - ((i + 1) + j)) (vs0.drop (i + 1)) (vs1.drop j)) := Lib.hid (by
            rw [show (i + 1) + j = (i + j) + 1 by omega, ← List.drop_drop, hd, show i + j + 1 = (i + 1) + j by omega]
            rfl)
          clear hd HX
          gi_wp2
          gi_quiet (fail)
          have hgr : wr.grownBy (wr.drewN (nq + 1)) none := ⟨rfl, rfl, rfl, Nat.le_refl _, fun _ _ _ => rfl⟩
          obtain ⟨fn, tmps, assign, body, hy2, hR⟩ := HY.out (i + j) _ (wr.drewN (nq + 1)) hxk (HJ.out _ _ _ none hJr hgr (fun r e => by cases e)) al
          have hy3 : (Instr.yield l #[Value.int .i64 0, .agg #[iv x.at_, .slice x.A x.old.length x.c, .slice x.A' x.new.length x.c']]).run Tryz.prog (wr.drewN (nq + 1)) = .ok (.round l fn tmps assign body) (wr.drewN (nq + 1)) := hy2
          clear hy2
          have hmix : (Tryz.prog).follows .mixedOrders = true := by kernel_rfl
          gi_wp2_with fail
          gi_region_with_o (refine hR.mono ?_; rintro e W3 ⟨rfl, hJ3, hz3, hk3⟩)
          all_goals
            have hat3 : Blk W3 W.heap.size 33 #[iv (i : Int), iv (j : Int)] := (hk3 W.heap.size (.inr rfl) (by omega)).trans hat
            have hkr3 : KeptBut w.heap.size g w W3 := hkr.trans ⟨hz3, fun b hb hbg => hk3 b (.inl hb) hbg⟩
            have c0 := hat3.cell 0
            have c1 := hat3.cell 1
            have cl := hat3.lt
            have cf := hat3.frozen 0
            have ew : IntKind.i64.wrap ((i : Int) + 1) = ((i + 1 : Nat) : Int) := IntWalk.i64_in _ (by omega)
            have hat4 := hat3.set_ 0 (iv ((i + 1 : Nat) : Int))
            have hkr4 : KeptBut w.heap.size g w (W3.setCell ⟨W.heap.size, 0, none⟩ (iv ((i + 1 : Nat) : Int))) := hkr3.trans (KeptBut.set_ _ (.inr hWz) _)
            have HJ4 : Hid (J ((i + 1) + j) (W3.setCell ⟨W.heap.size, 0, none⟩ (iv ((i + 1 : Nat) : Int)))) := Lib.hid (by
              rw [show (i + 1) + j = i + j + 1 by omega]
              exact HJ.out _ W3 _ (some W.heap.size) hJ3 (grown_setCell W3 W.heap.size 0 _) (fun r e => by cases e; rfl))
            gi_wp2
            go_roundw
            case rel => exact ⟨(i + 1), j, by omega, by omega, hat4, HJ4.out, hkr4, HD2⟩
            case measure =>
              have e0 : numAt wr W.heap.size 0 = i := by unfold numAt; rw [a0]; simp
              have e1 : numAt wr W.heap.size 1 = j := by unfold numAt; rw [a1]; simp
              have f0 := hat4.cell 0
              have f1 := hat4.cell 1
              have e2 : numAt (W3.setCell ⟨W.heap.size, 0, none⟩ (iv ((i + 1 : Nat) : Int))) W.heap.size 0 = (i + 1) := by unfold numAt; rw [f0]; simp; try omega
              have e3 : numAt (W3.setCell ⟨W.heap.size, 0, none⟩ (iv ((i + 1 : Nat) : Int))) W.heap.size 1 = j := by unfold numAt; rw [f1]; simp; try omega
              rw [e0, e1]
              show vs0.length + vs1.length - (numAt (W3.setCell ⟨W.heap.size, 0, none⟩ (iv ((i + 1 : Nat) : Int))) W.heap.size 0 + numAt (W3.setCell ⟨W.heap.size, 0, none⟩ (iv ((i + 1 : Nat) : Int))) W.heap.size 1) < _
              rw [e2, e3]
              omega
      · have hj0i : ¬ (j : Int) < (vs1.length : Int) := by omega
        subst hA0
        have hd : xs.drop (i + j) = (false, x) :: mergeV (vs0.length + vs1.length - ((i + 1) + j)) (vs0.drop (i + 1)) (vs1.drop j) := by
          rw [HX.out, drop_at hx, List.drop_eq_nil_of_le (show vs1.length ≤ j by omega), show vs0.length + vs1.length - (i + j) = (vs0.length + vs1.length - ((i + 1) + j)) + 1 by omega]
          simp only [mergeV]
        have hxk : xs[i + j]? = some (false, x) := by
          have h6 := congrArg List.head? hd
          rw [List.head?_drop] at h6
          simpa using h6
        have HD2 : Hid (xs.drop ((i + 1) + j) = mergeV (vs0.length + vs1.length - ((i + 1) + j)) (vs0.drop (i + 1)) (vs1.drop j)) := Lib.hid (by
          rw [show (i + 1) + j = (i + j) + 1 by omega, ← List.drop_drop, hd, show i + j + 1 = (i + 1) + j by omega]
          rfl)
        clear hd HX
        gi_wp2
        gi_quiet (fail)
        have hgr : wr.grownBy (wr.drewN (nq + 1)) none := ⟨rfl, rfl, rfl, Nat.le_refl _, fun _ _ _ => rfl⟩
        obtain ⟨fn, tmps, assign, body, hy2, hR⟩ := HY.out (i + j) _ (wr.drewN (nq + 1)) hxk (HJ.out _ _ _ none hJr hgr (fun r e => by cases e)) al
        have hy3 : (Instr.yield l #[Value.int .i64 0, .agg #[iv x.at_, .slice x.A x.old.length x.c, .slice x.A' x.new.length x.c']]).run Tryz.prog (wr.drewN (nq + 1)) = .ok (.round l fn tmps assign body) (wr.drewN (nq + 1)) := hy2
        clear hy2
        have hmix : (Tryz.prog).follows .mixedOrders = true := by kernel_rfl
        gi_wp2_with fail
        gi_region_with_o (refine hR.mono ?_; rintro e W3 ⟨rfl, hJ3, hz3, hk3⟩)
        all_goals
          have hat3 : Blk W3 W.heap.size 33 #[iv (i : Int), iv (j : Int)] := (hk3 W.heap.size (.inr rfl) (by omega)).trans hat
          have hkr3 : KeptBut w.heap.size g w W3 := hkr.trans ⟨hz3, fun b hb hbg => hk3 b (.inl hb) hbg⟩
          have c0 := hat3.cell 0
          have c1 := hat3.cell 1
          have cl := hat3.lt
          have cf := hat3.frozen 0
          have ew : IntKind.i64.wrap ((i : Int) + 1) = ((i + 1 : Nat) : Int) := IntWalk.i64_in _ (by omega)
          have hat4 := hat3.set_ 0 (iv ((i + 1 : Nat) : Int))
          have hkr4 : KeptBut w.heap.size g w (W3.setCell ⟨W.heap.size, 0, none⟩ (iv ((i + 1 : Nat) : Int))) := hkr3.trans (KeptBut.set_ _ (.inr hWz) _)
          have HJ4 : Hid (J ((i + 1) + j) (W3.setCell ⟨W.heap.size, 0, none⟩ (iv ((i + 1 : Nat) : Int)))) := Lib.hid (by
            rw [show (i + 1) + j = i + j + 1 by omega]
            exact HJ.out _ W3 _ (some W.heap.size) hJ3 (grown_setCell W3 W.heap.size 0 _) (fun r e => by cases e; rfl))
          gi_wp2
          go_roundw
          case rel => exact ⟨(i + 1), j, by omega, by omega, hat4, HJ4.out, hkr4, HD2⟩
          case measure =>
            have e0 : numAt wr W.heap.size 0 = i := by unfold numAt; rw [a0]; simp
            have e1 : numAt wr W.heap.size 1 = j := by unfold numAt; rw [a1]; simp
            have f0 := hat4.cell 0
            have f1 := hat4.cell 1
            have e2 : numAt (W3.setCell ⟨W.heap.size, 0, none⟩ (iv ((i + 1 : Nat) : Int))) W.heap.size 0 = (i + 1) := by unfold numAt; rw [f0]; simp; try omega
            have e3 : numAt (W3.setCell ⟨W.heap.size, 0, none⟩ (iv ((i + 1 : Nat) : Int))) W.heap.size 1 = j := by unfold numAt; rw [f1]; simp; try omega
            rw [e0, e1]
            show vs0.length + vs1.length - (numAt (W3.setCell ⟨W.heap.size, 0, none⟩ (iv ((i + 1 : Nat) : Int))) W.heap.size 0 + numAt (W3.setCell ⟨W.heap.size, 0, none⟩ (iv ((i + 1 : Nat) : Int))) W.heap.size 1) < _
            rw [e2, e3]
            omega
    · have hi0i : ¬ (i : Int) < (vs0.length : Int) := by omega
      have hi0e : ((i : Int) == (vs0.length : Int)) = true := by simp; omega
      by_cases hj0 : j < vs1.length
      · obtain ⟨b1, o1, y, hA1, hb1, hy, y0, y1, y2⟩ := Sl.atEd (HE1.out.kept hkr) hj0
        have hj0i : (j : Int) < (vs1.length : Int) := by omega
        subst hA1
        have hd : xs.drop (i + j) = (true, y) :: mergeV (vs0.length + vs1.length - (i + (j + 1))) (vs0.drop i) (vs1.drop (j + 1)) := by
          rw [HX.out, drop_at hy, List.drop_eq_nil_of_le (show vs0.length ≤ i by omega), show vs0.length + vs1.length - (i + j) = (vs0.length + vs1.length - (i + (j + 1))) + 1 by omega]
          simp only [mergeV]
        have hxk : xs[i + j]? = some (true, y) := by
          have h6 := congrArg List.head? hd
          rw [List.head?_drop] at h6
          simpa using h6
        have HD2 : Hid (xs.drop (i + (j + 1)) = mergeV (vs0.length + vs1.length - (i + (j + 1))) (vs0.drop i) (vs1.drop (j + 1))) := Lib.hid (by
          rw [show i + (j + 1) = (i + j) + 1 by omega, ← List.drop_drop, hd, show i + j + 1 = i + (j + 1) by omega]
          rfl)
        clear hd HX
        gi_wp2
        gi_quiet (fail)
        have hgr : wr.grownBy (wr.drewN (nq + 1)) none := ⟨rfl, rfl, rfl, Nat.le_refl _, fun _ _ _ => rfl⟩
        obtain ⟨fn, tmps, assign, body, hy2, hR⟩ := HY.out (i + j) _ (wr.drewN (nq + 1)) hxk (HJ.out _ _ _ none hJr hgr (fun r e => by cases e)) al
        have hy3 : (Instr.yield l #[Value.int .i64 1, .agg #[iv y.at_, .slice y.A y.old.length y.c, .slice y.A' y.new.length y.c']]).run Tryz.prog (wr.drewN (nq + 1)) = .ok (.round l fn tmps assign body) (wr.drewN (nq + 1)) := hy2
        clear hy2
        have hmix : (Tryz.prog).follows .mixedOrders = true := by kernel_rfl
        gi_wp2_with fail
        gi_region_with_o (refine hR.mono ?_; rintro e W3 ⟨rfl, hJ3, hz3, hk3⟩)
        all_goals
          have hat3 : Blk W3 W.heap.size 33 #[iv (i : Int), iv (j : Int)] := (hk3 W.heap.size (.inr rfl) (by omega)).trans hat
          have hkr3 : KeptBut w.heap.size g w W3 := hkr.trans ⟨hz3, fun b hb hbg => hk3 b (.inl hb) hbg⟩
          have c0 := hat3.cell 0
          have c1 := hat3.cell 1
          have cl := hat3.lt
          have cf := hat3.frozen 1
          have ew : IntKind.i64.wrap ((j : Int) + 1) = ((j + 1 : Nat) : Int) := IntWalk.i64_in _ (by omega)
          have hat4 := hat3.set_ 1 (iv ((j + 1 : Nat) : Int))
          have hkr4 : KeptBut w.heap.size g w (W3.setCell ⟨W.heap.size, 1, none⟩ (iv ((j + 1 : Nat) : Int))) := hkr3.trans (KeptBut.set_ _ (.inr hWz) _)
          have HJ4 : Hid (J (i + (j + 1)) (W3.setCell ⟨W.heap.size, 1, none⟩ (iv ((j + 1 : Nat) : Int)))) := Lib.hid (by
            rw [show i + (j + 1) = i + j + 1 by omega]
            exact HJ.out _ W3 _ (some W.heap.size) hJ3 (grown_setCell W3 W.heap.size 1 _) (fun r e => by cases e; rfl))
          gi_wp2
          go_roundw
          case rel => exact ⟨i, (j + 1), by omega, by omega, hat4, HJ4.out, hkr4, HD2⟩
          case measure =>
            have e0 : numAt wr W.heap.size 0 = i := by unfold numAt; rw [a0]; simp
            have e1 : numAt wr W.heap.size 1 = j := by unfold numAt; rw [a1]; simp
            have f0 := hat4.cell 0
            have f1 := hat4.cell 1
            have e2 : numAt (W3.setCell ⟨W.heap.size, 1, none⟩ (iv ((j + 1 : Nat) : Int))) W.heap.size 0 = i := by unfold numAt; rw [f0]; simp; try omega
            have e3 : numAt (W3.setCell ⟨W.heap.size, 1, none⟩ (iv ((j + 1 : Nat) : Int))) W.heap.size 1 = (j + 1) := by unfold numAt; rw [f1]; simp; try omega
            rw [e0, e1]
            show vs0.length + vs1.length - (numAt (W3.setCell ⟨W.heap.size, 1, none⟩ (iv ((j + 1 : Nat) : Int))) W.heap.size 0 + numAt (W3.setCell ⟨W.heap.size, 1, none⟩ (iv ((j + 1 : Nat) : Int))) W.heap.size 1) < _
            rw [e2, e3]
            omega
      · have hj0i : ¬ (j : Int) < (vs1.length : Int) := by omega
        have hJe : J xs.length wr := by rw [HXL.out, show vs0.length + vs1.length = i + j by omega]; exact hJr
        gi_wp2
        go_end0
        exact ⟨⟨_, rfl⟩, hJe⟩
end Fl
end Go.Proofs.YtlpoiggdjggkiaaGreatDoor
end
section
namespace Go.Proofs.YtlpoiggdjggkiaaGreatDoor
open Go.RowKit
theorem rowsIn_wide {n : Nat} {P : Program} {row : String} {args : Array Value} {w : World} {R : Value → World → Prop} (h : Rows P row args w R) : RowsIn Fence.wide n P row args w R :=
  fun c cs _ => let ⟨v, w', r, s⟩ := h c cs; ⟨v, w', r, stepsIn_wide.2 s⟩
section
variable {P : Program} {ops : Array Oper} {Q : Exit → Act → World → Prop} {n l : Nat}
theorem opIn_of_op {o : Oper} {a : Act} {w : World} {K : Act → World → Prop} (hd : ∀ c, o.op ≠ .defer c) (h : o.wp P a w K Q) : o.wpIn (Fence.wide.inRound l) n P a w K Q := by
  unfold Oper.wpIn
  refine ⟨fun _ _ => trivial, ?_⟩
  rw [Oper.semAt_eq _ _ _ hd]
  unfold Oper.wp at h
  generalize (execOp a.eval o).run P w = r at *
  cases r with
  | ok x w' =>
    cases x <;> simp only [Oper.upon, Oper.uponIn] at h ⊢ <;>
      first
        | exact h
        | exact h.elim
        | exact ⟨fun e => (by cases e), CallsIn.inRound l (callsIn_wide.2 h)⟩
        | exact ⟨fun e => (by cases e), rowsIn_wide h⟩
  | halt x w' => cases x <;> simp only [Oper.upon, Oper.uponIn] at h ⊢ <;> exact h
theorem anyIn_of_any {md : Region.Mode} (hno : ∀ (i : Nat) (o : Oper), ops[i]? = some o → ∀ c, o.op ≠ .defer c) (hQ : ¬ LetsOut Q) : ∀ (fuel : Nat) (listed : Array Bool) (a : Act) (w : World), wpAny P md ops Q fuel listed a w → wpAnyIn (Fence.wide.inRound l) n P md ops Q fuel listed a w := by
  intro fuel
  induction fuel with
  | zero => intro listed a w h; exact h
  | succ fuel ih =>
    intro listed a w h
    refine ⟨h.1, fun i hi => ?_⟩
    have h2 := h.2 i hi
    unfold wpOp at h2
    unfold wpOpIn
    cases ho : ops[i]? with
    | none => rw [ho] at h2; exact ih _ _ _ h2
    | some o =>
      rw [ho] at h2
      simp only at h2 ⊢
      split
      · rename_i hw
        rw [if_pos hw] at h2
        rcases h2 with h2 | h2
        · exact opIn_of_op (hno i o ho) (Oper.wp_mono (fun a w => ih _ a w) h2)
        · exact absurd h2.2 hQ
      · rename_i hw
        rw [if_neg hw] at h2
        exact ⟨fun _ _ => trivial, ih _ _ _ h2⟩
def noDefer (ops : List Oper) : Bool := ops.all fun o => match o.op with
  | .defer _ => false
  | _ => true
theorem noDefer_spec {L : List Oper} (h : noDefer L = true) : ∀ (i : Nat) (o : Oper), L.toArray[i]? = some o → ∀ c, o.op ≠ .defer c := fun i o ho c e => by
  have hm : o ∈ L := by rw [List.getElem?_toArray] at ho; exact List.mem_of_getElem? ho
  have := List.all_eq_true.1 h o hm
  rw [e] at this
  cases this
/-- A region that only reads, within a round. -/
theorem wpIn_round_quiet {id : Nat} {a : Act} {w : World} {L : List Oper} (hm : P.follows .mixedOrders = true) (hB : Region.lexB .any L.toArray = true) (hno : noDefer L = true) (hQ : ¬ LetsOut Q)
    (h : wpQuiet P L.toArray (fun w' => ∃ n, w' = w.drewN n) (fun a' => ∀ w', (∃ n, w' = w.drewN n) → Q .normal a' w') L a) : (Code.region id L.toArray true).wpIn (Fence.wide.inRound l) n P Q a w := by
  simp only [Region.lexB, Bool.and_eq_true] at hB
  refine wpIn_region_any hm (anyIn_of_any (noDefer_spec hno) hQ _ _ _ _ (wpAny_of_quiet (C := fun w' => ∃ n, w' = w.drewN n) (Q := fun a' => ∀ w', (∃ n, w' = w.drewN n) → Q .normal a' w') (fun _ w' hw' h => h w' hw') _ _ _ _ ⟨1, rfl⟩ ?_))
  have := wpAnyQ_lex (C := fun w' => ∃ n, w' = w.drewN n) (md := .any) hB.1 L 0 (Array.replicate L.toArray.size false) a (by simp) (by simpa using hB.2) h
  simpa using this
/-- A region whose orders are gone through with S in hand, within a round. -/
theorem wpIn_round_held {S : World → Prop} {id : Nat} {a : Act} {w : World} {L : List Oper} (hm : P.follows .mixedOrders = true) (hno : noDefer L = true) (hQ : ¬ LetsOut Q) (hS : S w.drew)
    (h : S w.drew → wpAnyH P .any L.toArray Q S L.toArray.size (Array.replicate L.toArray.size false) a w.drew) : (Code.region id L.toArray true).wpIn (Fence.wide.inRound l) n P Q a w :=
  wpIn_region_any hm (anyIn_of_any (noDefer_spec hno) hQ _ _ _ _ (wpAny_of_held _ _ _ _ (h hS)))
end
/-- append of one element that lies anywhere, at such a step, and where the new slice lies. -/
theorem stepApp1At {α : Type} (E : Enc α) {P : Program} {t e : TypeId} (hT : SlTy P t e E.sz) {ops : Array Oper} {o : Oper} {a : Act} {K : Act → World → Prop} {Q : Exit → Act → World → Prop} {E' : Prop} {w : World}
    (hgd : o.guard = none) (s x : Operand) (ho : o.op = .call { callee := .builtin .append, args := #[s, x], argTypes := #[t, t] })
    {B : Nat} {v : Value} {xs : List α} (hown : Own E e B w v xs) {g off : Nat} {y : α} (hy : Sl E w (some ⟨g, off, none⟩) [y]) (hs : a.eval s = v) (hx : a.eval x = .slice (some ⟨g, off, none⟩) 1 1)
    (hB : B ≤ w.heap.size) (hn : xs.length + 1 ≤ big)
    (h : ∀ v' w', Own E e B w' v' (xs ++ [y]) → Below B w w' → (∀ b, b < w.heap.size → v.ownBlock ≠ some b → w'.heap[b]? = w.heap[b]?) → (v'.ownBlock = v.ownBlock ∨ v'.ownBlock = some w.heap.size) → K (a.put o.dst v') w') :
    if Region.wanted o (yielded ops a.tmps) = true then Oper.wp P o a w K Q else E' := by
  have hw : Region.wanted o (yielded ops a.tmps) = true := by simp [Region.wanted, hgd]
  rw [if_pos hw]
  obtain ⟨i, z, hi, hz, hsz, hby, hzc⟩ := hT.info
  unfold big at hn
  obtain ⟨v', w', hr, h2, h3, _, h5⟩ := run_append_own_at (P := P) w B t o.type e i z E.sz i.bytes hT.ht hi hz hsz rfl hzc E.pos v xs.length (xs.flatMap E.cells) hown
    ⟨g, off, none⟩ 1 1 ([y].flatMap E.cells) (flat_length E [y]) (fun j u hu => by
      obtain ⟨k, y', k', rfl, hk, hu⟩ := flat_inv E [y] j u hu
      obtain ⟨b, off', hA, _, hc⟩ := hy (by simp)
      injection hA with hA
      injection hA with e1 e2
      subst e1 e2
      rw [Addr.add_lit]
      have := hc k y' hk k' u hu
      rw [show off + k * E.sz + k' = off + (k * E.sz + k') from by omega] at this
      exact this) (fun u hu => by
      obtain ⟨y', _, hu⟩ := List.mem_flatMap.1 hu
      exact E.one y' u hu) (by unfold maxLen; omega) (by have := Nat.mul_le_mul hn hby; omega) hB
  unfold Oper.wp execOp
  simp only [ho, resolve, invoke, builtin, Sem.run_bind, Sem.run_pure, Result.andThen_ok, List.map_toArray, List.map_cons, List.map_nil, hs, hx, hr]
  exact h v' w' (by unfold Own; simpa using h2) ((Below.refl B w).grown h3 hB fun k hk => (Own.lt hown k hk).1) (fun b hb hv => h3.block b hb (fun e => hv e.symm)) h5
/-- append of one element in a round. -/
theorem wpApp1In {F : Fence} {m : Nat} {α : Type} (E : Enc α) {P : Program} {t e : TypeId} (hT : SlTy P t e E.sz) {ops : Array Oper} {rest : List Oper} {o : Oper} {a : Act} {Q : Exit → Act → World → Prop} {w : World} {arr : Array Value}
    (hgd : o.guard = none) (s x : Operand) (ho : o.op = .call { callee := .builtin .append, args := #[s, x], argTypes := #[t, t] })
    {B : Nat} {v : Value} {xs : List α} (hown : Own E e B w v xs) (y : α) (harr : arr.toList = E.cells y) (hs : a.eval s = v) {G : Nat} (hG : G = w.heap.size) (hx : a.eval x = .slice (some ⟨G, 0, none⟩) 1 1)
    (hB : B ≤ w.heap.size) (hn : xs.length + 1 ≤ big)
    (h : ∀ v' w', Own E e B w' v' (xs ++ [y]) → Below B w w' → (∀ b, b < w.heap.size → v.ownBlock ≠ some b → w'.heap[b]? = w.heap[b]?) → wpListIn F m P ops Q rest (a.put o.dst v') w') :
    wpListIn F m P ops Q (o :: rest) a (w.alloc (.cells arr e)) := by
  subst hG
  obtain ⟨i, z, hi, hz, hsz, hby, hzc⟩ := hT.info
  unfold big at hn
  refine wpListIn_append_own (w.alloc (.cells arr e)) hgd s x t ho B e i z E.sz i.bytes hT.ht hi hz hsz rfl hzc E.pos v xs.length (xs.flatMap E.cells) hs (World.ownsRow.alloc hown _)
    ⟨w.heap.size, 0, none⟩ 1 1 (E.cells y) hx (by rw [E.len]; omega) ?_ (E.one y) (by unfold maxLen; omega) (by have := Nat.mul_le_mul hn hby; omega) (by simp; omega) ?_
  · intro j u hu
    rw [Addr.add_lit, Nat.zero_add, cell_of_row _ w.heap.size j arr e (0, 0) (heap_alloc_new w _), ← hu, ← harr, Array.getElem?_toList]
  · intro v' w' hown' hg _
    have hlt := Own.lt hown
    refine h v' w' (by unfold Own; simpa using hown') ?_ (fun b hb hv => ?_)
    · exact ((Below.refl B w).alloc hB _).grown hg (by simp; omega) fun k hk => (hlt k hk).1
    · rw [hg.block b (by simp; omega) (fun e => hv e.symm)]
      exact Below.heap_alloc w _ b hb
end Go.Proofs.YtlpoiggdjggkiaaGreatDoor
end
