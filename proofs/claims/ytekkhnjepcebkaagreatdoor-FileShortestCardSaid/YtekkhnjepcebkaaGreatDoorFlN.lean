/- Package file: the change of a file into another one. Conditions: files that are right. -/
import Derived.Test.YtekkhnjepcebkaaGreatDoorFlM
import Derived.Test.YtekkhnjepcebkaaGreatDoorFileJoin
import Derived.Test.YtekkhnjepcebkaaGreatDoorStep
import Derived.Test.YtekkhnjepcebkaaGreatDoorFlF
set_option linter.unusedVariables false
set_option linter.unusedSimpArgs false
namespace Go.Proofs.YtekkhnjepcebkaaGreatDoor
namespace Fl
open Go.RowKit Go.ChangeShapes
set_option maxRecDepth 100000
/-- The address of a part of a slice. -/
@[irreducible] def cutA (A : Option Addr) (c i sz : Nat) : Option Addr := if c = i then A else A.map (·.add (i * sz))
theorem run_cut {α : Type} (E : Enc α) {t e : TypeId} (hT : SlTy Tryz.prog t e E.sz) (A : Option Addr) (n c i x : Nat) (hi : i ≤ x) (hx : x ≤ c) :
    ∀ W : World, (Instr.slice t (.slice A n c) (some (iv (i : Int))) (some (iv (x : Int))) none).run Tryz.prog W = .ok (.slice (cutA A c i E.sz) (x - i) (c - i)) W := by
  intro W
  obtain ⟨j, z, hj, hz, hsz, hby, hzc⟩ := hT.info
  have he : Tryz.prog.elem t = e := by simp [Program.elem, hT.ht]
  rw [run_slice_lh W t A n c (by rw [he]; exact hT.ht) .i64 .i64 (i : Int) (x : Int) (by omega) (by omega) (by omega)]
  have hs : (sizeOf (Tryz.prog.elem t)).run Tryz.prog W = .ok E.sz W := by rw [he]; simp [sizeOf, typeInfo, hj, hsz]
  rw [hs]
  simp [sliced, cutA]
theorem run_cutFrom {α : Type} (E : Enc α) {t e : TypeId} (hT : SlTy Tryz.prog t e E.sz) (A : Option Addr) (n c i : Nat) (hi : i ≤ n) :
    ∀ W : World, (Instr.slice t (.slice A n c) (some (iv (i : Int))) none none).run Tryz.prog W = .ok (.slice (cutA A c i E.sz) (n - i) (c - i)) W := by
  intro W
  obtain ⟨j, z, hj, hz, hsz, hby, hzc⟩ := hT.info
  have he : Tryz.prog.elem t = e := by simp [Program.elem, hT.ht]
  rw [run_slice_l W t A n c (by rw [he]; exact hT.ht) .i64 (i : Int) (by omega) (by omega)]
  have hs : (sizeOf (Tryz.prog.elem t)).run Tryz.prog W = .ok E.sz W := by rw [he]; simp [sizeOf, typeInfo, hj, hsz]
  rw [hs]
  simp [sliced, cutA]
theorem Sl.cut {α : Type} {E : Enc α} {w : World} {A : Option Addr} {xs : List α} {c i x : Nat} (h : Sl E w A xs) (hc : xs.length ≤ c) (hi : i ≤ x) (hx : x ≤ xs.length) : Sl E w (cutA A c i E.sz) (File.cut xs i x) := fun hne => by
  have hcl : (File.cut xs i x).length = x - i := by unfold File.cut; rw [List.length_take, List.length_drop]; omega
  have hlt : i < x := by
    rcases Nat.lt_or_ge i x with h1 | h1
    · exact h1
    · exact absurd (List.eq_nil_of_length_eq_zero (by omega)) hne
  obtain ⟨b, off, hA, hb, hcell⟩ := h (by intro e; subst e; simp at hx; omega)
  subst hA
  refine ⟨b, off + i * E.sz, ?_, hb, fun k y hk j u hu => ?_⟩
  · unfold cutA
    rw [if_neg (by omega)]
    simp [Addr.add]
  · unfold File.cut at hk
    rw [List.getElem?_take] at hk
    split at hk
    · rw [List.getElem?_drop] at hk
      have := hcell (i + k) y hk j u hu
      rw [Nat.add_mul] at this
      rw [show off + i * E.sz + k * E.sz + j = off + (i * E.sz + k * E.sz) + j by omega]
      exact this
    · cases hk
theorem Only.past {g B : Nat} {w0 w w' : World} (h : Only g w0 w) (hb : Below B w w') (h1 : w0.heap.size ≤ B) (h2 : g ≤ B) : Only g w0 w' :=
  ⟨h.below.trans (hb.mono h2), fun i hi hg => (hb.block i (by omega)).trans (h.other i hi hg)⟩
theorem strs_app {B B0 : Nat} {w w' : World} {v : Value} {rs : List RawEd} (hown : Own rawE 53 B w v rs) (hsz : w.heap.size ≤ w'.heap.size) (hk : ∀ b, b < w.heap.size → v.ownBlock ≠ some b → w'.heap[b]? = w.heap[b]?) : Strs B0 w w' :=
  ⟨hsz, fun g cs fr _ hc => hk g (Array.getElem?_eq_some_iff.1 hc).1 fun hv => by
    rcases hown.2 with ⟨rfl, _⟩ | ⟨g', cap, cur, rfl, _, hg, _⟩
    · cases hv
    · have e1 : g' = g := by simpa [Value.ownBlock] using hv
      subst e1
      rw [hc] at hg
      injection hg with hg
      injection hg with _ h2 _
      exact absurd h2 (by decide)⟩
theorem Strs.trans {B : Nat} {a b c : World} (h : Strs B a b) (k : Strs B b c) : Strs B a c := ⟨Nat.le_trans h.1 k.1, fun g cs fr hg hc => (k.2 g cs fr hg ((h.2 g cs fr hg hc).trans hc)).trans (h.2 g cs fr hg hc)⟩
theorem Strs.set {B : Nat} {w w' : World} {p : Addr} (h : Strs B w w') (hp : p.block < B) (u : Value) : Strs B w (w'.setCell p u) :=
  ⟨Nat.le_trans h.1 ((Below.refl p.block w').setCell (Nat.le_refl _) u).size, fun g cs fr hg hc => by rw [Below.heap_setCell _ _ _ _ (by omega)]; exact h.2 g cs fr hg hc⟩
/-- What is left of the pairs and the end. -/
def Tail (a b : List ByteArray) (i j : Nat) (l : List (Nat × Nat)) : Prop := l = [] ∨ ∃ r, l = r ++ [(a.length, b.length)] ∧ File.Pairs a b i j r ∧ i ≤ a.length ∧ j ≤ b.length
theorem Tail.cons {a b : List ByteArray} {i j x y : Nat} {l : List (Nat × Nat)} (h : Tail a b i j ((x, y) :: l)) : i ≤ x ∧ j ≤ y ∧ x ≤ a.length ∧ y ≤ b.length ∧ Tail a b (x + 1) (y + 1) l := by
  rcases h with h | ⟨r, h1, h2, h3, h4⟩
  · cases h
  · cases r with
    | nil =>
      simp only [List.nil_append, List.cons.injEq, Prod.mk.injEq] at h1
      obtain ⟨⟨rfl, rfl⟩, rfl⟩ := h1
      exact ⟨h3, h4, Nat.le_refl _, Nat.le_refl _, .inl rfl⟩
    | cons p r =>
      simp only [List.cons_append, List.cons.injEq] at h1
      obtain ⟨rfl, rfl⟩ := h1
      obtain ⟨k1, k2, ⟨k3, k4, _⟩, k6⟩ := h2
      exact ⟨k1, k2, Nat.le_of_lt k3, Nat.le_of_lt k4, .inr ⟨r, rfl, k6, k3, k4⟩⟩
set_option maxHeartbeats 4000000 in
theorem diff_spec (A : Option Addr) (a : List ByteArray) (c : Nat) (A' : Option Addr) (b : List ByteArray) (c' : Nat) (w : World) (ga : Good a) (gb : Good b) (hca : a.length ≤ c) (hcb : b.length ≤ c') (hsa : Sl strE w A a) (hsb : Sl strE w A' b) :
    Calls Tryz.prog 83 #[.slice A a.length c, .slice A' b.length c'] w fun e w' => ∃ v rs, e = .returned v ∧ Own rawE 53 w.heap.size w' v rs ∧ EdsR w.heap.size w' rs (File.diff a b) ∧ Below w.heap.size w w' := by
  have hB0 : Below w.heap.size w (w.alloc (.cells #[iv 0, iv 0] 137)) := (Below.refl _ _).alloc (Nat.le_refl _) _
  have m1 := ga.many
  have m2 := gb.many
  have hAt : Blk (w.alloc (.cells #[iv 0, iv 0] 137)) w.heap.size 137 #[iv 0, iv 0] := Blk.new _ _ _
  go_enter Tryz.func83, Tryz.ntmps83
  go_wp2_with fail
  generalize w.alloc (.cells #[iv 0, iv 0] 137) = w1 at *
  refine (common_spec A a c A' b c' w1 m1 m2 (hsa.below hB0) (hsb.below hB0) (fun s hs => Nat.le_trans (ga.wide s hs) (by decide)) (fun s hs => Nat.le_trans (gb.wide s hs) (by decide))).mono ?_
  rintro e w2 ⟨v, rfl, hv, hb2⟩
  have hll : (File.common a b).length ≤ 24 := by rw [File.common_length]; exact Nat.le_trans (File.lcs_most a b) m1
  have HV := Lib.hid hv
  have hbig : (File.common a b).length + 1 ≤ big := by unfold big; omega
  have hs2 := hb2.size
  clear hv
  go_wp2_with (first
    | (at_builtin; refine wpApp1 pairE tyPairs rfl _ _ rfl HV.out (a.length, b.length) rfl rfl rfl hs2 hbig ?_; intro v3 w3 hown3 hb3 _; obtain ⟨X, cx, rfl, hcx, hmx⟩ := hown3.form; have HO3 := Lib.hid hown3; have HL3 : Hid ((File.common a b ++ [(a.length, b.length)]).length = (File.common a b).length + 1) := Lib.hid (by rw [List.length_append]; rfl); clear hown3))
  have hb13 : Below w.heap.size w w3 := (hB0.next hb2 (by have := hAt.lt; omega)).trans (hb3.mono (by have := hAt.lt; have := hb2.size; omega))
  have hAt3 : Blk w3 w.heap.size 137 #[iv 0, iv 0] := (hAt.under hb2).below hb3 hAt.lt
  obtain ⟨L, hL⟩ : ∃ L, L = File.common a b ++ [(a.length, b.length)] := ⟨_, rfl⟩
  have HXL : Hid (Sl pairE w3 X L) := Lib.hid (by rw [hL]; exact HO3.out.sl)
  have HLl : L.length = (File.common a b).length + 1 := by rw [hL]; exact HL3.out
  have HD : Hid (File.diff a b = File.diffGo a b 0 0 L) := Lib.hid (by rw [hL]; rfl)
  have HTL : Hid (Tail a b 0 0 (L.drop 0)) := Lib.hid (by rw [hL]; exact .inr ⟨_, rfl, File.common_pairs a b, Nat.zero_le _, Nat.zero_le _⟩)
  have hLb : ((File.common a b).length : Int) + 1 = (L.length : Int) := by omega
  have HXf : Hid (∀ b off, X = some ⟨b, off, none⟩ → w.heap.size < b) := Lib.hid fun b off e => by
    have h1 := (HO3.out.lt b (by rw [e]; rfl)).1
    have h2 := hAt.lt
    omega
  simp only [← HLl, hLb]
  have hL24 : L.length ≤ 25 := by omega
  clear hL HO3 HL3 HV HLl hLb hll hbig hcx
  go_loopw [5, 21] (fun u q wr => ∃ (k i j : Nat) (rs : List RawEd) (es : List (File.Edit ByteArray)), k ≤ L.length ∧ q = iv (k : Int) ∧ Hid (es ++ File.diffGo a b i j (L.drop k) = File.diff a b) ∧ Hid (Own rawE 53 w3.heap.size wr u rs) ∧ Hid (EdsR w3.heap.size wr rs es) ∧ Blk wr w.heap.size 137 #[iv (i : Int), iv (j : Int)] ∧ Hid (Only w.heap.size w3 wr) ∧ Hid (Tail a b i j (L.drop k))) (fun _ q _ => L.length - (intOf q).toNat)
  case atStart => exact ⟨0, 0, 0, [], [], Nat.zero_le _, rfl, by rw [HD.out]; rfl, Own.nil, trivial, hAt3, Only.refl _ _, HTL⟩
  case round =>
    obtain ⟨k, i, j, rs, es, hk, rfl, HE, HR, HS, hat, HO, HT⟩ := hrel
    have hwl : w.heap.size < w3.heap.size := hAt3.lt
    by_cases hlt : k < L.length
    · have hX : Sl pairE wr X L := fun hne => by
        obtain ⟨bx, ox, rfl, hbx, hc⟩ := HXL.out hne
        have hnb := HXf.out bx ox rfl
        exact ⟨bx, ox, rfl, Nat.lt_of_lt_of_le hbx HO.out.below.size, fun t u ht j2 u2 hu2 => by rw [← hc t u ht j2 u2 hu2]; exact World.cell?_of_block (HO.out.other bx hbx (by omega))⟩
      obtain ⟨bx, ox, p, rfl, hbx, hp, hc⟩ := Sl.at_ hX hlt
      obtain ⟨x, y⟩ := p
      have hd : L.drop k = (x, y) :: L.drop (k + 1) := by rw [drop_at hp]
      have hTc := HT.out
      rw [hd] at hTc
      obtain ⟨t1, t2, t3, t4, t5⟩ := Tail.cons hTc
      have HT5 := Lib.hid t5
      have HE2 := HE.out
      rw [hd] at HE2
      have HE3 := Lib.hid HE2
      clear hTc t5 HE2 hd HT HE
      have q0 : wr.cell? ⟨bx, ox + k * 2, none⟩ = some (iv (x : Int)) := by simpa [pairE] using hc 0 (iv (x : Int)) rfl
      have q1 : wr.cell? ⟨bx, ox + k * 2 + 1, none⟩ = some (iv (y : Int)) := by simpa [pairE] using hc 1 (iv (y : Int)) rfl
      have hzr := hat.lt
      clear hc hX
      go_upto_region 6 with fail
      have hNb : Below wr.heap.size wr (wr.alloc (.cells #[Value.int .i64 (x : Int), Value.int .i64 (y : Int)] 137)) := (Below.refl _ _).alloc (Nat.le_refl _) _
      have hNx : Blk (wr.alloc (.cells #[Value.int .i64 (x : Int), Value.int .i64 (y : Int)] 137)) wr.heap.size 137 #[iv (x : Int), iv (y : Int)] := Blk.new _ _ _
      generalize wr.alloc (.cells #[Value.int .i64 (x : Int), Value.int .i64 (y : Int)] 137) = wN at *
      have hatN := hat.under hNb
      have n0 := hNx.cell 0
      have n1 := hNx.cell 1
      have a0 := hatN.cell 0
      have a1 := hatN.cell 1
      have hNn := hNx.cell
      have hAn := hatN.cell
      by_cases hxy : x = i ∧ y = j
      · obtain ⟨rfl, rfl⟩ := hxy
        have e1 : IntKind.i64.wrap ((x : Int) + 1) = ((x + 1 : Nat) : Int) := IntWalk.i64_in _ (by omega)
        have e2 : IntKind.i64.wrap ((y : Int) + 1) = ((y + 1 : Nat) : Int) := IntWalk.i64_in _ (by omega)
        have f0 := hatN.frozen 0
        have f1 := hatN.frozen 1
        have hO5 : Hid (Only w.heap.size w3 ((wN.setCell ⟨w.heap.size, 0, none⟩ (iv ((x + 1 : Nat) : Int))).setCell ⟨w.heap.size, 1, none⟩ (iv ((y + 1 : Nat) : Int)))) := Lib.hid ((((HO.out.next hNb (by omega))).trans (Only.set_ _ _ _ _)).trans (Only.set_ _ _ _ _))
        have hR5 : Hid (Own rawE 53 w3.heap.size ((wN.setCell ⟨w.heap.size, 0, none⟩ (iv ((x + 1 : Nat) : Int))).setCell ⟨w.heap.size, 1, none⟩ (iv ((y + 1 : Nat) : Int))) u5 rs) := Lib.hid (((HR.out.below hNb).setCell hwl _).setCell hwl _)
        have hS5 : Hid (EdsR w3.heap.size ((wN.setCell ⟨w.heap.size, 0, none⟩ (iv ((x + 1 : Nat) : Int))).setCell ⟨w.heap.size, 1, none⟩ (iv ((y + 1 : Nat) : Int))) rs es) := Lib.hid (EdsR.keep (((Strs.below hNb).set hwl _).set hwl _) HS.out)
        have hA5 : Blk ((wN.setCell ⟨w.heap.size, 0, none⟩ (iv ((x + 1 : Nat) : Int))).setCell ⟨w.heap.size, 1, none⟩ (iv ((y + 1 : Nat) : Int))) w.heap.size 137 #[iv ((x + 1 : Nat) : Int), iv ((y + 1 : Nat) : Int)] := (hatN.set_ 0 _).set_ 1 _
        have hE5 : Hid (es ++ File.diffGo a b (x + 1) (y + 1) (L.drop (k + 1)) = File.diff a b) := Lib.hid (by have := HE3.out; rw [File.diffGo, if_pos ⟨rfl, rfl⟩, List.nil_append] at this; exact this)
        clear HE3 HO HR HS
        go_wp2_with fail
        go_roundw
        case rel => exact ⟨k + 1, x + 1, y + 1, rs, es, by omega, by go_num, hE5, hR5, hS5, hA5, hO5, HT5⟩
        case measure => simp [intOf]; omega
      · by_cases hxi : x = i
        · obtain rfl := hxi
          have hyj : ¬ (y : Int) = (j : Int) := fun e => hxy ⟨rfl, by omega⟩
          have HZ1 : Hid (w3.heap.size ≤ wN.heap.size) := Lib.hid (Nat.le_trans HO.out.below.size hNb.size)
          have HC1 : Hid (∀ W, Below w3.heap.size wN W → Calls Tryz.prog 70 #[.slice (cutA A c x 1) (x - x) (c - x)] W fun e w' => ∃ v, e = .returned v ∧ Own strE 9 W.heap.size w' v (File.cut a x x) ∧ Below W.heap.size W w') := Lib.hid fun W hW => by
            have hbN : Below w.heap.size w W := ((hb13.trans HO.out.below).trans (hNb.mono (by omega))).trans (hW.mono (by omega))
            have h1 : (File.cut a x x).length = x - x := File.cut_length t3 t1
            have := cloneS (cutA A c x 1) (File.cut a x x) (c - x) W (by rw [h1]; unfold big; omega) (Sl.cut (hsa.below hbN) hca t1 t3)
            rw [h1] at this
            exact this
          have HC2 : Hid (∀ W, Below w3.heap.size wN W → Calls Tryz.prog 70 #[.slice (cutA A' c' j 1) (y - j) (c' - j)] W fun e w' => ∃ v, e = .returned v ∧ Own strE 9 W.heap.size w' v (File.cut b j y) ∧ Below W.heap.size W w') := Lib.hid fun W hW => by
            have hbN : Below w.heap.size w W := ((hb13.trans HO.out.below).trans (hNb.mono (by omega))).trans (hW.mono (by omega))
            have h1 : (File.cut b j y).length = y - j := File.cut_length t4 t2
            have := cloneS (cutA A' c' j 1) (File.cut b j y) (c' - j) W (by rw [h1]; unfold big; omega) (Sl.cut (hsb.below hbN) hcb t2 t4)
            rw [h1] at this
            exact this
          have R1 : ∀ W : World, (Instr.slice 22 (.slice A a.length c) (some (iv (x : Int))) (some (iv (x : Int))) none).run Tryz.prog W = .ok (.slice (cutA A c x 1) (x - x) (c - x)) W := run_cut strE tyStrs A a.length c x x t1 (Nat.le_trans t3 hca)
          have R2 : ∀ W : World, (Instr.slice 22 (.slice A' b.length c') (some (iv (j : Int))) (some (iv (y : Int))) none).run Tryz.prog W = .ok (.slice (cutA A' c' j 1) (y - j) (c' - j)) W := run_cut strE tyStrs A' b.length c' j y t2 (Nat.le_trans t4 hcb)
          generalize cutA A c x 1 = X1 at R1 HC1
          generalize x - x = m3 at R1 HC1
          generalize c - x = n3 at R1 HC1
          generalize cutA A' c' j 1 = X2 at R2 HC2
          generalize y - j = m4 at R2 HC2
          generalize c' - j = n4 at R2 HC2
          have HS0 : Hid (∀ z : World, Below wN.heap.size wN z → Below w3.heap.size wN z ∧ (z.cell? ⟨w.heap.size, 0, none⟩ = some (iv (x : Int)) ∧ z.cell? ⟨w.heap.size, 1, none⟩ = some (iv (j : Int)) ∧ z.cell? ⟨wr.heap.size, 0, none⟩ = some (iv (x : Int)) ∧ z.cell? ⟨wr.heap.size, 1, none⟩ = some (iv (y : Int)))) := Lib.hid fun z h => ⟨h.mono HZ1.out, (hatN.under h).cell 0, (hatN.under h).cell 1, (hNx.under h).cell 0, (hNx.under h).cell 1⟩
          have HK0 := Lib.hid (HS0.out wN.drew (Below.refl _ _).drew)
          have HRL : Hid (rs.length + 1 ≤ big) := Lib.hid (by
            have h1 := EdsR.length HS.out
            have h2 := File.diff_len a b
            have h3 := congrArg List.length HE3.out
            rw [List.length_append] at h3
            unfold big
            omega)
          go_upto_region 7 with fail
          go_region_held3 (fun z => Below w3.heap.size wN z ∧ (z.cell? ⟨w.heap.size, 0, none⟩ = some (iv (x : Int)) ∧ z.cell? ⟨w.heap.size, 1, none⟩ = some (iv (j : Int)) ∧ z.cell? ⟨wr.heap.size, 0, none⟩ = some (iv (x : Int)) ∧ z.cell? ⟨wr.heap.size, 1, none⟩ = some (iv (y : Int))))
            (first | with_reducible assumption | exact HK0.out | exact HS3.out | exact HS0.out _ (HX2.out.alloc HX2.out.size _) | exact HS0.out _ HX2.out | exact HS0.out _ HX1.out)
            (first
              | (go_at_call 70; refine (HC1.out _ (Below.refl _ wN).drew).mono ?_; rintro e x1 ⟨v1, rfl, ho1, hbx1⟩; have HX1 := Lib.hid ((Below.refl wN.heap.size wN).drew.next hbx1 (Nat.le_refl _)); obtain ⟨A1, c1, rfl, _, _⟩ := ho1.form; have HW1 := Lib.hid ho1; clear ho1)
              | (go_at_call 70; refine (HC2.out _ (HX1.out.mono HZ1.out)).mono ?_; rintro e x2 ⟨v2, rfl, ho2, hbx2⟩; have HX2 := Lib.hid (HX1.out.next hbx2 (Nat.le_refl _)); obtain ⟨A2, c2, rfl, _, _⟩ := ho2.form; have HW2 := Lib.hid ho2; have HW1b := Lib.hid (Own.below HW1.out hbx2); have HO10 := Lib.hid (Own.below (Own.below HR.out hNb) HX2.out); have HP2 := Lib.hid (hNx.under HX2.out); have HA2 := Lib.hid (hatN.under HX2.out); have HZ2 := Lib.hid (Nat.le_trans HZ1.out HX2.out.size); clear ho2)
              | (refine stepApp1 rawE tyEdits (by rfl) _ _ (by rfl) (w := x2) HO10.out (⟨(x : Int), A1, (File.cut a x x).length, c1, A2, (File.cut b j y).length, c2⟩ : RawEd) (by rfl) (by rfl) rfl (by rfl) rfl HZ2.out HRL.out ?_; intro v3 x3 ho3 hbx3 hk3; have HV3 := Lib.hid ho3; have HP3 : Hid (Blk x3 wr.heap.size 137 #[iv (x : Int), iv (y : Int)]) := Lib.hid ((hk3 _ HP2.out.lt (Own.apartBlk HO10.out HP2.out (by decide))).trans HP2.out); have HA3 := Lib.hid (HA2.out.below hbx3 hwl); have HX3 := Lib.hid ((HX2.out.mono HZ1.out).trans hbx3); have HS3 : Hid (Below w3.heap.size wN x3 ∧ (x3.cell? ⟨w.heap.size, 0, none⟩ = some (iv (x : Int)) ∧ x3.cell? ⟨w.heap.size, 1, none⟩ = some (iv (j : Int)) ∧ x3.cell? ⟨wr.heap.size, 0, none⟩ = some (iv (x : Int)) ∧ x3.cell? ⟨wr.heap.size, 1, none⟩ = some (iv (y : Int)))) := Lib.hid ⟨HX3.out, HA3.out.cell 0, HA3.out.cell 1, HP3.out.cell 0, HP3.out.cell 1⟩; have HST : Hid (Strs w3.heap.size x2 x3) := Lib.hid (strs_app HO10.out hbx3.size hk3); clear ho3 hbx3 hk3))
          all_goals
            have HEd : Hid (EdR w3.heap.size x3 ⟨(x : Int), A1, (File.cut a x x).length, c1, A2, (File.cut b j y).length, c2⟩ ⟨(x : Int), File.cut a x x, File.cut b j y⟩) := Lib.hid ⟨rfl, rfl, rfl, HST.out.own (HW1b.out.base HZ1.out), HST.out.own (HW2.out.base (Nat.le_trans HZ1.out HX1.out.size))⟩
            have HEs := Lib.hid (EdsR.snoc HEd.out (EdsR.keep (((Strs.below hNb).trans (Strs.below HX2.out)).trans HST.out) HS.out))
            have HOx : Hid (Only w.heap.size w3 x3) := Lib.hid (HO.out.past ((hNb.mono HO.out.below.size).trans HX3.out) (Nat.le_refl _) (Nat.le_of_lt hwl))
            have e1 : IntKind.i64.wrap ((x : Int) + 1) = ((x + 1 : Nat) : Int) := IntWalk.i64_in _ (by omega)
            have e2 : IntKind.i64.wrap ((y : Int) + 1) = ((y + 1 : Nat) : Int) := IntWalk.i64_in _ (by omega)
            have p0 := HP3.out.cell 0
            have p1 := HP3.out.cell 1
            have g0 := HA3.out.cell 0
            have g1 := HA3.out.cell 1
            have gl := HA3.out.lt
            have f0 := HA3.out.frozen 0
            have f1 := HA3.out.frozen 1
            have hO5 : Hid (Only w.heap.size w3 ((x3.setCell ⟨w.heap.size, 0, none⟩ (iv ((x + 1 : Nat) : Int))).setCell ⟨w.heap.size, 1, none⟩ (iv ((y + 1 : Nat) : Int)))) := Lib.hid ((HOx.out.trans (Only.set_ _ _ _ _)).trans (Only.set_ _ _ _ _))
            have hR5 := Lib.hid ((HV3.out.setCell (p := ⟨w.heap.size, 0, none⟩) hwl (iv ((x + 1 : Nat) : Int))).setCell (p := ⟨w.heap.size, 1, none⟩) hwl (iv ((y + 1 : Nat) : Int)))
            have hS5 : Hid (EdsR w3.heap.size ((x3.setCell ⟨w.heap.size, 0, none⟩ (iv ((x + 1 : Nat) : Int))).setCell ⟨w.heap.size, 1, none⟩ (iv ((y + 1 : Nat) : Int))) _ _) := Lib.hid (EdsR.keep (((Strs.below (Below.refl _ x3)).set hwl _).set hwl _) HEs.out)
            have hA5 : Blk ((x3.setCell ⟨w.heap.size, 0, none⟩ (iv ((x + 1 : Nat) : Int))).setCell ⟨w.heap.size, 1, none⟩ (iv ((y + 1 : Nat) : Int))) w.heap.size 137 #[iv ((x + 1 : Nat) : Int), iv ((y + 1 : Nat) : Int)] := (HA3.out.set_ 0 _).set_ 1 _
            have hE5 : Hid ((es ++ [(⟨(x : Int), File.cut a x x, File.cut b j y⟩ : File.Edit ByteArray)]) ++ File.diffGo a b (x + 1) (y + 1) (L.drop (k + 1)) = File.diff a b) := Lib.hid (by have := HE3.out; rw [File.diffGo, if_neg (by simpa using hxy), ← List.append_assoc] at this; exact this)
            clear HE3 HO HR HS HEs HEd HOx hxy
            go_wp2_with fail
            go_roundw
            case rel => exact ⟨k + 1, x + 1, y + 1, _, _, by omega, by go_num, hE5, hR5, hS5, hA5, hO5, HT5⟩
            case measure => simp [intOf]; omega
        · have hxi2 : ¬ (x : Int) = (i : Int) := fun e => hxi (by omega)
          have HZ1 : Hid (w3.heap.size ≤ wN.heap.size) := Lib.hid (Nat.le_trans HO.out.below.size hNb.size)
          have HC1 : Hid (∀ W, Below w3.heap.size wN W → Calls Tryz.prog 70 #[.slice (cutA A c i 1) (x - i) (c - i)] W fun e w' => ∃ v, e = .returned v ∧ Own strE 9 W.heap.size w' v (File.cut a i x) ∧ Below W.heap.size W w') := Lib.hid fun W hW => by
            have hbN : Below w.heap.size w W := ((hb13.trans HO.out.below).trans (hNb.mono (by omega))).trans (hW.mono (by omega))
            have h1 : (File.cut a i x).length = x - i := File.cut_length t3 t1
            have := cloneS (cutA A c i 1) (File.cut a i x) (c - i) W (by rw [h1]; unfold big; omega) (Sl.cut (hsa.below hbN) hca t1 t3)
            rw [h1] at this
            exact this
          have HC2 : Hid (∀ W, Below w3.heap.size wN W → Calls Tryz.prog 70 #[.slice (cutA A' c' j 1) (y - j) (c' - j)] W fun e w' => ∃ v, e = .returned v ∧ Own strE 9 W.heap.size w' v (File.cut b j y) ∧ Below W.heap.size W w') := Lib.hid fun W hW => by
            have hbN : Below w.heap.size w W := ((hb13.trans HO.out.below).trans (hNb.mono (by omega))).trans (hW.mono (by omega))
            have h1 : (File.cut b j y).length = y - j := File.cut_length t4 t2
            have := cloneS (cutA A' c' j 1) (File.cut b j y) (c' - j) W (by rw [h1]; unfold big; omega) (Sl.cut (hsb.below hbN) hcb t2 t4)
            rw [h1] at this
            exact this
          have R1 : ∀ W : World, (Instr.slice 22 (.slice A a.length c) (some (iv (i : Int))) (some (iv (x : Int))) none).run Tryz.prog W = .ok (.slice (cutA A c i 1) (x - i) (c - i)) W := run_cut strE tyStrs A a.length c i x t1 (Nat.le_trans t3 hca)
          have R2 : ∀ W : World, (Instr.slice 22 (.slice A' b.length c') (some (iv (j : Int))) (some (iv (y : Int))) none).run Tryz.prog W = .ok (.slice (cutA A' c' j 1) (y - j) (c' - j)) W := run_cut strE tyStrs A' b.length c' j y t2 (Nat.le_trans t4 hcb)
          generalize cutA A c i 1 = X1 at R1 HC1
          generalize x - i = m3 at R1 HC1
          generalize c - i = n3 at R1 HC1
          generalize cutA A' c' j 1 = X2 at R2 HC2
          generalize y - j = m4 at R2 HC2
          generalize c' - j = n4 at R2 HC2
          have HS0 : Hid (∀ z : World, Below wN.heap.size wN z → Below w3.heap.size wN z ∧ (z.cell? ⟨w.heap.size, 0, none⟩ = some (iv (i : Int)) ∧ z.cell? ⟨w.heap.size, 1, none⟩ = some (iv (j : Int)) ∧ z.cell? ⟨wr.heap.size, 0, none⟩ = some (iv (x : Int)) ∧ z.cell? ⟨wr.heap.size, 1, none⟩ = some (iv (y : Int)))) := Lib.hid fun z h => ⟨h.mono HZ1.out, (hatN.under h).cell 0, (hatN.under h).cell 1, (hNx.under h).cell 0, (hNx.under h).cell 1⟩
          have HK0 := Lib.hid (HS0.out wN.drew (Below.refl _ _).drew)
          have HRL : Hid (rs.length + 1 ≤ big) := Lib.hid (by
            have h1 := EdsR.length HS.out
            have h2 := File.diff_len a b
            have h3 := congrArg List.length HE3.out
            rw [List.length_append] at h3
            unfold big
            omega)
          go_upto_region 7 with fail
          go_region_held3 (fun z => Below w3.heap.size wN z ∧ (z.cell? ⟨w.heap.size, 0, none⟩ = some (iv (i : Int)) ∧ z.cell? ⟨w.heap.size, 1, none⟩ = some (iv (j : Int)) ∧ z.cell? ⟨wr.heap.size, 0, none⟩ = some (iv (x : Int)) ∧ z.cell? ⟨wr.heap.size, 1, none⟩ = some (iv (y : Int))))
            (first | with_reducible assumption | exact HK0.out | exact HS3.out | exact HS0.out _ (HX2.out.alloc HX2.out.size _) | exact HS0.out _ HX2.out | exact HS0.out _ HX1.out)
            (first
              | (go_at_call 70; refine (HC1.out _ (Below.refl _ wN).drew).mono ?_; rintro e x1 ⟨v1, rfl, ho1, hbx1⟩; have HX1 := Lib.hid ((Below.refl wN.heap.size wN).drew.next hbx1 (Nat.le_refl _)); obtain ⟨A1, c1, rfl, _, _⟩ := ho1.form; have HW1 := Lib.hid ho1; clear ho1)
              | (go_at_call 70; refine (HC2.out _ (HX1.out.mono HZ1.out)).mono ?_; rintro e x2 ⟨v2, rfl, ho2, hbx2⟩; have HX2 := Lib.hid (HX1.out.next hbx2 (Nat.le_refl _)); obtain ⟨A2, c2, rfl, _, _⟩ := ho2.form; have HW2 := Lib.hid ho2; have HW1b := Lib.hid (Own.below HW1.out hbx2); have HO10 := Lib.hid (Own.below (Own.below HR.out hNb) HX2.out); have HP2 := Lib.hid (hNx.under HX2.out); have HA2 := Lib.hid (hatN.under HX2.out); have HZ2 := Lib.hid (Nat.le_trans HZ1.out HX2.out.size); clear ho2)
              | (refine stepApp1 rawE tyEdits (by rfl) _ _ (by rfl) (w := x2) HO10.out (⟨(i : Int), A1, (File.cut a i x).length, c1, A2, (File.cut b j y).length, c2⟩ : RawEd) (by rfl) (by rfl) rfl (by rfl) rfl HZ2.out HRL.out ?_; intro v3 x3 ho3 hbx3 hk3; have HV3 := Lib.hid ho3; have HP3 : Hid (Blk x3 wr.heap.size 137 #[iv (x : Int), iv (y : Int)]) := Lib.hid ((hk3 _ HP2.out.lt (Own.apartBlk HO10.out HP2.out (by decide))).trans HP2.out); have HA3 := Lib.hid (HA2.out.below hbx3 hwl); have HX3 := Lib.hid ((HX2.out.mono HZ1.out).trans hbx3); have HS3 : Hid (Below w3.heap.size wN x3 ∧ (x3.cell? ⟨w.heap.size, 0, none⟩ = some (iv (i : Int)) ∧ x3.cell? ⟨w.heap.size, 1, none⟩ = some (iv (j : Int)) ∧ x3.cell? ⟨wr.heap.size, 0, none⟩ = some (iv (x : Int)) ∧ x3.cell? ⟨wr.heap.size, 1, none⟩ = some (iv (y : Int)))) := Lib.hid ⟨HX3.out, HA3.out.cell 0, HA3.out.cell 1, HP3.out.cell 0, HP3.out.cell 1⟩; have HST : Hid (Strs w3.heap.size x2 x3) := Lib.hid (strs_app HO10.out hbx3.size hk3); clear ho3 hbx3 hk3))
          all_goals
            have HEd : Hid (EdR w3.heap.size x3 ⟨(i : Int), A1, (File.cut a i x).length, c1, A2, (File.cut b j y).length, c2⟩ ⟨(i : Int), File.cut a i x, File.cut b j y⟩) := Lib.hid ⟨rfl, rfl, rfl, HST.out.own (HW1b.out.base HZ1.out), HST.out.own (HW2.out.base (Nat.le_trans HZ1.out HX1.out.size))⟩
            have HEs := Lib.hid (EdsR.snoc HEd.out (EdsR.keep (((Strs.below hNb).trans (Strs.below HX2.out)).trans HST.out) HS.out))
            have HOx : Hid (Only w.heap.size w3 x3) := Lib.hid (HO.out.past ((hNb.mono HO.out.below.size).trans HX3.out) (Nat.le_refl _) (Nat.le_of_lt hwl))
            have e1 : IntKind.i64.wrap ((x : Int) + 1) = ((x + 1 : Nat) : Int) := IntWalk.i64_in _ (by omega)
            have e2 : IntKind.i64.wrap ((y : Int) + 1) = ((y + 1 : Nat) : Int) := IntWalk.i64_in _ (by omega)
            have p0 := HP3.out.cell 0
            have p1 := HP3.out.cell 1
            have g0 := HA3.out.cell 0
            have g1 := HA3.out.cell 1
            have gl := HA3.out.lt
            have f0 := HA3.out.frozen 0
            have f1 := HA3.out.frozen 1
            have hO5 : Hid (Only w.heap.size w3 ((x3.setCell ⟨w.heap.size, 0, none⟩ (iv ((x + 1 : Nat) : Int))).setCell ⟨w.heap.size, 1, none⟩ (iv ((y + 1 : Nat) : Int)))) := Lib.hid ((HOx.out.trans (Only.set_ _ _ _ _)).trans (Only.set_ _ _ _ _))
            have hR5 := Lib.hid ((HV3.out.setCell (p := ⟨w.heap.size, 0, none⟩) hwl (iv ((x + 1 : Nat) : Int))).setCell (p := ⟨w.heap.size, 1, none⟩) hwl (iv ((y + 1 : Nat) : Int)))
            have hS5 : Hid (EdsR w3.heap.size ((x3.setCell ⟨w.heap.size, 0, none⟩ (iv ((x + 1 : Nat) : Int))).setCell ⟨w.heap.size, 1, none⟩ (iv ((y + 1 : Nat) : Int))) _ _) := Lib.hid (EdsR.keep (((Strs.below (Below.refl _ x3)).set hwl _).set hwl _) HEs.out)
            have hA5 : Blk ((x3.setCell ⟨w.heap.size, 0, none⟩ (iv ((x + 1 : Nat) : Int))).setCell ⟨w.heap.size, 1, none⟩ (iv ((y + 1 : Nat) : Int))) w.heap.size 137 #[iv ((x + 1 : Nat) : Int), iv ((y + 1 : Nat) : Int)] := (HA3.out.set_ 0 _).set_ 1 _
            have hE5 : Hid ((es ++ [(⟨(i : Int), File.cut a i x, File.cut b j y⟩ : File.Edit ByteArray)]) ++ File.diffGo a b (x + 1) (y + 1) (L.drop (k + 1)) = File.diff a b) := Lib.hid (by have := HE3.out; rw [File.diffGo, if_neg (by simpa using hxy), ← List.append_assoc] at this; exact this)
            clear HE3 HO HR HS HEs HEd HOx hxy
            go_wp2_with fail
            go_roundw
            case rel => exact ⟨k + 1, x + 1, y + 1, _, _, by omega, by go_num, hE5, hR5, hS5, hA5, hO5, HT5⟩
            case measure => simp [intOf]; omega
    · have hke : k = L.length := by omega
      have hE : es = File.diff a b := by
        have := HE.out
        rw [hke, List.drop_length] at this
        simpa [File.diffGo] using this
      have hbF : Below w.heap.size w wr := hb13.trans HO.out.below
      have hOw := Lib.hid (Own.base HR.out (Nat.le_of_lt hwl))
      have hSS := Lib.hid HS.out
      have HE2 := Lib.hid hE
      clear hE HE HR HS HO hke
      go_wp2_with fail
      go_ret
      refine ⟨_, rs, rfl, hOw.out, ?_, hbF⟩
      rw [← HE2.out]
      exact EdsR.base (Nat.le_of_lt hwl) hSS.out
end Fl
end Go.Proofs.YtekkhnjepcebkaaGreatDoor
