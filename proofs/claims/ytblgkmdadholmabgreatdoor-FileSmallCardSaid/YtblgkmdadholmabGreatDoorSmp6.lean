/- What the proof of the claim's theorem uses, part 6. The conditions stand in each statement. -/
import Derived.Test.YtblgkmdadholmabGreatDoorSmp5
set_option linter.unusedVariables false
set_option linter.unusedSimpArgs false
set_option maxRecDepth 100000
namespace Go.Proofs.YtblgkmdadholmabGreatDoor
section
namespace Fl
open Go.RowKit Go.Shelf
theorem sl_set1 {α : Type} {E : Enc α} (hE : E.sz = 1) {w w' : World} {A : Option Addr} {xs : List α} (h : Sl E w A xs) (g n : Nat) (y : α) (hz : w.heap.size ≤ w'.heap.size)
  (hk : ∀ b o, ¬ (b = g ∧ o = n) → w'.cell? ⟨b, o, none⟩ = w.cell? ⟨b, o, none⟩) (hq : ∀ u, (E.cells y)[0]? = some u → w'.cell? ⟨g, n, none⟩ = some u) : ∃ xs', xs'.length = xs.length ∧ Sl E w' A xs' := by
 by_cases hx : xs = []
 ·exact ⟨[], by rw [hx], Sl.nil⟩
 ·obtain ⟨b, off, rfl, hb, hc⟩ := h hx;refine ⟨xs.mapIdx fun i x => if b = g ∧ off + i = n then y else x, by simp, fun _ => ⟨b, off, rfl, Nat.lt_of_lt_of_le hb hz, fun i x hi j u hj => ?_⟩⟩;rw [List.getElem?_mapIdx] at hi;obtain ⟨x0, hx0, rfl⟩ := Option.map_eq_some_iff.1 hi
  have hj0 : j = 0 := by
   have h1 := (List.getElem?_eq_some_iff.1 hj).1;rw [E.len, hE] at h1;omega
  subst hj0;rw [hE, Nat.mul_one, Nat.add_zero]
  by_cases he : b = g ∧ off + i = n
  ·rw [if_pos he] at hj;obtain ⟨rfl, rfl⟩ := he;exact hq u hj
  ·rw [if_neg he] at hj;rw [hk b (off + i) he];have := hc i x0 hx0 0 u hj
   rwa [hE, Nat.mul_one, Nat.add_zero] at this
theorem sl_other {α : Type} {E : Enc α} {w w' : World} {A : Option Addr} {xs : List α} (h : Sl E w A xs) (g n : Nat) (hz : w.heap.size ≤ w'.heap.size)
  (hk : ∀ b o, ¬ (b = g ∧ o = n) → w'.cell? ⟨b, o, none⟩ = w.cell? ⟨b, o, none⟩) (hn : ∀ x ∈ xs, ∀ u ∈ E.cells x, w.cell? ⟨g, n, none⟩ ≠ some u) : Sl E w' A xs := fun hx => by
 obtain ⟨b, off, rfl, hb, hc⟩ := h hx;refine ⟨b, off, rfl, Nat.lt_of_lt_of_le hb hz, fun i x hi j u hj => ?_⟩;have h1 := hc i x hi j u hj;rw [hk b _ (fun ⟨e1, e2⟩ => hn x (mem_at hi) u (mem_at hj) (by rw [← e1, ← e2]; exact h1))];exact h1
theorem set_far (w : World) (g n : Nat) (v : Value) : ∀ b o, ¬ (b = g ∧ o = n) → (w.setCell ⟨g, n, none⟩ v).cell? ⟨b, o, none⟩ = w.cell? ⟨b, o, none⟩ := fun b o h =>
 World.cell?_setCell_other _ _ _ _ (fun e => by injection e with e1 e2; exact h ⟨e1.symm, e2.symm⟩)
theorem set_size (w : World) (g n : Nat) (v : Value) : (w.setCell ⟨g, n, none⟩ v).heap.size = w.heap.size := by simp [World.setCell]
structure KeepI (w w' : World) : Prop where
 size : w.heap.size ≤ w'.heap.size
 ints : ∀ A xs, Sl intE w A xs → ∃ xs', xs'.length = xs.length ∧ Sl intE w' A xs'
 strs : ∀ A xs, Sl strE w A xs → Sl strE w' A xs
 rows : ∀ A (rs : List (Rw Int)), Sl (rwE Int) w A rs → Sl (rwE Int) w' A rs
theorem KeepI.set {w : World} {g n : Nat} {z z' : Int} (h : w.cell? ⟨g, n, none⟩ = some (iv z)) : KeepI w (w.setCell ⟨g, n, none⟩ (iv z')) := by
 have hz : w.heap.size ≤ (w.setCell ⟨g, n, none⟩ (iv z')).heap.size := by rw [set_size]; exact Nat.le_refl _
 refine ⟨hz, fun A xs hs => ?_, fun A xs hs => ?_, fun A rs hs => ?_⟩
 ·refine sl_set1 rfl hs g n z' hz (set_far w g n _) fun u hu => ?_
  simp [intE] at hu;subst hu;exact World.cell?_setCell_same _ _ _ h
 ·refine sl_other hs g n hz (set_far w g n _) fun x _ u hu => ?_
  simp [strE] at hu;subst hu;rw [h];simp
 ·refine sl_other hs g n hz (set_far w g n _) fun x _ u hu => ?_
  simp [rwE, rwv] at hu;subst hu;rw [h];simp
theorem KeepI.rowsI {w w' : World} (h : KeepI w w') {rs : List (Rw Int)} (hr : RowsR intE w rs) : ∀ A, Sl (rwE Int) w A rs → ∃ rs' : List (Rw Int), rs'.length = rs.length ∧ Sl (rwE Int) w' A rs' ∧ RowsR intE w' rs' := by
 have key : ∃ rs' : List (Rw Int), rs'.map (fun r => (r.A, r.c, r.xs.length)) = rs.map (fun r => (r.A, r.c, r.xs.length)) ∧ RowsR intE w' rs' := by
  induction rs with
  | nil => exact ⟨[], rfl, fun _ h => by cases h⟩
  | cons r rs ih =>
   obtain ⟨rs', h1, h2⟩ := ih fun x hx => hr x (List.mem_cons_of_mem _ hx)
   obtain ⟨h3, h4⟩ := hr r List.mem_cons_self;obtain ⟨xs', h5, h6⟩ := h.ints _ _ h3;refine ⟨⟨r.A, r.c, xs'⟩ :: rs', by simp [h1, h5], fun x hx => ?_⟩
   rcases List.mem_cons.1 hx with rfl | hx
   ·exact ⟨h6, by show xs'.length ≤ r.c; omega⟩
   ·exact h2 x hx
 obtain ⟨rs', h1, h2⟩ := key;intro A hA;refine ⟨rs', by have := congrArg List.length h1; simpa using this, ?_, h2⟩;have h3 := h.rows A rs hA;intro hne;obtain ⟨b, off, rfl, hb, hc⟩ := h3 (fun e => by rw [e] at h1; exact hne (List.map_eq_nil_iff.1 h1));refine ⟨b, off, rfl, hb, fun i x hi j u hj => ?_⟩;have h4 : (rs.map (fun r => (r.A, r.c, r.xs.length)))[i]? = some (x.A, x.c, x.xs.length) := by rw [← h1, List.getElem?_map, hi]; rfl
 rw [List.getElem?_map] at h4;obtain ⟨r, hr1, hr2⟩ := Option.map_eq_some_iff.1 h4;injection hr2 with e1 e2;injection e2 with e2 e3;refine hc i r hr1 j u ?_;rw [← hj];simp [rwE, rwv, e1, e2, e3]
structure KeepS (B : Nat) (w w' : World) : Prop where
 below : Below B w w'
 strs : ∀ A xs, Sl strE w A xs → ∃ xs', xs'.length = xs.length ∧ Sl strE w' A xs'
 other : ∀ (b : Nat) (cs : Array Value) (t : TypeId), t ≠ 9 → Blk w b t cs → Blk w' b t cs
 own : ∀ A n c xs, Own strE 9 B w (.slice A n c) xs → ∃ xs', xs'.length = xs.length ∧ Own strE 9 B w' (.slice A n c) xs'
theorem KeepS.of_below {B : Nat} {w w' : World} (h : Below w.heap.size w w') (hB : B ≤ w.heap.size) : KeepS B w w' :=
 ⟨h.mono hB, fun A xs hs => ⟨xs, rfl, hs.below h⟩, fun b cs t _ hb => hb.under h, fun A n c xs hs => ⟨xs, rfl, hs.below h⟩⟩
theorem own_past {B : Nat} {w : World} {g n k c : Nat} {xs : List ByteArray} (h : Own strE 9 B w (.slice (some ⟨g, 0, none⟩) k c) xs) (hn : xs.length ≤ n) (v : Value) : Own strE 9 B (w.setCell ⟨g, n, none⟩ v) (.slice (some ⟨g, 0, none⟩) k c) xs := by
 refine ⟨h.1, ?_⟩
 rcases h.2 with ⟨hv, _⟩ | ⟨g', cap, cur, hv, hb, hg, hc, hm, hs, ht⟩
 ·cases hv
 ·injection hv with h1 h2 h3;injection h1 with h1;injection h1 with h1;subst h1 h3;refine .inr ⟨g, c, cur.setIfInBounds n v, by rw [h2], hb, ?_, hc, hm, by rw [Array.size_setIfInBounds]; exact hs, ?_⟩
  ·have hB : Blk w g 9 cur := hg;exact hB.set_ n v
  ·rw [Array.toList_setIfInBounds, List.take_set_of_le (by show xs.length * 1 ≤ n; omega)];exact ht
theorem KeepS.set {B : Nat} {w : World} {g n : Nat} {cs : Array Value} {s : ByteArray} (hg : Blk w g 9 cs) (hn : n < cs.size) (hB : B ≤ g) : KeepS B w (w.setCell ⟨g, n, none⟩ (.string s)) := by
 have hc : ∃ u, w.cell? ⟨g, n, none⟩ = some u := ⟨cs[n], by rw [hg.cell n, Array.getElem?_eq_getElem hn]⟩;obtain ⟨u0, hu0⟩ := hc;refine ⟨(Below.refl B w).setCell (p := ⟨g, n, none⟩) hB _, fun A xs hs => ?_, fun b cs' t ht hb => ?_, fun A k c xs hs => ?_⟩
 ·refine sl_set1 rfl hs g n s (by rw [set_size]; exact Nat.le_refl _) (set_far w g n _) fun u hu => ?_
  simp [strE] at hu;subst hu;exact World.cell?_setCell_same _ _ _ hu0
 ·have hne : b ≠ g := fun e => by
   subst e;unfold Blk at hb hg;rw [hg] at hb;injection hb with hb;injection hb with _ e2 _;exact ht e2.symm
  unfold Blk at hb ⊢;rw [← hb];exact Below.heap_setCell w ⟨g, n, none⟩ _ b hne
 ·by_cases hA : A = some ⟨g, 0, none⟩
  ·subst hA
   by_cases hnx : n < xs.length
   ·have h1 := Own.setAt (k := n) (j := 0) (x := xs[n]) (y := s) (u := .string s) hs (List.getElem?_eq_getElem hnx) (by simp [strE]) (by decide);have e : n * strE.sz + 0 = n := by show n * 1 + 0 = n; omega
    rw [e] at h1;exact ⟨_, List.length_set .., h1⟩
   ·exact ⟨xs, rfl, own_past hs (by omega) _⟩
  ·refine ⟨xs, rfl, hs.keep (by rw [set_size]; exact Nat.le_refl _) fun b hb => ?_⟩;refine Below.heap_setCell w ⟨g, n, none⟩ _ b fun e => hA ?_
   have e : b = g := e;subst e
   rcases hs.2 with ⟨hv, _⟩ | ⟨g', cap, cur, hv, _⟩
   ·rw [hv] at hb; cases hb
   ·rw [hv] at hb;injection hv with h1;rw [h1];simp only [Value.ownBlock, Option.some.injEq] at hb;rw [hb]
theorem KeepS.trans {B : Nat} {a b c : World} (h : KeepS B a b) (k : KeepS B b c) : KeepS B a c :=
 ⟨h.below.trans k.below, fun A xs hs => by
  obtain ⟨ys, e1, h1⟩ := h.strs A xs hs;obtain ⟨zs, e2, h2⟩ := k.strs A ys h1;exact ⟨zs, e2.trans e1, h2⟩, fun b' cs t ht hb => k.other b' cs t ht (h.other b' cs t ht hb), fun A n c' xs hs => by
  obtain ⟨ys, e1, h1⟩ := h.own A n c' xs hs;obtain ⟨zs, e2, h2⟩ := k.own A n c' ys h1;exact ⟨zs, e2.trans e1, h2⟩⟩
theorem KeepS.refl (B : Nat) (w : World) : KeepS B w w := ⟨rB, fun A xs hs => ⟨xs, rfl, hs⟩, fun _ _ _ _ h => h, fun A n c xs hs => ⟨xs, rfl, hs⟩⟩
theorem KeepS.sets {B g : Nat} (hB : B ≤ g) : ∀ (ss : List ByteArray) (n : Nat) (w : World) (cs : Array Value), Blk w g 9 cs → n + ss.length ≤ cs.size → KeepS B w (w.setCells g n (ss.map Value.string))
 | [], _, w, _, _, _ => KeepS.refl B w
 | s :: ss, n, w, cs, hg, hn => by
  have h1 := KeepS.set (s := s) (n := n) hg (by simp at hn; omega) hB;have h2 : Blk (w.setCell ⟨g, n, none⟩ (.string s)) g 9 (cs.setIfInBounds n (.string s)) := hg.set_ n _;exact h1.trans (KeepS.sets hB ss (n + 1) _ _ h2 (by rw [Array.size_setIfInBounds]; simp at hn; omega))
set_option maxHeartbeats 1000000 in
theorem app_str {B : Nat} {x : World} {A : Option Addr} {c : Nat} {xs : List ByteArray} (hown : Own strE 9 B x (.slice A xs.length c) xs) (hB : B ≤ x.heap.size) {ga : Nat} {s : ByteArray} (hs : x.cell? ⟨ga, 0, none⟩ = some (.string s)) (hl : xs.length + 1 ≤ 100000) (ty : TypeId) :
  ∃ A' c' w' ys, (Builtin.append_ #[23, 23] ty #[.slice A xs.length c, .slice (some ⟨ga, 0, none⟩) 1 1]).run Tryz.prog x = .ok (.slice A' (xs.length + 1) c') w' ∧ xs.length + 1 ≤ c' ∧ ys.length = xs.length + 1 ∧ Sl strE w' A' ys ∧ KeepS B x w' := by
 obtain ⟨i, z, hi, hz, hsz, hby, hzc⟩ := tyStrs.info;have hsz1 : i.size = 1 := hsz;have hby2 : i.bytes ≤ 1024 := hby
 have hsrc : ∀ (j : Nat) (u : Value), [Value.string s][j]? = some u → x.cell? ((⟨ga, 0, none⟩ : Addr).add j) = some u := fun j u hj => by
  match j, hj with
  | 0, hj => (injection hj with hj; subst hj; exact hs)
 have h1 : ∀ u ∈ [Value.string s], u.oneCell' = true := fun u hu => by rw [List.mem_singleton.1 hu]; rfl
 have hbytes : (xs.length + 1) * i.bytes ≤ 140737488355328 := Nat.le_trans (Nat.mul_le_mul hl hby2) (by decide);have h63 : xs.length + 1 ≤ maxLen := by unfold maxLen; omega
 have fin : ∀ (v' : Value) (w' : World), w'.ownsRow B 9 1 v' (xs.length + 1) (xs.flatMap strE.cells ++ [Value.string s]) → (∃ A' c', v' = .slice A' (xs.length + 1) c' ∧ xs.length + 1 ≤ c' ∧ Sl strE w' A' (xs ++ [s])) := fun v' w' hw => by
  have hO : Own strE 9 B w' v' (xs ++ [s]) := by
   unfold Own;rw [List.flatMap_append, List.length_append];exact hw
  obtain ⟨A', c', rfl, h2, _⟩ := hO.form;rw [List.length_append] at h2 hO ⊢;exact ⟨A', c', rfl, h2, hO.sl⟩
 rcases hown.2 with ⟨hv, hn⟩ | ⟨g, cap, cur, hv, hBg, hg, hcap, hmax, hcur, htk⟩
 ·obtain ⟨v', w', hrun, ho, hgr, _⟩ := run_append_own (P := Tryz.prog) x B 23 ty 9 i z 1 i.bytes tyStrs.ht hi hz hsz1 rfl hzc (by decide) (.slice A xs.length c) xs.length (xs.flatMap strE.cells) hown ⟨ga, 0, none⟩ 1 1 [.string s] (by simp) hsrc h1 h63 hbytes hB;obtain ⟨A', c', rfl, h2, h3⟩ := fin v' w' ho;refine ⟨A', c', w', xs ++ [s], hrun, h2, by simp, h3, KeepS.of_below ((Below.refl _ x).grown hgr nL fun k hk => ?_) hB⟩;rw [hv] at hk
  cases hk
 ·injection hv with hA hn hc;subst hA hc;have hcs : cur.size = c := by rw [hcur]; exact Nat.mul_one c
  by_cases hr : xs.length + 1 ≤ c
  ·have hlt : xs.length < cur.size := (by omega);have hBk : Blk x g 9 cur := hg
   have hci : ∀ j, j < [Value.string s].length → (x.cell? ⟨g, 0 + xs.length * i.size + j, none⟩).isSome = true := fun j hj => by
    have hj0 : j = 0 := by simpa using hj
    subst hj0;rw [hsz1, Nat.mul_one, Nat.zero_add, Nat.add_zero, hBk.cell, Array.getElem?_eq_getElem hlt];rfl
   have hrun := run_append_room_cells (P := Tryz.prog) x 23 ty 9 i tyStrs.ht hi g 0 xs.length c ⟨ga, 0, none⟩ 1 1 [.string s] (by rw [hsz1]; rfl) hsrc h1 hr hci (fun j _ => hBk.frozen _)
   have hw : x.setCells g (0 + xs.length * i.size) [.string s] = x.setCell ⟨g, xs.length, none⟩ (.string s) := by
    rw [hsz1, Nat.mul_one, Nat.zero_add]; rfl
   rw [hw] at hrun;have hK := KeepS.set (s := s) hBk hlt hBg
   obtain ⟨ys, hy1, hy2⟩ := sl_set1 (E := strE) rfl hown.sl g xs.length s (by rw [set_size]; exact Nat.le_refl _) (set_far x g xs.length (.string s)) (fun u hu => by
    simp [strE] at hu;subst hu;obtain ⟨u0, hu0⟩ := Option.isSome_iff_exists.1 (hci 0 (by simp));rw [hsz1, Nat.mul_one, Nat.zero_add, Nat.add_zero] at hu0;exact World.cell?_setCell_same _ _ _ hu0)
   have hcell : (x.setCell ⟨g, xs.length, none⟩ (.string s)).cell? ⟨g, xs.length, none⟩ = some (.string s) := by
    obtain ⟨u0, hu0⟩ := Option.isSome_iff_exists.1 (hci 0 (by simp));rw [hsz1, Nat.mul_one, Nat.zero_add, Nat.add_zero] at hu0;exact World.cell?_setCell_same _ _ _ hu0
   refine ⟨some ⟨g, 0, none⟩, c, _, ys ++ [s], hrun, hr, by simp [hy1], fun _ => ⟨g, 0, rfl, by rw [set_size]; exact hBk.lt, fun k y hk j u hj => ?_⟩, hK⟩;have hj0 : j = 0 := by have := (List.getElem?_eq_some_iff.1 hj).1; simpa [strE] using this
   subst hj0
   by_cases hkl : k < ys.length
   ·rw [List.getElem?_append_left hkl] at hk;obtain ⟨b', off', hA', _, hc'⟩ := hy2 (fun e => by rw [e] at hkl; simp at hkl);injection hA' with hA';injection hA' with e1 e2;subst e1 e2;exact hc' k y hk 0 u hj
   ·have hk2 := (List.getElem?_eq_some_iff.1 hk).1;rw [List.length_append, List.length_singleton] at hk2;have hke : k = ys.length := (by omega);subst hke;rw [List.getElem?_append_right nL, Nat.sub_self] at hk;injection hk with hk;subst hk;simp [strE] at hj;subst hj
    show (x.setCell ⟨g, xs.length, none⟩ (.string s)).cell? ⟨g, 0 + ys.length * 1 + 0, none⟩ = _
    rw [Nat.mul_one, Nat.zero_add, Nat.add_zero, hy1];exact hcell
  ·obtain ⟨v', w', hrun, ho, hgr⟩ := run_append_arg_grows (P := Tryz.prog) x 23 ty 9 i z 1 i.bytes tyStrs.ht hi hz hsz1 rfl hzc (by decide) ⟨g, 0, none⟩ xs.length c (xs.flatMap strE.cells) (flat_length strE xs) (fun j u hj => by
    rw [Addr.add_lit, Nat.zero_add, (show Blk x g 9 cur from hg).cell j]
    have h5 : cur.toList[j]? = some u := by
     have hjl : j < xs.length * strE.sz := by have := (List.getElem?_eq_some_iff.1 hj).1; rwa [flat_length] at this
     have h6 : (cur.toList.take (xs.length * strE.sz))[j]? = cur.toList[j]? := List.getElem?_take_of_lt hjl;rw [← h6];rw [htk];exact hj
    simpa using h5) ⟨ga, 0, none⟩ 1 1 [.string s] (by simp) hsrc (by omega) h63 hbytes
   have ho2 : w'.ownsRow B 9 1 v' (xs.length + 1) (xs.flatMap strE.cells ++ [Value.string s]) := ⟨ho.1, by
    rcases ho.2 with hn | ⟨g', cap', cur', e1, hb, r⟩
    ·exact .inl hn
    ·exact .inr ⟨g', cap', cur', e1, by omega, r⟩⟩
   obtain ⟨A', c', rfl, h2, h3⟩ := fin v' w' ho2;exact ⟨A', c', w', xs ++ [s], hrun, h2, by simp, h3, KeepS.of_below ((Below.refl _ x).grown hgr nL fun k hk => by cases hk) hB⟩
set_option maxHeartbeats 1000000 in
theorem app_strs {B : Nat} {x : World} {A : Option Addr} {c : Nat} {xs : List ByteArray} (hown : Own strE 9 B x (.slice A xs.length c) xs) (hB : B ≤ x.heap.size) {A2 : Option Addr} {ys : List ByteArray} (hy : Sl strE x A2 ys) (hy0 : ys ≠ []) (d2 : Nat) (hl : xs.length + ys.length ≤ 100000) (ty : TypeId) :
  ∃ A' c' w', (Builtin.append_ #[23, 23] ty #[.slice A xs.length c, .slice A2 ys.length d2]).run Tryz.prog x = .ok (.slice A' (xs.length + ys.length) c') w' ∧ Own strE 9 B w' (.slice A' (xs.length + ys.length) c') (xs ++ ys) ∧ KeepS B x w' := by
 obtain ⟨i, z, hi, hz, hsz, hby, hzc⟩ := tyStrs.info;have hsz1 : i.size = 1 := hsz;have hby2 : i.bytes ≤ 1024 := hby;obtain ⟨g2, o2, rfl, _, hcy⟩ := hy hy0
 have hsrc : ∀ (j : Nat) (u : Value), (ys.map Value.string)[j]? = some u → x.cell? ((⟨g2, o2, none⟩ : Addr).add j) = some u := fun j u hj => by
  rw [List.getElem?_map] at hj;obtain ⟨y, h1, rfl⟩ := Option.map_eq_some_iff.1 hj;have := hcy j y h1 0 (.string y) rfl;rw [Addr.add_lit]
  simpa [strE] using this
 have h1 : ∀ u ∈ ys.map Value.string, u.oneCell' = true := fun u hu => by
  obtain ⟨y, _, rfl⟩ := List.mem_map.1 hu;rfl
 have hbytes : (xs.length + ys.length) * i.bytes ≤ 140737488355328 := Nat.le_trans (Nat.mul_le_mul hl hby2) (by decide);have h63 : xs.length + ys.length ≤ maxLen := by unfold maxLen; omega
 obtain ⟨v', w', hrun, ho, hgr, _⟩ := run_append_own (P := Tryz.prog) x B 23 ty 9 i z 1 i.bytes tyStrs.ht hi hz hsz1 rfl hzc (by decide) (.slice A xs.length c) xs.length (xs.flatMap strE.cells) hown ⟨g2, o2, none⟩ ys.length d2 (ys.map Value.string) (by simp) hsrc h1 h63 hbytes hB
 have hO : Own strE 9 B w' v' (xs ++ ys) := by
  unfold Own;rw [List.flatMap_append, List.length_append, flatS ys];exact ho
 obtain ⟨A', c', rfl, h2, _⟩ := hO.form;rw [List.length_append] at h2 hO hrun;refine ⟨A', c', w', hrun, hO, ?_⟩
 rcases hown.2 with ⟨hv, hn⟩ | ⟨g, cap, cur, hv, hBg, hg, hcap, hmax, hcur, htk⟩
 ·refine KeepS.of_below ((Below.refl _ x).grown hgr nL fun k hk => ?_) hB;rw [hv] at hk
  cases hk
 ·injection hv with hA hn hc;subst hA hc;have hcs : cur.size = c := by rw [hcur]; exact Nat.mul_one c
  have hBk : Blk x g 9 cur := hg
  by_cases hr : xs.length + ys.length ≤ c
  ·have hrun2 := run_append_room_cells (P := Tryz.prog) x 23 ty 9 i tyStrs.ht hi g 0 xs.length c ⟨g2, o2, none⟩ ys.length d2 (ys.map Value.string) (by rw [hsz1]; simp) hsrc h1 hr (fun j hj => by
    rw [hsz1, Nat.mul_one, Nat.zero_add, hBk.cell, Array.getElem?_eq_getElem (by simp at hj; omega)];rfl) (fun j _ => hBk.frozen _)
   rw [hrun] at hrun2;injection hrun2 with _ hw;rw [hw, hsz1, Nat.mul_one, Nat.zero_add];exact KeepS.sets hBg ys xs.length x cur hBk (by omega)
  ·obtain ⟨v2, w2, hrun2, _, hgr2⟩ := run_append_arg_grows (P := Tryz.prog) x 23 ty 9 i z 1 i.bytes tyStrs.ht hi hz hsz1 rfl hzc (by decide) ⟨g, 0, none⟩ xs.length c (xs.flatMap strE.cells) (flat_length strE xs) (fun j u hj => by
    rw [Addr.add_lit, Nat.zero_add, hBk.cell j]
    have h5 : cur.toList[j]? = some u := by
     have hjl : j < xs.length * strE.sz := by have := (List.getElem?_eq_some_iff.1 hj).1; rwa [flat_length] at this
     have h6 : (cur.toList.take (xs.length * strE.sz))[j]? = cur.toList[j]? := List.getElem?_take_of_lt hjl;rw [← h6];rw [htk];exact hj
    simpa using h5) ⟨g2, o2, none⟩ ys.length d2 (ys.map Value.string) (by simp) hsrc (by omega) h63 hbytes
   rw [hrun] at hrun2;injection hrun2 with _ hw;rw [← hw] at hgr2;exact KeepS.of_below ((Below.refl _ x).grown hgr2 nL fun k hk => by cases hk) hB
theorem Own.blk {α : Type} {E : Enc α} {e : TypeId} {B : Nat} {w : World} {A : Option Addr} {n c : Nat} {xs : List α} (h : Own E e B w (.slice A n c) xs) (hx : xs ≠ []) : ∃ g cur, A = some ⟨g, 0, none⟩ ∧ B ≤ g ∧ Blk w g e cur := by
 rcases h.2 with ⟨_, hn⟩ | ⟨g, cap, cur, hv, hB, hg, _⟩
 ·exact absurd (List.eq_nil_of_length_eq_zero hn) hx
 ·injection hv with h1;exact ⟨g, cur, h1, hB, hg⟩
structure EdO (B : Nat) (w : World) (r : EdV) : Prop where
 old : Own strE 9 B w (.slice r.A r.old.length r.c) r.old
 new : Own strE 9 B w (.slice r.A' r.new.length r.c') r.new
theorem EdO.ok {B : Nat} {w : World} {r : EdV} (h : EdO B w r) : EdOk w r := by
 obtain ⟨_, _, e1, c1, _⟩ := h.old.form;obtain ⟨_, _, e2, c2, _⟩ := h.new.form;injection e1 with _ _ e1;injection e2 with _ _ e2;subst e1 e2;exact ⟨h.old.sl, h.new.sl, c1, c2⟩
theorem EdO.keep {B : Nat} {w w' : World} {r : EdV} (h : EdO B w r) (hb : Strs B w w') : EdO B w' r := ⟨hb.own h.old, hb.own h.new⟩
theorem eds_ofO {B : Nat} {w : World} : ∀ {rs : List RawEd} {xs : List (File.Edit ByteArray)}, EdsR B w rs xs → ∃ vs : List EdV, vs.map EdV.ed = xs ∧ (∀ r ∈ vs, EdO B w r) ∧ vs.flatMap edE.cells = rs.flatMap rawE.cells ∧ vs.length = rs.length
 | [], [], _ => ⟨[], rfl, (fun _ h => (by cases h)), rfl, rfl⟩
 | r :: rs, x :: xs, ⟨h, h2⟩ => by
  obtain ⟨vs, k1, k2, k3, k4⟩ := eds_ofO h2;obtain ⟨p1, p2, p3, p4, p5⟩ := h;obtain ⟨a, A, n, c, A', n', c'⟩ := r;obtain ⟨xa, xo, xn⟩ := x;simp only at p1 p2 p3 p4 p5;subst p1 p2 p3;refine ⟨⟨a, A, c, xo, A', c', xn⟩ :: vs, by simp [EdV.ed, k1], fun r hr => ?_, by rw [List.flatMap_cons, List.flatMap_cons, k3]; rfl, by simp [k4]⟩
  rcases List.mem_cons.1 hr with rfl | hr
  ·exact ⟨p4, p5⟩
  ·exact k2 r hr
theorem strs_set {B : Nat} {w : World} {g n : Nat} {cs : Array Value} {t : TypeId} (hg : Blk w g t cs) (ht : t ≠ 9) (v : Value) : Strs B w (w.setCell ⟨g, n, none⟩ v) := by
 refine ⟨by rw [set_size]; exact Nat.le_refl _, fun b cs' fr _ hb => ?_⟩;refine Below.heap_setCell w ⟨g, n, none⟩ v b fun e => ?_
 have e : b = g := e;subst e;unfold Blk at hg;rw [hg] at hb;injection hb with hb;injection hb with _ e2 _;exact ht e2
theorem eds_at {B : Nat} {w : World} {A : Option Addr} {d : Nat} {vs : List EdV} (h : Own edE 36 B w (.slice A vs.length d) vs) (hk : ∀ r ∈ vs, EdO B w r) (hl : ∀ r ∈ vs, r.old.length ≤ 10) {g : Nat} {cs : Array Value} (hA : A = some ⟨g, 0, none⟩) (hg : Blk w g 36 cs) {x : EdV} (hx : vs[0]? = some x) (z : Int) :
  ∃ vs' : List EdV, vs'.length = vs.length ∧ Own edE 36 B (w.setCell ⟨g, 0, none⟩ (iv z)) (.slice A vs'.length d) vs' ∧ (∀ r ∈ vs', EdO B (w.setCell ⟨g, 0, none⟩ (iv z)) r) ∧ ∀ r ∈ vs', r.old.length ≤ 10 := by
 have hS : Strs B w (w.setCell ⟨g, 0, none⟩ (iv z)) := strs_set hg (by decide) _;subst hA;have h1 := Own.setAt (k := 0) (j := 0) (x := x) (y := { x with at_ := z }) (u := iv z) h hx (by simp [edE]) (by decide);simp only [Nat.zero_mul, Nat.add_zero] at h1;refine ⟨vs.set 0 { x with at_ := z }, by simp, by rw [List.length_set]; exact h1, fun r hr => ?_, fun r hr => ?_⟩
 ·rcases List.mem_or_eq_of_mem_set hr with hr | rfl
  ·exact (hk r hr).keep hS
  ·have := (hk x (mem_at hx)).keep hS;exact ⟨this.old, this.new⟩
 ·rcases List.mem_or_eq_of_mem_set hr with hr | rfl
  ·exact hl r hr
  ·exact hl x (mem_at hx)
theorem KeepS.eds {B : Nat} {w w' : World} (h : KeepS B w w') : ∀ {vs : List EdV}, (∀ r ∈ vs, EdOk w r) → ∃ vs2 : List EdV, vs2.length = vs.length ∧ vs2.flatMap edE.cells = vs.flatMap edE.cells ∧ ∀ r ∈ vs2, EdOk w' r
 | [], _ => ⟨[], rfl, rfl, fun _ h => by cases h⟩
 | r :: vs, hk => by
  obtain ⟨vs2, h1, h2, h3⟩ := KeepS.eds h fun x hx => hk x (List.mem_cons_of_mem _ hx)
  obtain ⟨k1, k2, k3, k4⟩ := hk r List.mem_cons_self;obtain ⟨o2, e1, e2⟩ := h.strs _ _ k1;obtain ⟨n2, e3, e4⟩ := h.strs _ _ k2;refine ⟨⟨r.at_, r.A, r.c, o2, r.A', r.c', n2⟩ :: vs2, by simp [h1], by rw [List.flatMap_cons, List.flatMap_cons, h2]; simp [edE, e1, e3], fun x hx => ?_⟩
  rcases List.mem_cons.1 hx with rfl | hx
  ·exact ⟨e2, e4, by show o2.length ≤ r.c; omega, by show n2.length ≤ r.c'; omega⟩
  ·exact h3 x hx
theorem own_cells {e : TypeId} {B : Nat} {w : World} {v : Value} {vs vs2 : List EdV} (h : Own edE e B w v vs) (hc : vs2.flatMap edE.cells = vs.flatMap edE.cells) (hl : vs2.length = vs.length) : Own edE e B w v vs2 := by
 unfold Own at h ⊢;rw [hc, hl];exact h
theorem EdOk.set {w : World} {r : EdV} (h : EdOk w r) {g n : Nat} {u v : Value} (hc : w.cell? ⟨g, n, none⟩ = some u) (hu : ∀ s, u ≠ .string s) : EdOk (w.setCell ⟨g, n, none⟩ v) r := by
 have key : ∀ A (xs : List ByteArray), Sl strE w A xs → Sl strE (w.setCell ⟨g, n, none⟩ v) A xs := fun A xs hs => by
  refine sl_other hs g n (by rw [set_size]; exact Nat.le_refl _) (set_far w g n _) fun x _ y hy => ?_
  simp [strE] at hy;subst hy;rw [hc];intro e;injection e with e;exact hu x e
 exact ⟨key _ _ h.old, key _ _ h.new, h.oc, h.nc⟩
theorem eds_app {B : Nat} {w w' : World} {g : Nat} {d : Nat} {vs : List EdV} (h : Own edE 36 B w (.slice (some ⟨g, 0, none⟩) vs.length d) vs) (hk : ∀ r ∈ vs, EdO B w r) (hK : KeepS B w w') {cs : Array Value} (hg : Blk w g 36 cs) (h1 : 1 < vs.length)
  {A' : Option Addr} {n c' : Nat} {ys : List ByteArray} (hy : ys.length = n) (hc : n ≤ c') (hs : Sl strE w' A' ys) :
  ∃ vs' : List EdV, vs'.length = vs.length ∧ Sl edE (w'.setCell ⟨g, 4, none⟩ (.slice A' n c')) (some ⟨g, 0, none⟩) vs' ∧ ∀ r ∈ vs', EdOk (w'.setCell ⟨g, 4, none⟩ (.slice A' n c')) r := by
 obtain ⟨vs2, e1, e2, e3⟩ := hK.eds fun r hr => (hk r hr).ok
 have hO : Own edE 36 B w' (.slice (some ⟨g, 0, none⟩) vs.length d) vs := h.keep hK.below.size fun b hb => by
  simp only [Value.ownBlock, Option.some.injEq] at hb;subst hb;exact (hK.other g cs 36 (by decide) hg).trans hg.symm
 have hO2 := own_cells hO e2 e1;obtain ⟨x, hx⟩ : ∃ x, vs2[1]? = some x := ⟨_, List.getElem?_eq_getElem (by omega)⟩;have hO3 := Own.setAt (k := 1) (j := 1) (x := x) (y := { x with A := A', c := c', old := ys }) (u := .slice A' n c') hO2 hx (by simp [edE, hy]) (by decide)
 have hcell : w'.cell? ⟨g, 4, none⟩ = some (.slice x.A x.old.length x.c) := by
  obtain ⟨b, off, hA, _, hcc⟩ := hO2.sl (fun e => by rw [e] at hx; simp at hx);injection hA with hA;injection hA with a1 a2;subst a1 a2;have := hcc 1 x hx 1 (.slice x.A x.old.length x.c) rfl
  simpa [edE] using this
 have hfor : ∀ r ∈ vs2, EdOk (w'.setCell ⟨g, 4, none⟩ (.slice A' n c')) r := fun r hr => (e3 r hr).set hcell fun s e => by cases e
 have hsy : Sl strE (w'.setCell ⟨g, 4, none⟩ (.slice A' n c')) A' ys := by
  refine sl_other hs g 4 (by rw [set_size]; exact Nat.le_refl _) (set_far w' g 4 _) fun y _ u hu => ?_
  simp [strE] at hu;subst hu;rw [hcell];simp
 have h4 : 1 * edE.sz + 1 = 4 := rfl;rw [h4] at hO3;refine ⟨vs2.set 1 { x with A := A', c := c', old := ys }, by simp [e1], hO3.sl, fun r hr => ?_⟩
 rcases List.mem_or_eq_of_mem_set hr with hr | rfl
 ·exact hfor r hr
 ·have := hfor x (mem_at hx);exact ⟨hsy, this.new, by show ys.length ≤ c'; omega, this.nc⟩
theorem KeepS.after {B : Nat} {W w w' : World} (h : Below W.heap.size W w) (k : KeepS B w w') (hB : B ≤ W.heap.size) : KeepS B W w' :=
 ⟨(h.mono hB).trans k.below, fun A xs hs => k.strs A xs (hs.below h), fun b cs t ht hb => k.other b cs t ht (hb.under h), fun A n c xs hs => k.own A n c xs (hs.below h)⟩
structure EI (B g : Nat) (W : World) (V : Value) (n : Int) (sl : Value) (k : Nat) (T : Nat → Bool) (v : Nat → Value) (w : World) : Prop where
 pre : T 8 = false → Below W.heap.size W w
 f0 : T 0 = true → v 0 = V
 f1 : T 1 = true → v 1 = V
 f2 : T 2 = true → v 2 = .pointer (some ⟨g, 3, none⟩)
 f3 : T 3 = true → v 3 = .pointer (some ⟨g, 4, none⟩)
 f4 : T 4 = true → v 4 = sl
 f5 : T 5 = true → v 5 = iv n
 f6 : T 6 = true → ∃ s, v 6 = .string s
 f7 : T 7 = true → T 8 = false → ∃ ga s, v 7 = .slice (some ⟨ga, 0, none⟩) 1 1 ∧ ga < w.heap.size ∧ w.cell? ⟨ga, 0, none⟩ = some (.string s)
 f8 : T 8 = true → KeepS B W w ∧ ∃ A' c' ys, v 8 = .slice A' k c' ∧ k ≤ c' ∧ ys.length = k ∧ Sl strE w A' ys
section
variable {B g : Nat} {W : World} {V : Value} {n : Int} {sl : Value} {k : Nat} {T : Nat → Bool} {v : Nat → Value} {w w' : World} {u : Value}
abbrev upT (T : Nat → Bool) (i : Nat) : Nat → Bool := fun k => decide (k = i) || T k
abbrev upV (v : Nat → Value) (i : Nat) (u : Value) : Nat → Value := fun k => if k = i then u else v k
theorem EI.s0 (h : EI B g W V n sl k T v w) (hu : u = V) : EI B g W V n sl k (upT T 0) (upV v 0 u) w := { h with f0 := fun _ => hu }
theorem EI.s1 (h : EI B g W V n sl k T v w) (hu : u = V) : EI B g W V n sl k (upT T 1) (upV v 1 u) w := { h with f1 := fun _ => hu }
theorem EI.s2 (h : EI B g W V n sl k T v w) (hu : u = .pointer (some ⟨g, 3, none⟩)) : EI B g W V n sl k (upT T 2) (upV v 2 u) w := { h with f2 := fun _ => hu }
theorem EI.s3 (h : EI B g W V n sl k T v w) (hu : u = .pointer (some ⟨g, 4, none⟩)) : EI B g W V n sl k (upT T 3) (upV v 3 u) w := { h with f3 := fun _ => hu }
theorem EI.s4 (h : EI B g W V n sl k T v w) (hu : u = sl) : EI B g W V n sl k (upT T 4) (upV v 4 u) w := { h with f4 := fun _ => hu }
theorem EI.s5 (h : EI B g W V n sl k T v w) (hu : u = iv n) : EI B g W V n sl k (upT T 5) (upV v 5 u) w := { h with f5 := fun _ => hu }
theorem EI.s6 (h : EI B g W V n sl k T v w) (hb : Below w.heap.size w w') (h8 : T 8 = true → False) (hu : ∃ s, u = .string s) : EI B g W V n sl k (upT T 6) (upV v 6 u) w' :=
 {pre := fun e => (h.pre e).next hb nL
  f0 := h.f0
  f1 := h.f1
  f2 := h.f2
  f3 := h.f3
  f4 := h.f4
  f5 := h.f5
  f6 := fun _ => hu
  f7 := fun e1 e2 => by obtain ⟨ga, s, a1, a2, a3⟩ := h.f7 e1 e2; exact ⟨ga, s, a1, Nat.lt_of_lt_of_le a2 hb.size, (hb.cell (p := ⟨ga, 0, none⟩) a2).trans a3⟩
  f8 := fun e => (h8 e).elim }
theorem EI.s7 (h : EI B g W V n sl k T v w) (hb : Below w.heap.size w w') (h8 : T 8 = true → False) (hu : ∃ ga s, u = .slice (some ⟨ga, 0, none⟩) 1 1 ∧ ga < w'.heap.size ∧ w'.cell? ⟨ga, 0, none⟩ = some (.string s)) : EI B g W V n sl k (upT T 7) (upV v 7 u) w' :=
 {pre := fun e => (h.pre e).next hb nL
  f0 := h.f0
  f1 := h.f1
  f2 := h.f2
  f3 := h.f3
  f4 := h.f4
  f5 := h.f5
  f6 := h.f6
  f7 := fun _ _ => hu
  f8 := fun e => (h8 e).elim }
theorem EI.s8 (h : EI B g W V n sl k T v w) (h8 : T 8 = false) (hk : KeepS B w w') (hB : B ≤ W.heap.size) (hu : ∃ A' c' ys, u = .slice A' k c' ∧ k ≤ c' ∧ ys.length = k ∧ Sl strE w' A' ys) : EI B g W V n sl k (upT T 8) (upV v 8 u) w' :=
 {pre := fun e => (by cases e)
  f0 := h.f0
  f1 := h.f1
  f2 := h.f2
  f3 := h.f3
  f4 := h.f4
  f5 := h.f5
  f6 := h.f6
  f7 := fun _ e => (by cases e)
  f8 := fun _ => ⟨KeepS.after (h.pre h8) hk hB, hu⟩ }
end
theorem stepF_appRun {P : Program} {ops : Array Oper} {o : Oper} {a : Act} {K : Value → World → Prop} {w w' : World} {u : Value} {t : TypeId} (hw : Region.wanted o (yielded ops a.tmps) = true) (s x : Operand) (ho : o.op = .call { callee := .builtin .append, args := #[s, x], argTypes := #[t, t] })
  (v1 v2 : Value) (hs : a.eval s = v1) (hx : a.eval x = v2) (hr : (Builtin.append_ #[t, t] o.type #[v1, v2]).run P w = .ok u w') (hK : K u w') : StepF P ops o a w K := by
 refine stepF_new hw ?_ hK;unfold execOp;simp only [ho, resolve, invoke, builtin, Sem.run_bind, Sem.run_pure, Result.andThen_ok, List.map_toArray, List.map_cons, List.map_nil, hs, hx, hr]
theorem ed_one (w : World) (v : Int) : ∃ vs : List EdV, vs.length = 1 ∧ Sl edE (((w.alloc (.cells #[.string ⟨#[103, 111, 108, 100]⟩] 9)).alloc (.cells #[.string ⟨#[120]⟩] 9)).alloc (.cells #[iv v, .slice (some ⟨w.heap.size, 0, none⟩) 1 1, .slice (some ⟨w.heap.size + 1, 0, none⟩) 1 1] 36)) (some ⟨w.heap.size + 1 + 1, 0, none⟩) vs ∧ (∀ r ∈ vs, EdOk (((w.alloc (.cells #[.string ⟨#[103, 111, 108, 100]⟩] 9)).alloc (.cells #[.string ⟨#[120]⟩] 9)).alloc (.cells #[iv v, .slice (some ⟨w.heap.size, 0, none⟩) 1 1, .slice (some ⟨w.heap.size + 1, 0, none⟩) 1 1] 36)) r) ∧ Below w.heap.size w (((w.alloc (.cells #[.string ⟨#[103, 111, 108, 100]⟩] 9)).alloc (.cells #[.string ⟨#[120]⟩] 9)).alloc (.cells #[iv v, .slice (some ⟨w.heap.size, 0, none⟩) 1 1, .slice (some ⟨w.heap.size + 1, 0, none⟩) 1 1] 36)) := by
 have z1 : (w.alloc (.cells #[.string ⟨#[103, 111, 108, 100]⟩] 9)).heap.size = w.heap.size + 1 := by simp
 have z2 : ((w.alloc (.cells #[.string ⟨#[103, 111, 108, 100]⟩] 9)).alloc (.cells #[.string ⟨#[120]⟩] 9)).heap.size = w.heap.size + 1 + 1 := by simp
 have s1 := Sl.fresh strE w 9 #[.string ⟨#[103, 111, 108, 100]⟩] [⟨#[103, 111, 108, 100]⟩] rfl (by decide);have s2 := Sl.fresh strE (w.alloc (.cells #[.string ⟨#[103, 111, 108, 100]⟩] 9)) 9 #[.string ⟨#[120]⟩] [⟨#[120]⟩] rfl (by decide);rw [z1] at s2;refine ⟨[⟨v, some ⟨w.heap.size, 0, none⟩, 1, [⟨#[103, 111, 108, 100]⟩], some ⟨w.heap.size + 1, 0, none⟩, 1, [⟨#[120]⟩]⟩], rfl, ?_, ?_, ?_⟩
 ·have := Sl.fresh edE ((w.alloc (.cells #[.string ⟨#[103, 111, 108, 100]⟩] 9)).alloc (.cells #[.string ⟨#[120]⟩] 9)) 36 #[iv v, .slice (some ⟨w.heap.size, 0, none⟩) 1 1, .slice (some ⟨w.heap.size + 1, 0, none⟩) 1 1] [⟨v, some ⟨w.heap.size, 0, none⟩, 1, [⟨#[103, 111, 108, 100]⟩], some ⟨w.heap.size + 1, 0, none⟩, 1, [⟨#[120]⟩]⟩] rfl (by simp [maxLen]);rw [z2] at this;exact this
 ·intro r hr;obtain rfl := List.mem_singleton.1 hr;exact ⟨(s1.alloc _).alloc _, s2.alloc _, Nat.le_refl _, Nat.le_refl _⟩
 ·exact (((Below.refl _ w).alloc nL _).alloc (by omega) _).alloc (by omega) _
theorem ed_two (w : World) (v : Int) : ∃ vs : List EdV, vs.length = 2 ∧ Sl edE (((w.alloc (.cells #[.string ⟨#[120]⟩] 9)).alloc (.cells #[.string ⟨#[121]⟩] 9)).alloc (.cells #[iv 0, .slice none 0 0, .slice (some ⟨w.heap.size, 0, none⟩) 1 1, iv v, .slice none 0 0, .slice (some ⟨w.heap.size + 1, 0, none⟩) 1 1] 36)) (some ⟨w.heap.size + 1 + 1, 0, none⟩) vs ∧ (∀ r ∈ vs, EdOk (((w.alloc (.cells #[.string ⟨#[120]⟩] 9)).alloc (.cells #[.string ⟨#[121]⟩] 9)).alloc (.cells #[iv 0, .slice none 0 0, .slice (some ⟨w.heap.size, 0, none⟩) 1 1, iv v, .slice none 0 0, .slice (some ⟨w.heap.size + 1, 0, none⟩) 1 1] 36)) r) ∧ Below w.heap.size w (((w.alloc (.cells #[.string ⟨#[120]⟩] 9)).alloc (.cells #[.string ⟨#[121]⟩] 9)).alloc (.cells #[iv 0, .slice none 0 0, .slice (some ⟨w.heap.size, 0, none⟩) 1 1, iv v, .slice none 0 0, .slice (some ⟨w.heap.size + 1, 0, none⟩) 1 1] 36)) := by
 have z1 : (w.alloc (.cells #[.string ⟨#[120]⟩] 9)).heap.size = w.heap.size + 1 := by simp
 have z2 : ((w.alloc (.cells #[.string ⟨#[120]⟩] 9)).alloc (.cells #[.string ⟨#[121]⟩] 9)).heap.size = w.heap.size + 1 + 1 := by simp
 have s1 := Sl.fresh strE w 9 #[.string ⟨#[120]⟩] [⟨#[120]⟩] rfl (by decide);have s2 := Sl.fresh strE (w.alloc (.cells #[.string ⟨#[120]⟩] 9)) 9 #[.string ⟨#[121]⟩] [⟨#[121]⟩] rfl (by decide);rw [z1] at s2;refine ⟨[⟨0, none, 0, [], some ⟨w.heap.size, 0, none⟩, 1, [⟨#[120]⟩]⟩, ⟨v, none, 0, [], some ⟨w.heap.size + 1, 0, none⟩, 1, [⟨#[121]⟩]⟩], rfl, ?_, ?_, ?_⟩
 ·have := Sl.fresh edE ((w.alloc (.cells #[.string ⟨#[120]⟩] 9)).alloc (.cells #[.string ⟨#[121]⟩] 9)) 36 #[iv 0, .slice none 0 0, .slice (some ⟨w.heap.size, 0, none⟩) 1 1, iv v, .slice none 0 0, .slice (some ⟨w.heap.size + 1, 0, none⟩) 1 1] [⟨0, none, 0, [], some ⟨w.heap.size, 0, none⟩, 1, [⟨#[120]⟩]⟩, ⟨v, none, 0, [], some ⟨w.heap.size + 1, 0, none⟩, 1, [⟨#[121]⟩]⟩] rfl (by simp [maxLen]);rw [z2] at this;exact this
 ·intro r hr;simp only [List.mem_cons, List.not_mem_nil, or_false] at hr
  rcases hr with rfl | rfl
  ·exact ⟨Sl.nil, (s1.alloc _).alloc _, Nat.le_refl _, Nat.le_refl _⟩
  ·exact ⟨Sl.nil, s2.alloc _, Nat.le_refl _, Nat.le_refl _⟩
 ·exact (((Below.refl _ w).alloc nL _).alloc (by omega) _).alloc (by omega) _
theorem rows_three (w : World) (v : Int) : ∃ rs : List (Rw Int), rs.length = 3 ∧ Sl (rwE Int) ((((w.alloc (.cells #[iv 0, iv 0, iv 0] 3)).alloc (.cells #[iv 1, iv 0, iv 0] 3)).alloc (.cells #[iv 0, iv 2, iv v] 3)).alloc (.cells #[.slice (some ⟨w.heap.size, 0, none⟩) 3 3, .slice (some ⟨w.heap.size + 1, 0, none⟩) 3 3, .slice (some ⟨w.heap.size + 1 + 1, 0, none⟩) 3 3] 31)) (some ⟨w.heap.size + 1 + 1 + 1, 0, none⟩) rs ∧ RowsR intE ((((w.alloc (.cells #[iv 0, iv 0, iv 0] 3)).alloc (.cells #[iv 1, iv 0, iv 0] 3)).alloc (.cells #[iv 0, iv 2, iv v] 3)).alloc (.cells #[.slice (some ⟨w.heap.size, 0, none⟩) 3 3, .slice (some ⟨w.heap.size + 1, 0, none⟩) 3 3, .slice (some ⟨w.heap.size + 1 + 1, 0, none⟩) 3 3] 31)) rs ∧ Below w.heap.size w ((((w.alloc (.cells #[iv 0, iv 0, iv 0] 3)).alloc (.cells #[iv 1, iv 0, iv 0] 3)).alloc (.cells #[iv 0, iv 2, iv v] 3)).alloc (.cells #[.slice (some ⟨w.heap.size, 0, none⟩) 3 3, .slice (some ⟨w.heap.size + 1, 0, none⟩) 3 3, .slice (some ⟨w.heap.size + 1 + 1, 0, none⟩) 3 3] 31)) := by
 have z1 : (w.alloc (.cells #[iv 0, iv 0, iv 0] 3)).heap.size = w.heap.size + 1 := by simp
 have z2 : ((w.alloc (.cells #[iv 0, iv 0, iv 0] 3)).alloc (.cells #[iv 1, iv 0, iv 0] 3)).heap.size = w.heap.size + 1 + 1 := by simp
 have z3 : (((w.alloc (.cells #[iv 0, iv 0, iv 0] 3)).alloc (.cells #[iv 1, iv 0, iv 0] 3)).alloc (.cells #[iv 0, iv 2, iv v] 3)).heap.size = w.heap.size + 1 + 1 + 1 := by simp
 have s1 := Sl.fresh intE w 3 #[iv 0, iv 0, iv 0] [0, 0, 0] rfl (by decide);have s2 := Sl.fresh intE (w.alloc (.cells #[iv 0, iv 0, iv 0] 3)) 3 #[iv 1, iv 0, iv 0] [1, 0, 0] rfl (by decide);have s3 := Sl.fresh intE ((w.alloc (.cells #[iv 0, iv 0, iv 0] 3)).alloc (.cells #[iv 1, iv 0, iv 0] 3)) 3 #[iv 0, iv 2, iv v] [0, 2, v] rfl (by simp [maxLen]);rw [z1] at s2;rw [z2] at s3;refine ⟨[⟨some ⟨w.heap.size, 0, none⟩, 3, [0, 0, 0]⟩, ⟨some ⟨w.heap.size + 1, 0, none⟩, 3, [1, 0, 0]⟩, ⟨some ⟨w.heap.size + 1 + 1, 0, none⟩, 3, [0, 2, v]⟩], rfl, ?_, ?_, ?_⟩
 ·have := Sl.fresh (rwE Int) (((w.alloc (.cells #[iv 0, iv 0, iv 0] 3)).alloc (.cells #[iv 1, iv 0, iv 0] 3)).alloc (.cells #[iv 0, iv 2, iv v] 3)) 31 #[.slice (some ⟨w.heap.size, 0, none⟩) 3 3, .slice (some ⟨w.heap.size + 1, 0, none⟩) 3 3, .slice (some ⟨w.heap.size + 1 + 1, 0, none⟩) 3 3] [⟨some ⟨w.heap.size, 0, none⟩, 3, [0, 0, 0]⟩, ⟨some ⟨w.heap.size + 1, 0, none⟩, 3, [1, 0, 0]⟩, ⟨some ⟨w.heap.size + 1 + 1, 0, none⟩, 3, [0, 2, v]⟩] rfl (by simp [maxLen]);rw [z3] at this;exact this
 ·intro r hr;simp only [List.mem_cons, List.not_mem_nil, or_false] at hr
  rcases hr with rfl | rfl | rfl
  ·exact ⟨((s1.alloc _).alloc _).alloc _, Nat.le_refl _⟩
  ·exact ⟨(s2.alloc _).alloc _, Nat.le_refl _⟩
  ·exact ⟨s3.alloc _, Nat.le_refl _⟩
 ·exact ((((Below.refl _ w).alloc nL _).alloc (by omega) _).alloc (by omega) _).alloc (by omega) _
theorem three_own (w : World) : Calls Tryz.prog 6 #[] w fun e w' => ∃ A, e = .returned (.slice A 3 3) ∧ Own strE 9 w.heap.size w' (.slice A 3 3) three ∧ Below w.heap.size w w' := by
 go_enter Tryz.func6, Tryz.ntmps6
 go_wp2
 go_ret;exact ⟨_, rfl, Own.ofBlk (E := strE) (xs := three) (Blk.new w 9 _) nL (by decide), rB.alloc nL _⟩
theorem sl_blk {α : Type} {E : Enc α} {x : World} {g : Nat} {t : TypeId} {cs : Array Value} {xs : List α} (h : Blk x g t cs) (hc : (xs.flatMap E.cells).toArray = cs) (hm : xs.length ≤ maxLen) : Sl E x (some ⟨g, 0, none⟩) xs := by
 subst hc;exact (Own.ofBlk (E := E) (B := 0) h (Nat.zero_le _) hm).sl
theorem sl_head {x : World} {g : Nat} {s : ByteArray} (h : Sl strE x (some ⟨g, 0, none⟩) [s]) : g < x.heap.size ∧ x.cell? ⟨g, 0, none⟩ = some (.string s) := by
 obtain ⟨b, off, hA, hb, hc⟩ := h (by simp);injection hA with hA;injection hA with e1 e2;subst e1 e2;exact ⟨hb, by simpa using hc 0 s rfl 0 (.string s) rfl⟩
theorem app_at {B : Nat} {x : World} {A : Option Addr} {c k : Nat} {xs : List ByteArray} (hown : Own strE 9 B x (.slice A k c) xs) (hk : xs.length = k) (hB : B ≤ x.heap.size) {A2 : Option Addr} {ys : List ByteArray} (hy : Sl strE x A2 ys) {m : Nat} (hm : ys.length = m) (hm0 : 0 < m) (d2 : Nat) (hl : k + m ≤ 100000) (ty : TypeId) {n : Nat} (hn : k + m = n) :
  ∃ A' c' w', (Builtin.append_ #[23, 23] ty #[.slice A k c, .slice A2 m d2]).run Tryz.prog x = .ok (.slice A' n c') w' ∧ n ≤ c' ∧ (∃ zs, zs.length = n ∧ Sl strE w' A' zs) ∧ KeepS B x w' := by
 subst hk hm hn;obtain ⟨A', c', w', h1, h2, h3⟩ := app_strs hown hB hy (fun e => by rw [e] at hm0; simp at hm0) d2 hl ty;obtain ⟨_, _, e1, e2, _⟩ := h2.form;injection e1 with _ _ e1;subst e1;rw [List.length_append] at e2;exact ⟨A', c', w', h1, e2, ⟨xs ++ ys, List.length_append, h2.sl⟩, h3⟩
end Fl
end
section
namespace Fl
open Go.RowKit Go.ChangeShapes
theorem rows_made (w : World) : ∃ rs : List (Rw Int), Sl (rwE Int) ((((w.alloc (.cells #[iv 0, iv 0, iv 0] 3)).alloc (.cells #[iv 1, iv 0, iv 0] 3)).alloc (.cells #[iv 0, iv 2, iv 2] 3)).alloc (.cells #[.slice (some ⟨w.heap.size, 0, none⟩) 3 3, .slice (some ⟨w.heap.size + 1, 0, none⟩) 3 3, .slice (some ⟨w.heap.size + 1 + 1, 0, none⟩) 3 3] 31)) (some ⟨w.heap.size + 1 + 1 + 1, 0, none⟩) rs ∧
  RowsR intE ((((w.alloc (.cells #[iv 0, iv 0, iv 0] 3)).alloc (.cells #[iv 1, iv 0, iv 0] 3)).alloc (.cells #[iv 0, iv 2, iv 2] 3)).alloc (.cells #[.slice (some ⟨w.heap.size, 0, none⟩) 3 3, .slice (some ⟨w.heap.size + 1, 0, none⟩) 3 3, .slice (some ⟨w.heap.size + 1 + 1, 0, none⟩) 3 3] 31)) rs ∧
  rs.map Rw.xs = rows0 ∧ Below w.heap.size w ((((w.alloc (.cells #[iv 0, iv 0, iv 0] 3)).alloc (.cells #[iv 1, iv 0, iv 0] 3)).alloc (.cells #[iv 0, iv 2, iv 2] 3)).alloc (.cells #[.slice (some ⟨w.heap.size, 0, none⟩) 3 3, .slice (some ⟨w.heap.size + 1, 0, none⟩) 3 3, .slice (some ⟨w.heap.size + 1 + 1, 0, none⟩) 3 3] 31)) := by
 have z1 : (w.alloc (.cells #[iv 0, iv 0, iv 0] 3)).heap.size = w.heap.size + 1 := by simp
 have z2 : ((w.alloc (.cells #[iv 0, iv 0, iv 0] 3)).alloc (.cells #[iv 1, iv 0, iv 0] 3)).heap.size = w.heap.size + 1 + 1 := by simp
 have z3 : (((w.alloc (.cells #[iv 0, iv 0, iv 0] 3)).alloc (.cells #[iv 1, iv 0, iv 0] 3)).alloc (.cells #[iv 0, iv 2, iv 2] 3)).heap.size = w.heap.size + 1 + 1 + 1 := by simp
 have s1 := Sl.fresh intE w 3 #[iv 0, iv 0, iv 0] [0, 0, 0] rfl (by decide);have s2 := Sl.fresh intE (w.alloc (.cells #[iv 0, iv 0, iv 0] 3)) 3 #[iv 1, iv 0, iv 0] [1, 0, 0] rfl (by decide);have s3 := Sl.fresh intE ((w.alloc (.cells #[iv 0, iv 0, iv 0] 3)).alloc (.cells #[iv 1, iv 0, iv 0] 3)) 3 #[iv 0, iv 2, iv 2] [0, 2, 2] rfl (by decide);rw [z1] at s2;rw [z2] at s3;refine ⟨[⟨some ⟨w.heap.size, 0, none⟩, 3, [0, 0, 0]⟩, ⟨some ⟨w.heap.size + 1, 0, none⟩, 3, [1, 0, 0]⟩, ⟨some ⟨w.heap.size + 1 + 1, 0, none⟩, 3, [0, 2, 2]⟩], ?_, ?_, rfl, ?_⟩
 ·have := Sl.fresh (rwE Int) (((w.alloc (.cells #[iv 0, iv 0, iv 0] 3)).alloc (.cells #[iv 1, iv 0, iv 0] 3)).alloc (.cells #[iv 0, iv 2, iv 2] 3)) 31 #[.slice (some ⟨w.heap.size, 0, none⟩) 3 3, .slice (some ⟨w.heap.size + 1, 0, none⟩) 3 3, .slice (some ⟨w.heap.size + 1 + 1, 0, none⟩) 3 3] [⟨some ⟨w.heap.size, 0, none⟩, 3, [0, 0, 0]⟩, ⟨some ⟨w.heap.size + 1, 0, none⟩, 3, [1, 0, 0]⟩, ⟨some ⟨w.heap.size + 1 + 1, 0, none⟩, 3, [0, 2, 2]⟩] rfl (by simp [maxLen]);rw [z3] at this;exact this
 ·intro r hr;simp only [List.mem_cons, List.not_mem_nil, or_false] at hr
  rcases hr with rfl | rfl | rfl
  ·exact ⟨((s1.alloc _).alloc _).alloc _, Nat.le_refl _⟩
  ·exact ⟨(s2.alloc _).alloc _, Nat.le_refl _⟩
  ·exact ⟨s3.alloc _, Nat.le_refl _⟩
 ·exact ((((Below.refl _ w).alloc nL _).alloc (by omega) _).alloc (by omega) _).alloc (by omega) _
theorem eds_made (w : World) : ∃ vs : List EdV, vs.length = 2 ∧ Sl edE (((w.alloc (.cells #[.string ⟨#[114, 101, 100, 32, 51]⟩] 9)).alloc (.cells #[.string ⟨#[103, 111, 108, 100]⟩] 9)).alloc (.cells #[iv 0, .slice (some ⟨w.heap.size, 0, none⟩) 1 1, .slice none 0 0, iv 3, .slice none 0 0, .slice (some ⟨w.heap.size + 1, 0, none⟩) 1 1] 36)) (some ⟨w.heap.size + 1 + 1, 0, none⟩) vs ∧
  (∀ r ∈ vs, EdOk (((w.alloc (.cells #[.string ⟨#[114, 101, 100, 32, 51]⟩] 9)).alloc (.cells #[.string ⟨#[103, 111, 108, 100]⟩] 9)).alloc (.cells #[iv 0, .slice (some ⟨w.heap.size, 0, none⟩) 1 1, .slice none 0 0, iv 3, .slice none 0 0, .slice (some ⟨w.heap.size + 1, 0, none⟩) 1 1] 36)) r ∧ r.old.length ≤ big ∧ r.new.length ≤ big) ∧
  vs.map EdV.ed = [⟨0, [⟨#[114, 101, 100, 32, 51]⟩], []⟩, ⟨3, [], [⟨#[103, 111, 108, 100]⟩]⟩] ∧ Below w.heap.size w (((w.alloc (.cells #[.string ⟨#[114, 101, 100, 32, 51]⟩] 9)).alloc (.cells #[.string ⟨#[103, 111, 108, 100]⟩] 9)).alloc (.cells #[iv 0, .slice (some ⟨w.heap.size, 0, none⟩) 1 1, .slice none 0 0, iv 3, .slice none 0 0, .slice (some ⟨w.heap.size + 1, 0, none⟩) 1 1] 36)) := by
 have z1 : (w.alloc (.cells #[.string ⟨#[114, 101, 100, 32, 51]⟩] 9)).heap.size = w.heap.size + 1 := by simp
 have z2 : ((w.alloc (.cells #[.string ⟨#[114, 101, 100, 32, 51]⟩] 9)).alloc (.cells #[.string ⟨#[103, 111, 108, 100]⟩] 9)).heap.size = w.heap.size + 1 + 1 := by simp
 have s1 := Sl.fresh strE w 9 #[.string ⟨#[114, 101, 100, 32, 51]⟩] [⟨#[114, 101, 100, 32, 51]⟩] rfl (by decide);have s2 := Sl.fresh strE (w.alloc (.cells #[.string ⟨#[114, 101, 100, 32, 51]⟩] 9)) 9 #[.string ⟨#[103, 111, 108, 100]⟩] [⟨#[103, 111, 108, 100]⟩] rfl (by decide);rw [z1] at s2;refine ⟨[⟨0, some ⟨w.heap.size, 0, none⟩, 1, [⟨#[114, 101, 100, 32, 51]⟩], none, 0, []⟩, ⟨3, none, 0, [], some ⟨w.heap.size + 1, 0, none⟩, 1, [⟨#[103, 111, 108, 100]⟩]⟩], rfl, ?_, ?_, rfl, ?_⟩
 ·have := Sl.fresh edE ((w.alloc (.cells #[.string ⟨#[114, 101, 100, 32, 51]⟩] 9)).alloc (.cells #[.string ⟨#[103, 111, 108, 100]⟩] 9)) 36 #[iv 0, .slice (some ⟨w.heap.size, 0, none⟩) 1 1, .slice none 0 0, iv 3, .slice none 0 0, .slice (some ⟨w.heap.size + 1, 0, none⟩) 1 1] [⟨0, some ⟨w.heap.size, 0, none⟩, 1, [⟨#[114, 101, 100, 32, 51]⟩], none, 0, []⟩, ⟨3, none, 0, [], some ⟨w.heap.size + 1, 0, none⟩, 1, [⟨#[103, 111, 108, 100]⟩]⟩] rfl (by simp [maxLen]);rw [z2] at this;exact this
 ·intro r hr;simp only [List.mem_cons, List.not_mem_nil, or_false] at hr
  rcases hr with rfl | rfl
  ·exact ⟨⟨(s1.alloc _).alloc _, Sl.nil, Nat.le_refl _, Nat.le_refl _⟩, by simp [big], by simp [big]⟩
  ·exact ⟨⟨Sl.nil, s2.alloc _, Nat.le_refl _, Nat.le_refl _⟩, by simp [big], by simp [big]⟩
 ·exact (((Below.refl _ w).alloc nL _).alloc (by omega) _).alloc (by omega) _
theorem eqRatio (w : World) : (Op.equalIn 10000 67 (.agg #[iv 2, iv 3]) (.agg #[iv 2, iv 3])).run Tryz.prog w = .ok true w := by kernel_rfl
set_option maxHeartbeats 4000000 in
theorem awake_spec (w : World) (ht : Tab w) : Calls Tryz.prog 20 #[] w fun e w' => e = .returned (.bool true) ∧ Below w.heap.size w w' := by
 have HT := lH ht;clear ht
 go_enter Tryz.func20, Tryz.ntmps20
 (go_wp2_with fail);refine (three_spec _).mono ?_;rintro e w1 ⟨A1, rfl, hA1, hb1⟩;(go_wp2_with fail);refine (print3 A1 w1 hA1 (HT.out.below hb1)).mono ?_;rintro e w2 ⟨rfl, hb2⟩;have hB2 := hb1.next hb2 nL;clear hA1 hb1 hb2;(go_wp2_with fail);refine (parse28 w2 (HT.out.below hB2)).mono ?_;rintro e w3 ⟨v3, rfl, hb3⟩;have hB3 := hB2.next hb3 nL;clear hB2 hb3;(go_wp2_with fail);refine (three_spec _).mono ?_;rintro e w4 ⟨A4, rfl, hA4, hb4⟩;(go_wp2_with fail);refine (gold_spec _).mono ?_;rintro e w5 ⟨A5, rfl, hA5, hb5⟩;have hB5 := (hB3.next hb4 nL).next hb5 nL;have hA4' := hA4.below hb5;clear hA4 hb4 hb5 hB3;(go_wp2_with fail);refine (diffTG A4 A5 w5 hA4' hA5).mono ?_;rintro e w6 ⟨C6, d6, vs, rfl, hC6, hok6, hvs, hb6⟩;have HVS := lH hvs;have hB6 := lH (hB5.next hb6 nL);clear hB5 hb6 hvs;(go_wp2_with fail);refine (three_spec _).mono ?_
 rintro e w7 ⟨A7, rfl, hA7, hb7⟩;(go_wp2_with fail);refine (gold_spec _).mono ?_;rintro e w8 ⟨A8, rfl, hA8, hb8⟩;have hB68 := hb7.next hb8 nL;have hA78 := hA7.below hb8;clear hA7 hb7 hb8;obtain ⟨rs, hsr, hrr, hrx, hx8⟩ := rows_made w8;(go_wp2_with fail);generalize (((w8.alloc (.cells #[iv 0, iv 0, iv 0] 3)).alloc (.cells #[iv 1, iv 0, iv 0] 3)).alloc (.cells #[iv 0, iv 2, iv 2] 3)).alloc (.cells #[.slice (some ⟨w8.heap.size, 0, none⟩) 3 3, .slice (some ⟨w8.heap.size + 1, 0, none⟩) 3 3, .slice (some ⟨w8.heap.size + 1 + 1, 0, none⟩) 3 3] 31) = wx at *;refine (boundTG A7 A8 _ rs wx (hA78.below hx8) (hA8.below hx8) hsr hrr hrx).mono ?_;rintro e w9 ⟨rfl, hb9⟩;have hB69 := (hB68.next hx8 nL).next hb9 nL;clear hA78 hA8 hsr hrr hrx hx8 hb9 hB68;(go_wp2_with fail);refine (three_spec _).mono ?_;rintro e wa ⟨Aa, rfl, hAa, hba⟩;(go_wp2_with fail);refine (gold_spec _).mono ?_
 rintro e wb ⟨Ab, rfl, hAb, hbb⟩;have hAa' := hAa.below hbb;have hB6b := (hB69.next hba nL).next hbb nL;clear hAa hba hbb hB69;(go_wp2_with fail);refine (alikeTG Aa Ab wb hAa' hAb).mono ?_;rintro e wc ⟨rfl, hbc⟩;have hB6c := hB6b.next hbc nL;clear hAa' hAb hbc hB6b;have hRd : Blk (wc.alloc (.cells #[iv 2, iv 3] 67)) wc.heap.size 67 #[iv 2, iv 3] := Blk.new _ _ _;have hRb : Below wc.heap.size wc (wc.alloc (.cells #[iv 2, iv 3] 67)) := rB.alloc nL _
 go_upto_region 6 with fail
 generalize wc.alloc (.cells #[iv 2, iv 3] 67) = wd at *;have hB6d := hB6c.next hRb nL;clear hRb hB6c;(go_wp2_with fail);refine (three_spec _).mono ?_;rintro e we ⟨Ae, rfl, hAe, hbe⟩;have hRe := hRd.under hbe;have hB6e := hB6d.next hbe nL;clear hRd hbe hB6d;have hm1 := Sl.fresh strE we 9 #[.string ⟨#[114, 101, 100, 32, 52]⟩, .string ⟨#[98, 108, 117, 101, 32, 50]⟩, .string ⟨#[103, 111, 108, 100]⟩] mineJ rfl (by decide);have hm2 := Sl.fresh strE (we.alloc (.cells #[.string ⟨#[114, 101, 100, 32, 52]⟩, .string ⟨#[98, 108, 117, 101, 32, 50]⟩, .string ⟨#[103, 111, 108, 100]⟩] 9)) 9 #[.string ⟨#[114, 101, 100, 32, 51]⟩, .string ⟨#[103, 114, 101, 121]⟩, .string ⟨#[98, 108, 117, 101, 32, 50]⟩, .string ⟨#[103, 111, 108, 100]⟩] yourJ rfl (by decide);have hbm : Below we.heap.size we ((we.alloc (.cells #[.string ⟨#[114, 101, 100, 32, 52]⟩, .string ⟨#[98, 108, 117, 101, 32, 50]⟩, .string ⟨#[103, 111, 108, 100]⟩] 9)).alloc (.cells #[.string ⟨#[114, 101, 100, 32, 51]⟩, .string ⟨#[103, 114, 101, 121]⟩, .string ⟨#[98, 108, 117, 101, 32, 50]⟩, .string ⟨#[103, 111, 108, 100]⟩] 9)) := (rB.alloc nL _).alloc (by simp) _
 have hm1' := hm1.alloc (.cells #[.string ⟨#[114, 101, 100, 32, 51]⟩, .string ⟨#[103, 114, 101, 121]⟩, .string ⟨#[98, 108, 117, 101, 32, 50]⟩, .string ⟨#[103, 111, 108, 100]⟩] 9);rw [show (we.alloc (.cells #[.string ⟨#[114, 101, 100, 32, 52]⟩, .string ⟨#[98, 108, 117, 101, 32, 50]⟩, .string ⟨#[103, 111, 108, 100]⟩] 9)).heap.size = we.heap.size + 1 by simp] at hm2;clear hm1;(go_wp2_with fail);generalize (we.alloc (.cells #[.string ⟨#[114, 101, 100, 32, 52]⟩, .string ⟨#[98, 108, 117, 101, 32, 50]⟩, .string ⟨#[103, 111, 108, 100]⟩] 9)).alloc (.cells #[.string ⟨#[114, 101, 100, 32, 51]⟩, .string ⟨#[103, 114, 101, 121]⟩, .string ⟨#[98, 108, 117, 101, 32, 50]⟩, .string ⟨#[103, 111, 108, 100]⟩] 9) = wf at *;refine (joinTG Ae _ _ wf (hAe.below hbm) hm1' hm2).mono ?_;rintro e wg ⟨Cg, dg, Cg', dg', rfl, hCg, hCg', hbg⟩;have hRg := (hRe.under hbm).under hbg;have hB6g := (hB6e.next hbm nL).next hbg nL
 clear hAe hm1' hm2 hbm hRe hbg hB6e;have hRc0 := hRg.cell 0;have hRc1 := hRg.cell 1;have hRl := hRg.lt;(go_wp2_with fail);obtain ⟨vy, hvl, hvy, hoky, hvye, hby⟩ := eds_made wg;have hokg : ∀ r ∈ vs, EdOk wg r ∧ r.old.length ≤ big ∧ r.new.length ≤ big := fun r hr => ⟨(hok6 r hr).1.below hB6g, (hok6 r hr).2⟩
 have hC6g := hC6.below hB6g;have hvsl : vs.length ≤ big := by have := congrArg List.length HVS.out; rw [List.length_map] at this; rw [this]; decide
 generalize ((wg.alloc (.cells #[.string ⟨#[114, 101, 100, 32, 51]⟩] 9)).alloc (.cells #[.string ⟨#[103, 111, 108, 100]⟩] 9)).alloc (.cells #[iv 0, .slice (some ⟨wg.heap.size, 0, none⟩) 1 1, .slice none 0 0, iv 3, .slice none 0 0, .slice (some ⟨wg.heap.size + 1, 0, none⟩) 1 1] 36) = wh at *;have hsm := same_spec C6 vs d6 (some ⟨wg.heap.size + 1 + 1, 0, none⟩) vy 2 wh hvsl (hC6g.below hby) (by rw [hvl]; decide) hvy (fun r hr => ⟨(hokg r hr).1.below hby, (hokg r hr).2⟩) hoky;rw [decide_eq_true (HVS.out.trans hvye.symm), hvl] at hsm;refine hsm.mono ?_;rintro e wi ⟨rfl, hbi⟩;have hgi := hby.next hbi nL;have hRi := hRg.under hgi;have hCi := hCg.below hgi;have hCi' := hCg'.below hgi;have hB6i := hB6g.next hgi nL;clear hsm hvy hoky hvye hby hokg hC6g hvsl hbi hgi hRg hCg hCg' hB6g hRc0 hRc1 hRl hok6 hC6;have hRc0 := hRi.cell 0;have hRc1 := hRi.cell 1;have hRl := hRi.lt
 have heqr := eqRatio;(go_wp2_with fail);refine (three_spec _).mono ?_;rintro e wj ⟨Aj, rfl, hAj, hbj⟩;have hCj := hCi.below hbj;have hCj' := hCi'.below hbj;have hB6j := hB6i.next hbj nL;clear hCi hCi' hRi hbj hB6i hRc0 hRc1 hRl;have heqs := equalS Cg three dg Aj three 3 wj (by decide) hCj (by decide) hAj;rw [decide_eq_true rfl] at heqs;(go_wp2_with fail);refine heqs.mono ?_;rintro e wk ⟨rfl, hbk⟩;have hCk' := hCj'.below hbk;have hB6k := hB6j.next hbk nL;clear hCj hCj' hAj hbk heqs hB6j;have hsp := Sl.fresh pairE wk 103 #[iv 0, iv 1] [(0, 1)] rfl (by decide);have hbl : Below wk.heap.size wk (wk.alloc (.cells #[iv 0, iv 1] 103)) := rB.alloc nL _;(go_wp2_with fail);generalize wk.alloc (.cells #[iv 0, iv 1] 103) = wl at *;have heqp := eqSp Cg' [(0, 1)] dg' (some ⟨wk.heap.size, 0, none⟩) [(0, 1)] 1 wl (by decide) (hCk'.below hbl) (by decide) hsp
 rw [decide_eq_true rfl] at heqp;refine heqp.mono ?_;rintro e wm ⟨rfl, hbm⟩;(go_wp2_with fail);go_ret;exact ⟨rfl, hB6.out.next ((hB6k.next hbl nL).next hbm nL) nL⟩
end Fl
end
end Go.Proofs.YtblgkmdadholmabGreatDoor
section
namespace Go.Proofs.YtblgkmdadholmabGreatDoor
namespace Fl
open Go.RowKit
set_option maxHeartbeats 1000000 in
theorem rlines_spec (A : Option Addr) (l : List ByteArray) (c : Nat) (w : World) (hm : l.length ≤ big) (hs : Sl strE w A l) :
  Calls Tryz.prog 87 #[.slice A l.length c] w fun e w' => e = .returned (iv (File.lined l)) ∧ Below w.heap.size w w' := by
 unfold big at hm
 go_enter Tryz.func87, Tryz.ntmps87
 (go_wp2_with fail)
 go_loopw [3] (fun i wr => ∃ k : Nat, k ≤ l.length ∧ i = iv k ∧ Hid ((l.drop k).all File.wide = l.all File.wide) ∧ Below w.heap.size w wr) (fun i _ => l.length - (intOf i).toNat)
 case atStart => exact ⟨0, by omega, rfl, rfl, (by first | assumption | exact rB)⟩
 case round =>
  obtain ⟨k, hk, rfl, hr, hbw⟩ := hrel
  by_cases hlt : k < l.length
  ·have hki : (k : Int) < (l.length : Int) := (by omega);obtain ⟨b, off, x, rfl, hb, hx, hc0⟩ := Sl.atS (hs.below hbw) hlt;have hr' := hr.out;rw [drop_at hx, List.all_cons] at hr'
   by_cases h40 : 40 < x.size
   ·have h40i : (40 : Int) < (x.size : Int) := (by omega)
    have HN : Hid (File.lined l = 10) := lH (by
     have : File.wide x = false := by simp only [File.wide, decide_eq_false_iff_not]; omega
     rw [this, Bool.false_and] at hr';unfold File.lined; rw [← hr']; rfl)
    clear hr hr' hx h40;(go_wp2_with fail);go_ret;exact ⟨ret_eq (by rw [HN.out]; rfl), (by assumption)⟩
   ·have h40i : ¬ (40 : Int) < (x.size : Int) := (by omega)
    have HN : Hid ((l.drop (k + 1)).all File.wide = l.all File.wide) := lH (by
     have : File.wide x = true := by simp only [File.wide, decide_eq_true_eq]; omega
     rw [this, Bool.true_and] at hr';exact hr')
    clear hr hr' hx h40;(go_wp2_with fail);go_roundw
    case rel => exact ⟨k + 1, by omega, by go_num, HN, (by assumption)⟩
    case measure => simp [intOf]; omega
  ·have hki : ¬ (k : Int) < (l.length : Int) := (by omega);have hr' := hr.out;rw [drop_end hlt] at hr';have HL : Hid (File.lined l = if l.all File.okLine then 0 else 11) := lH (by unfold File.lined; rw [← hr']; rfl)
   have HW : Hid (∀ s ∈ l, s.size ≤ 40) := lH fun s hs => by
    have := List.all_eq_true.1 hr'.symm s hs;simp only [File.wide, decide_eq_true_eq] at this;omega
   clear hr hr';(go_wp2_with fail)
   go_loopw [4, 5] (fun i _ wr => ∃ k : Nat, k ≤ l.length ∧ i = iv k ∧ Hid ((l.drop k).all File.okLine = l.all File.okLine) ∧ Below w.heap.size w wr) (fun i _ _ => l.length - (intOf i).toNat)
   case atStart => exact ⟨0, by omega, rfl, rfl, (by first | assumption | exact rB)⟩
   case round =>
    obtain ⟨k, hk, rfl, hr, hbw⟩ := hrel
    by_cases hlt : k < l.length
    ·have hki : (k : Int) < (l.length : Int) := (by omega);obtain ⟨b, off, x, rfl, hb, hx, hc0⟩ := Sl.atS (hs.below hbw) hlt;have hr' := hr.out;rw [drop_at hx, List.all_cons] at hr';have HR := lH hr';have hx40 := HW.out x (mem_at hx)
     have HCX : Hid (∀ W, Below w.heap.size w W → W.cell? ⟨b, off + k, none⟩ = some (.string x)) := lH fun W hW => by
      obtain ⟨b', off', x', hA, _, hx', hc'⟩ := Sl.atS (hs.below hW) hlt
      cases hA
      rw [hx] at hx'; cases hx'; exact hc'
     clear hr hr' hx;(go_wp2_with fail)
     go_loopw [5] (fun i wx => ∃ q : Nat, q ≤ x.size ∧ i = iv q ∧ Hid (((File.bts x).drop q).all File.okB = File.okLine x) ∧ Below w.heap.size w wx) (fun i _ => x.size - (intOf i).toNat)
     case atStart => exact ⟨0, Nat.zero_le _, rfl, rfl, (by first | assumption | exact rB)⟩
     case round =>
      obtain ⟨q, hq, rfl, hr, hbw2⟩ := hrel;have hc0 := HCX.out _ hbw2
      by_cases hp : q < x.size
      ·have hqi : (q : Int) < (x.size : Int) := (by omega);have hr' := hr.out;rw [bts_drop hp, List.all_cons] at hr';have HQ := lH hr';clear hr hr';generalize hv : (x[q]'hp).toNat = v at *
       by_cases h32 : v < 32
       ·have h32i : (v : Int) < 32 := (by omega);have hno : File.okB (x[q]'hp) = false := by simp [File.okB, hv]; omega
        have HN : Hid (File.lined l = 11) := lH (by
         have h1 := HQ.out;rw [hno, Bool.false_and] at h1;have h2 := HR.out;rw [← h1, Bool.false_and] at h2;rw [HL.out, ← h2]; rfl)
        clear hno;(go_wp2_with fail);go_ret;exact ⟨ret_eq (by rw [HN.out]; rfl), (by assumption)⟩
       ·by_cases h126 : 126 < v
        ·have h32i : ¬ (v : Int) < 32 := (by omega);have h126i : (126 : Int) < (v : Int) := (by omega);have hno : File.okB (x[q]'hp) = false := by simp [File.okB, hv]; omega
         have HN : Hid (File.lined l = 11) := lH (by
          have h1 := HQ.out;rw [hno, Bool.false_and] at h1;have h2 := HR.out;rw [← h1, Bool.false_and] at h2;rw [HL.out, ← h2]; rfl)
         clear hno;(go_wp2_with fail);go_ret;exact ⟨ret_eq (by rw [HN.out]; rfl), (by assumption)⟩
        ·have h32i : ¬ (v : Int) < 32 := (by omega);have h126i : ¬ (126 : Int) < (v : Int) := (by omega);have hyes : File.okB (x[q]'hp) = true := by simp [File.okB, hv]; omega
         have HN : Hid (((File.bts x).drop (q + 1)).all File.okB = File.okLine x) := lH (by have h1 := HQ.out; rw [hyes, Bool.true_and] at h1; exact h1);clear hyes;(go_wp2_with fail);go_roundw
         case rel => exact ⟨q + 1, hp, by go_num, HN, (by assumption)⟩
         case measure => simp [intOf]; omega
      ·have hqi : ¬ (q : Int) < (x.size : Int) := (by omega);have hr' := hr.out;rw [bts_end hp] at hr';have HQ : Hid (File.okLine x = true) := lH hr'.symm;clear hr hr';(go_wp2_with fail);go_roundw
       case rel => exact ⟨k + 1, by omega, by go_num, lH (by have := HR.out; rw [HQ.out, Bool.true_and] at this; exact this), (by assumption)⟩
       case measure => simp [intOf]; omega
    ·have hki : ¬ (k : Int) < (l.length : Int) := (by omega);have hr' := hr.out;rw [drop_end hlt] at hr';have HN : Hid (File.lined l = 0) := lH (by rw [HL.out, ← hr']; rfl);clear hr hr';(go_wp2_with fail);go_ret;exact ⟨ret_eq (by rw [HN.out]; rfl), (by assumption)⟩
theorem rcheck_spec (A : Option Addr) (l : List ByteArray) (c : Nat) (w : World) (hm : l.length ≤ big) (hs : Sl strE w A l) :
  Calls Tryz.prog 33 #[.slice A l.length c] w fun e w' => e = .returned (iv (File.check l)) ∧ Below w.heap.size w w' := by
 have HL := lH (rlines_spec A l c w hm hs)
 by_cases h : 24 < l.length
 ·have hi : (24 : Int) < (l.length : Int) := (by omega)
  go_enter Tryz.func33, Tryz.ntmps33
  (go_wp2_with fail);go_ret;exact ⟨ret_eq (by unfold File.check; rw [if_pos h]; rfl), rB⟩
 ·have hi : ¬ (24 : Int) < (l.length : Int) := (by omega)
  go_enter Tryz.func33, Tryz.ntmps33
  go_wp2_with (go_at_call 87; refine HL.out.mono ?_; rintro e w1 ⟨rfl, hb1⟩)
  go_ret;exact ⟨ret_eq (by unfold File.check; rw [if_neg h]; rfl), hb1⟩
set_option maxHeartbeats 1000000 in
theorem rsum_spec (A : Option Addr) (l : List ByteArray) (c : Nat) (w : World) (hm : l.length ≤ 24) (hw : ∀ s ∈ l, s.size ≤ 40) (hs : Sl strE w A l) :
  Calls Tryz.prog 23 #[.slice A l.length c] w fun e w' => e = .returned (iv (File.sum l)) ∧ Below w.heap.size w w' := by
 have HW := lH hw;clear hw
 go_enter Tryz.func23, Tryz.ntmps23
 (go_wp2_with fail)
 go_loopw [3, 4, 5] (fun n i _ wr => ∃ (k : Nat) (m : Int), k ≤ l.length ∧ i = iv k ∧ n = iv m ∧ Hid ((m + File.sumFrom k (l.drop k)) % 9973 = File.sum l) ∧ 0 ≤ m ∧ m < 9973 ∧ Below w.heap.size w wr) (fun _ i _ _ => l.length - (intOf i).toNat)
 case atStart => exact ⟨0, 0, by omega, rfl, rfl, lH (by simp [File.sum]), by omega, by omega, rB⟩
 case round =>
  obtain ⟨k, m, hk, rfl, rfl, hr, hm0, hm1, hbw⟩ := hrel
  by_cases hlt : k < l.length
  ·have hki : (k : Int) < (l.length : Int) := (by omega);obtain ⟨b, off, x, rfl, hb, hx, hc0⟩ := Sl.atS (hs.below hbw) hlt;have hr' := hr.out;rw [drop_at hx] at hr';simp only [File.sumFrom] at hr';have HR := lH hr';have hx40 := HW.out x (mem_at hx)
   have HCX : Hid (∀ W, Below w.heap.size w W → W.cell? ⟨b, off + k, none⟩ = some (.string x)) := lH fun W hW => by
    obtain ⟨b', off', x', hA, _, hx', hc'⟩ := Sl.atS (hs.below hW) hlt
    cases hA
    rw [hx] at hx'; cases hx'; exact hc'
   have hk24 : k < 24 := (by omega);clear hx hr hr';(go_wp2_with fail)
   go_loopw [3, 5] (fun n i wx => ∃ (q : Nat) (z : Int), q ≤ x.size ∧ i = iv q ∧ n = iv z ∧ Hid ((z + File.lineSum k ((File.bts x).drop q)) % 9973 = (m + File.lineSum k (File.bts x)) % 9973) ∧ 0 ≤ z ∧ z < 9973 ∧ Below w.heap.size w wx) (fun _ i _ => x.size - (intOf i).toNat)
   case atStart => exact ⟨0, m, Nat.zero_le _, rfl, rfl, rfl, hm0, hm1, hbw⟩
   case round =>
    obtain ⟨q, z, hq, rfl, rfl, hr, hz0, hz1, hbw2⟩ := hrel;have hc0 := HCX.out _ hbw2
    by_cases hp : q < x.size
    ·have hqi : (q : Int) < (x.size : Int) := (by omega);have hr' := hr.out;rw [bts_drop hp] at hr';simp only [File.lineSum] at hr';have hv255 : (x[q]'hp).toNat ≤ 255 := by have := (x[q]'hp).toNat_lt; omega
     generalize hv : (x[q]'hp).toNat = v at *;have hv0 : (0 : Int) ≤ (v : Int) := (by omega);have hv1 : (v : Int) ≤ 255 := (by omega);have hp0 : 0 ≤ ((k : Int) + 1) * (v : Int) := Int.mul_nonneg (by omega) hv0;have hp1 : ((k : Int) + 1) * (v : Int) ≤ 24 * 255 := Int.mul_le_mul (by omega) hv1 hv0 (by omega);have e1 : IntKind.i64.wrap (((k : Int) + 1) * (v : Int)) = ((k : Int) + 1) * (v : Int) := IntWalk.i64_in _ (by omega);have e2 : IntKind.i64.wrap (z + ((k : Int) + 1) * (v : Int)) = z + ((k : Int) + 1) * (v : Int) := IntWalk.i64_in _ (by omega);have e3 : Int.tmod (z + ((k : Int) + 1) * (v : Int)) 9973 = (z + ((k : Int) + 1) * (v : Int)) % 9973 := Int.tmod_eq_emod_of_nonneg (by omega);have e4 : IntKind.i64.wrap (v : Int) = (v : Int) := IntWalk.i64_in _ (by omega);obtain ⟨z', hz'⟩ : ∃ z', z' = (z + ((k : Int) + 1) * (v : Int)) % 9973 := ⟨_, rfl⟩;have hz3 : 0 ≤ z' ∧ z' < 9973 := (by omega)
     have HQ : Hid ((z' + File.lineSum k ((File.bts x).drop (q + 1))) % 9973 = (m + File.lineSum k (File.bts x)) % 9973) := lH (by
      rw [← hr', hz', Int.emod_add_emod, Int.add_assoc])
     rw [← hz'] at e3;clear hr hr' hz' hv0 hv1 hv255;(go_wp2_with fail);go_roundw
     case rel => exact ⟨q + 1, z', hp, by go_num, by go_num, HQ, hz3.1, hz3.2, (by assumption)⟩
     case measure => simp [intOf]; omega
    ·have hqi : ¬ (q : Int) < (x.size : Int) := (by omega);have hr' := hr.out;rw [bts_end hp] at hr';simp only [File.lineSum, Int.add_zero] at hr';have HQ := lH hr';clear hr hr';(go_wp2_with fail);go_roundw
     case rel => exact ⟨k + 1, z, by omega, by go_num, rfl, lH (by
      rw [← HR.out, ← Int.add_assoc, ← Int.emod_add_emod (m + _), ← HQ.out, Int.emod_add_emod]), hz0, hz1, (by assumption)⟩
     case measure => simp [intOf]; omega
  ·have hki : ¬ (k : Int) < (l.length : Int) := (by omega);have hr' := hr.out;rw [drop_end hlt] at hr';simp only [File.sumFrom, Int.add_zero] at hr';have HN : Hid (File.sum l = m) := lH (by rw [← hr']; exact Int.emod_eq_of_lt hm0 hm1);clear hr hr';(go_wp2_with fail);go_ret;exact ⟨ret_eq (by rw [HN.out]; rfl), (by assumption)⟩
theorem feed_spec (w : World) : Calls Tryz.prog 22 #[] w fun e w' => e = .returned (.string (File.ba [10])) ∧ Below w.heap.size w w' := by
 have hcv := conv_run (c := 1) (Sl.fresh byteE w 5 #[.int .u8 10] [10] rfl (by simp [maxLen]));have hst : strOfNums [10] = File.ba [10] := rfl;rw [hst] at hcv;simp only [List.length_singleton] at hcv
 go_enter Tryz.func22, Tryz.ntmps22
 (go_wp2_with fail);go_ret;exact ⟨rfl, rB.alloc nL _⟩
theorem ba_size' (l : List UInt8) : (File.ba l).size = l.length := by simp [File.ba, ByteArray.size]
theorem dig1 : ∀ n : Fin 10, (⟨#[48, 49, 50, 51, 52, 53, 54, 55, 56, 57]⟩ : ByteArray).extract n.val (n.val + 1) = File.ba [UInt8.ofNat (48 + n.val)] := by decide +kernel
theorem digits_spec : ∀ (n : Nat) (w : World), n < 1000000 → Calls Tryz.prog 21 #[iv (n : Int)] w fun e w' => e = .returned (.string (File.ba (Lib.decDigits n))) ∧ w = w' := by
 intro n
 induction n using Nat.strongRecOn with
 | ind n ih =>
 intro w hn
 by_cases h : n < 10
 ·have hi : (n : Int) < 10 := (by omega);have hd : Lib.decDigits n = [UInt8.ofNat (48 + n)] := Lib.decDigits_one h;have he := dig1 ⟨n, h⟩
  have hrun : ∀ W : World, (Instr.slice 9 (.string ⟨#[48, 49, 50, 51, 52, 53, 54, 55, 56, 57]⟩) (some (iv (n : Int))) (some (iv ((n : Int) + 1))) none).run Tryz.prog W = .ok (.string (File.ba [UInt8.ofNat (48 + n)])) W := fun W => by
   rw [run_slice_string W 9 _ .i64 .i64 (n : Int) ((n : Int) + 1) Tryz.underlying9 (by omega) (by omega) (by show (n : Int) + 1 ≤ 10; omega), ← he];rfl
  rw [hd];clear he;generalize File.ba [UInt8.ofNat (48 + n)] = D at *;have e1 : IntKind.i64.wrap ((n : Int) + 1) = (n : Int) + 1 := IntWalk.i64_in _ (by omega);have z1 : (File.ba (Lib.decDigits (n / 10))).size ≤ 6 := by rw [ba_size']; exact dec_len 5 _ (by omega)
  have z2 : (File.ba (Lib.decDigits (n % 10))).size ≤ 6 := by rw [ba_size']; exact dec_len 5 _ (by omega)
  clear hd ih
  go_enter Tryz.func21, Tryz.ntmps21
  (go_wp2_with fail);go_ret;exact ⟨rfl, rfl⟩
 ·have hi : ¬ (n : Int) < 10 := (by omega);have hq : Int.tdiv (n : Int) 10 = ((n / 10 : Nat) : Int) := by rw [Int.tdiv_eq_ediv_of_nonneg (by omega)]; rfl
  have hr : Int.tmod (n : Int) 10 = ((n % 10 : Nat) : Int) := by rw [Int.tmod_eq_emod_of_nonneg (by omega)]; rfl
  have H1 := lH (fun W => ih (n / 10) (by omega) W (by omega));have H2 := lH (fun W => ih (n % 10) (by omega) W (by omega))
  have hd : Lib.decDigits n = Lib.decDigits (n / 10) ++ Lib.decDigits (n % 10) := by
   rw [Lib.decDigits, dif_neg h, Lib.decDigits_one (Nat.mod_lt _ (by omega))]
  have HD : Hid (File.ba (Lib.decDigits (n / 10)) ++ File.ba (Lib.decDigits (n % 10)) = File.ba (Lib.decDigits n)) := lH (by rw [hd]; exact ba_append _ _);have e1 : IntKind.i64.wrap ((n / 10 : Nat) : Int) = ((n / 10 : Nat) : Int) := IntWalk.i64_in _ (by omega);have z1 : (File.ba (Lib.decDigits (n / 10))).size ≤ 6 := by rw [ba_size']; exact dec_len 5 _ (by omega)
  have z2 : (File.ba (Lib.decDigits (n % 10))).size ≤ 6 := by rw [ba_size']; exact dec_len 5 _ (by omega)
  clear hd ih
  go_enter Tryz.func21, Tryz.ntmps21
  (go_wp2_with fail);refine (H1.out w).mono ?_;rintro e w1 ⟨rfl, rfl⟩;(go_wp2_with fail);refine (H2.out w).mono ?_;rintro e w2 ⟨rfl, rfl⟩;(go_wp2_with fail);go_ret;exact ⟨ret_eq (by rw [HD.out]; rfl), rfl⟩
end Fl
end Go.Proofs.YtblgkmdadholmabGreatDoor
namespace Go.Proofs.YtblgkmdadholmabGreatDoor
namespace Fl
open Go.RowKit
set_option maxHeartbeats 2000000 in
theorem rprint_spec (A : Option Addr) (l : List ByteArray) (c : Nat) (w : World) (hg : Good l) (hs : Sl strE w A l) :
  Calls Tryz.prog 4 #[.slice A l.length c] w fun e w' => e = .returned (.string (File.ba (File.text l))) ∧ Below w.heap.size w w' := by
 have hm := hg.many;have HG := lH hg;clear hg
 go_enter Tryz.func4, Tryz.ntmps4
 (go_wp2_with fail)
 go_loopw [3, 4] (fun v i wr => ∃ (k : Nat) (acc : List UInt8), k ≤ l.length ∧ i = iv k ∧ v = .string (File.ba acc) ∧ Hid (acc ++ File.printed (l.drop k) = File.printed l) ∧ acc.length ≤ k * 50 ∧ Below w.heap.size w wr) (fun _ i _ => l.length - (intOf i).toNat)
 case atStart => exact ⟨0, [], by omega, rfl, rfl, rfl, by simp, rB⟩
 case round =>
  obtain ⟨k, acc, hk, rfl, rfl, hr, hac, hbr⟩ := hrel;have haz : (File.ba acc).size = acc.length := ba_size' acc
  by_cases hlt : k < l.length
  ·have hki : (k : Int) < (l.length : Int) := (by omega);obtain ⟨b, off, x0, rfl, hb, hx, hc0⟩ := Sl.atS (hs.below hbr) hlt;have hxw := HG.out.wide x0 (mem_at hx);have hr' := hr.out;rw [drop_at hx] at hr';simp only [File.printed] at hr';have HR := lH hr';have HFF : Hid (∀ x, Below wr.heap.size wr x → x.cell? ⟨b, off + k, none⟩ = some (.string x0)) := lH fun x h => (h.cell (p := ⟨b, off + k, none⟩) hb).trans hc0
   obtain ⟨D, hD⟩ : ∃ D, D = File.ba (Lib.decDigits x0.size) := ⟨_, rfl⟩;obtain ⟨FE, hFE⟩ : ∃ FE, FE = File.ba [10] := ⟨_, rfl⟩;have z1 : D.size ≤ 6 := by rw [hD, ba_size']; exact dec_len 5 _ (by omega)
   have z2 : FE.size = 1 := by rw [hFE]; rfl
   have z3 : (File.ba acc).size ≤ 2000 := (by omega)
   have HDG : Hid (∀ x : World, Calls Tryz.prog 21 #[iv (x0.size : Int)] x fun e w' => e = .returned (.string D) ∧ Below x.heap.size x w') := lH fun x => by
    rw [hD];refine (digits_spec x0.size x (by omega)).mono ?_;rintro e w' ⟨h1, rfl⟩;exact ⟨h1, rB⟩
   have HFE : Hid (∀ x : World, Calls Tryz.prog 22 #[] x fun e w' => e = .returned (.string FE) ∧ Below x.heap.size x w') := lH fun x => by rw [hFE]; exact feed_spec x
   have HNEW : Hid (File.ba acc ++ D ++ ⟨#[58]⟩ ++ x0 ++ FE = File.ba (acc ++ (Lib.decDigits x0.size ++ (58 :: (File.bts x0 ++ [10]))))) := lH (by
    rw [hD, hFE];apply ByteArray.ext;simp [File.ba])
   have hal : (acc ++ (Lib.decDigits x0.size ++ (58 :: (File.bts x0 ++ [10])))).length ≤ (k + 1) * 50 := by
    have := dec_len 5 x0.size (by omega);simp;omega
   clear hx hr hr' hD hFE hs hc0
   go_upto_region 5 with fail
   refine wp_free_lit (by kernel_rfl) 16 (by kernel_rfl) (by kernel_rfl) (by decide) (fun _ x => Below wr.heap.size wr x) (fun x x' => Below x.heap.size x x')
    [fun _ u _ => u = .string (File.ba acc),
     fun _ u _ => u = .slice (some ⟨b, off, none⟩) l.length c,
     fun _ u _ => u = iv (k : Int),
     fun _ u _ => u = .pointer (some ⟨b, off + k, none⟩),
     fun _ u _ => u = .string x0,
     fun _ u _ => u = iv (x0.size : Int),
     fun _ u _ => u = .string D,
     fun _ u _ => u = .string (File.ba acc ++ D),
     fun _ u _ => u = .string (File.ba acc ++ D ++ ⟨#[58]⟩),
     fun _ u _ => u = .slice (some ⟨b, off, none⟩) l.length c,
     fun _ u _ => u = iv (k : Int),
     fun _ u _ => u = .pointer (some ⟨b, off + k, none⟩),
     fun _ u _ => u = .string x0,
     fun _ u _ => u = .string (File.ba acc ++ D ++ ⟨#[58]⟩ ++ x0),
     fun _ u _ => u = .string FE,
     fun _ u _ => u = .string (File.ba acc ++ D ++ ⟨#[58]⟩ ++ x0 ++ FE)]
    (Below.refl _ wr).drew ?_ ?_
   ·simp only [List.take_succ_cons, List.take_zero, HopL];refine ⟨?_, ?_, ?_, ?_, ?_, ?_, ?_, ?_, ?_, ?_, ?_, ?_, ?_, ?_, ?_, ?_, trivial⟩
    ·refine fv fun v n x hn hR hk => ?_
     exact tX
    ·refine fv fun v n x hn hR hk => ?_
     exact tX
    ·refine fv fun v n x hn hR hk => ?_
     exact tX
    ·refine fv fun v n x hn hR hk => ?_
     have h1 : v 1 = .slice (some ⟨b, off, none⟩) l.length c := hk.at 1;have h2 : v 2 = iv (k : Int) := hk.at 2;exact tX
    ·refine fv fun v n x hn hR hk => ?_
     have h3 : v 3 = .pointer (some ⟨b, off + k, none⟩) := hk.at 3;have hc1 := HFF.out x hR;exact tX
    ·refine fv fun v n x hn hR hk => ?_
     have h4 : v 4 = .string x0 := hk.at 4;exact tX
    ·refine fv fun v n x hn hR hk => ?_
     have h5 : v 5 = iv (x0.size : Int) := hk.at 5;simp only [List.take_succ_cons, List.take_zero, frameF, Act.put, List.setIfInBounds_toArray, List.set_cons_zero, List.set_cons_succ];refine stepF_call (by rfl) (by go_simp) (HDG.out x) ?_;rintro e x' ⟨rfl, hb⟩;exact ⟨_, rfl, rfl, hb, hR.next hb nL⟩
    ·refine fv fun v n x hn hR hk => ?_
     have h0 : v 0 = .string (File.ba acc) := hk.at 0;have h6 : v 6 = .string D := hk.at 6;exact tX
    ·refine fv fun v n x hn hR hk => ?_
     have h7 : v 7 = .string (File.ba acc ++ D) := hk.at 7;exact tX
    ·refine fv fun v n x hn hR hk => ?_
     exact tX
    ·refine fv fun v n x hn hR hk => ?_
     exact tX
    ·refine fv fun v n x hn hR hk => ?_
     have h9 : v 9 = .slice (some ⟨b, off, none⟩) l.length c := hk.at 9;have h10 : v 10 = iv (k : Int) := hk.at 10;exact tX
    ·refine fv fun v n x hn hR hk => ?_
     have h11 : v 11 = .pointer (some ⟨b, off + k, none⟩) := hk.at 11;have hc1 := HFF.out x hR;exact tX
    ·refine fv fun v n x hn hR hk => ?_
     have h8 : v 8 = .string (File.ba acc ++ D ++ ⟨#[58]⟩) := hk.at 8;have h12 : v 12 = .string x0 := hk.at 12;exact tX
    ·refine fv fun v n x hn hR hk => ?_
     simp only [List.take_succ_cons, List.take_zero, frameF, Act.put, List.setIfInBounds_toArray, List.set_cons_zero, List.set_cons_succ];refine stepF_call (by rfl) (by go_simp) (HFE.out x) ?_;rintro e x' ⟨rfl, hb⟩;exact ⟨_, rfl, rfl, hb, hR.next hb nL⟩
    ·refine fv fun v n x hn hR hk => ?_
     have h13 : v 13 = .string (File.ba acc ++ D ++ ⟨#[58]⟩ ++ x0) := hk.at 13;have h14 : v 14 = .string FE := hk.at 14;exact tX
   ·intro v n x hn hR hall;have h15 : v 15 = .string (File.ba acc ++ D ++ ⟨#[58]⟩ ++ x0 ++ FE) := hall 15 (by decide);clear hall hn;simp only [List.drop_succ_cons, List.drop_zero, List.take_succ_cons, List.take_zero, frameF, Act.put, List.setIfInBounds_toArray, List.set_cons_zero, List.set_cons_succ, Nat.zero_add, Nat.reduceAdd, h15];(go_wp2_with fail);go_roundw
    case rel => exact ⟨k + 1, _, by omega, by go_num, by rw [HNEW.out], lH (by have := HR.out; rw [← this]; simp), hal, hbr.next hR nL⟩
    case measure => simp [intOf]; omega
  ·have hki : ¬ (k : Int) < (l.length : Int) := (by omega);have hr' := hr.out;rw [drop_end hlt] at hr';simp only [File.printed, List.append_nil] at hr';have hb := sum_bounds l;obtain ⟨n, hn⟩ : ∃ n : Nat, File.sum l = n := ⟨(File.sum l).toNat, by omega⟩;have HSM : Hid (Calls Tryz.prog 23 #[.slice A l.length c] wr fun e w' => e = .returned (iv (n : Int)) ∧ Below wr.heap.size wr w') := lH (by rw [← hn]; exact rsum_spec A l c wr hm HG.out.wide (hs.below hbr));obtain ⟨D, hD⟩ : ∃ D, D = File.ba (Lib.decDigits n) := ⟨_, rfl⟩;obtain ⟨FE, hFE⟩ : ∃ FE, FE = File.ba [10] := ⟨_, rfl⟩;have z1 : D.size ≤ 6 := by rw [hD, ba_size']; exact dec_len 5 _ (by omega)
   have z2 : FE.size = 1 := by rw [hFE]; rfl
   have z3 : (File.ba acc).size ≤ 2000 := (by omega)
   have HDG : Hid (∀ x : World, Calls Tryz.prog 21 #[iv (n : Int)] x fun e w' => e = .returned (.string D) ∧ x = w') := lH fun x => by
    rw [hD];exact digits_spec n x (by omega)
   have HFE : Hid (∀ x : World, Calls Tryz.prog 22 #[] x fun e w' => e = .returned (.string FE) ∧ Below x.heap.size x w') := lH fun x => by rw [hFE]; exact feed_spec x
   have HNEW : Hid (File.ba acc ++ ⟨#[61]⟩ ++ D ++ FE = File.ba (File.text l)) := lH (by
    rw [hD, hFE];apply ByteArray.ext;simp [File.ba, File.text, File.endOf, hn, ← hr'])
   clear hr hr' hD hFE hs hn hb;(go_wp2_with fail);refine HSM.out.mono ?_;rintro e w1 ⟨rfl, hb1⟩;(go_wp2_with fail);refine (HDG.out w1).mono ?_;rintro e w2 ⟨rfl, rfl⟩;(go_wp2_with fail);refine (HFE.out w1).mono ?_;rintro e w3 ⟨rfl, hb3⟩;(go_wp2_with fail);go_ret;exact ⟨ret_eq (by rw [HNEW.out]; rfl), (hbr.next hb1 nL).next hb3 nL⟩
set_option maxRecDepth 100000 in
theorem indexRS (A : Option Addr) (l : List (Rw ByteArray)) (c : Nat) (K : Nat) (cap : Array Value) (p : (Rw ByteArray) → Bool) (w : World) (hm : l.length ≤ big) (hs : Sl (rwE ByteArray) w A l)
  (hf : IsPred Tryz.prog w K cap rwv l p) :
  Calls Tryz.prog 131 #[.slice A l.length c, .func (.func K) #[] cap] w
  fun e w' => e = .returned (iv (findFrom p l 0)) ∧ Below w.heap.size w w' := by
 unfold big at hm;obtain ⟨hK, hf⟩ := hf;have HF := lH hf;clear hf
 go_enter Tryz.func131, Tryz.ntmps131
 go_wp2
 go_loopw [5, 8] (fun u i wr => ∃ (k : Nat), k ≤ l.length ∧ i = iv k ∧ Hid (findFrom p (l.drop k) k = findFrom p l 0) ∧ Below w.heap.size w wr) (fun _ i _ => l.length - (intOf i).toNat)
 case atStart => exact ⟨0, by omega, rfl, rfl, rB⟩
 case round =>
  obtain ⟨k, hk, rfl, hr, hbw⟩ := hrel;have hs1 := hs.below hbw
  by_cases hlt : k < l.length
  ·obtain ⟨b, off, x, rfl, hb, hx, hc0⟩ := Sl.atRw hs1 hlt;have hd := hr.out;rw [drop_at hx] at hd;simp only [findFrom] at hd;have HD := lH hd;clear hd
   cases hp : p x
   ·(go_wp2_with fail);refine (HF.out x (mem_at hx) wr hbw).mono ?_;rintro e w1 ⟨rfl, hb1⟩;rw [hp];(go_wp2_with fail);go_roundw
    case rel => exact ⟨k + 1, by omega, by go_num, by have := HD.out; rw [hp] at this; exact this, hbw.next hb1 nL⟩
    case measure => simp [intOf]; omega
   ·(go_wp2_with fail);refine (HF.out x (mem_at hx) wr hbw).mono ?_;rintro e w1 ⟨rfl, hb1⟩;rw [hp];(go_wp2_with fail);go_ret;exact ⟨ret_eq (by have := HD.out; rw [hp] at this; rw [← this]; rfl), hbw.next hb1 nL⟩
  ·have hd := hr.out;rw [drop_end hlt] at hd;have HD := lH hd;clear hd
   go_wp2
   go_ret;exact ⟨ret_eq (by rw [← HD.out]; rfl), hbw⟩
theorem containsRS (A : Option Addr) (l : List (Rw ByteArray)) (c : Nat) (K : Nat) (cap : Array Value) (p : (Rw ByteArray) → Bool) (w : World) (hm : l.length ≤ big) (hs : Sl (rwE ByteArray) w A l)
  (hf : IsPred Tryz.prog w K cap rwv l p) :
  Calls Tryz.prog 83 #[.slice A l.length c, .func (.func K) #[] cap] w
  fun e w' => e = .returned (.bool (l.any p)) ∧ Below w.heap.size w w' := by
 have HF := lH hf;clear hf
 go_enter Tryz.func83, Tryz.ntmps83
 go_wp2_with (go_at_call 131; refine (indexRS A l c K cap p _ hm hs HF.out).mono ?_; rintro e w1 ⟨rfl, hb1⟩)
 go_ret;exact ⟨ret_eq (by rw [← findFrom_nonneg p l 0 (by omega)]; rfl), hb1⟩
namespace G
def longS (s : ByteArray) : Bool := decide (60 < (s.size : Int))
def greatF (f : List ByteArray) : Bool := decide (30 < f.length) || f.any longS
end G
theorem great11_spec (s : ByteArray) (w : World) : Calls Tryz.prog 86 #[.string s] w fun e w' => e = .returned (.bool (G.longS s)) ∧ w = w' := by
 go_enter Tryz.func86, Tryz.ntmps86
 go_wp2
 go_ret;exact ⟨rfl, rfl⟩
theorem longPred (w : World) (l : List ByteArray) : IsPred Tryz.prog w 86 #[] sv l G.longS :=
 ⟨callFunc_run (by kernel_rfl), fun x _ w' _ => (great11_spec x w').mono fun _ _ h => ⟨h.1, by rw [← h.2]; exact rB⟩⟩
theorem great1_spec (A : Option Addr) (l : List ByteArray) (c : Nat) (w : World) (hs : Sl strE w A l) :
  Calls Tryz.prog 84 #[.slice A l.length c] w fun e w' => e = .returned (.bool (G.greatF l)) ∧ Below w.heap.size w w' := by
 by_cases h : 30 < l.length
 ·have hi : (30 : Int) < (l.length : Int) := (by omega);have hg : G.greatF l = true := by unfold G.greatF; rw [decide_eq_true h]; rfl
  rw [hg]
  go_enter Tryz.func84, Tryz.ntmps84
  (go_wp2_with fail);go_ret;exact ⟨rfl, rB⟩
 ·have hi : ¬ (30 : Int) < (l.length : Int) := (by omega);have hg : G.greatF l = l.any G.longS := by unfold G.greatF; rw [decide_eq_false h]; rfl
  have HC := lH (containsS A l c 86 #[] G.longS w (by unfold big; omega) hs (longPred w l));rw [hg];clear hg
  go_enter Tryz.func84, Tryz.ntmps84
  (go_wp2_with fail);refine HC.out.mono ?_;rintro e w1 ⟨rfl, hb1⟩;(go_wp2_with fail);go_ret;exact ⟨rfl, hb1⟩
theorem greatPred (w : World) (rs : List (Rw ByteArray)) (hr : RowsR strE w rs) : IsPred Tryz.prog w 84 #[] rwv rs (fun r => G.greatF r.xs) :=
 ⟨callFunc_run (by kernel_rfl), fun x hx w' hw' => great1_spec x.A x.xs x.c w' ((hr x hx).1.below hw')⟩
theorem great_spec (A : Option Addr) (rs : List (Rw ByteArray)) (c : Nat) (w : World) (hm : rs.length ≤ big) (hs : Sl (rwE ByteArray) w A rs) (hr : RowsR strE w rs) :
  Calls Tryz.prog 31 #[.slice A rs.length c] w fun e w' => e = .returned (.bool (rs.any fun r => G.greatF r.xs)) ∧ Below w.heap.size w w' := by
 have HC := lH (containsRS A rs c 84 #[] (fun r => G.greatF r.xs) w hm hs (greatPred w rs hr));obtain ⟨q, hq⟩ : ∃ q, q = rs.any fun r => G.greatF r.xs := ⟨_, rfl⟩
 rw [← hq] at HC ⊢;clear hq
 go_enter Tryz.func31, Tryz.ntmps31
 (go_wp2_with fail);refine HC.out.mono ?_;rintro e w1 ⟨rfl, hb1⟩;(go_wp2_with fail);go_ret;exact ⟨rfl, hb1⟩
theorem great2row (A : Option Addr) (f : List ByteArray) (c : Nat) (A' : Option Addr) (g : List ByteArray) (c' : Nat) (w : World) (hfc : f.length ≤ c) (hgc : g.length ≤ c') (hs : Sl strE w A f) (hs' : Sl strE w A' g) :
  Calls Tryz.prog 31 #[.slice (some ⟨w.heap.size, 0, none⟩) 2 2] (w.alloc (.cells #[.slice A f.length c, .slice A' g.length c'] 23)) fun e w' => e = .returned (.bool (G.greatF f || G.greatF g)) ∧ Below w.heap.size w w' := by
 have hb : Below w.heap.size w (w.alloc (.cells #[.slice A f.length c, .slice A' g.length c'] 23)) := rB.alloc nL _;have h1 := Sl.fresh (rwE ByteArray) w 23 #[.slice A f.length c, .slice A' g.length c'] [⟨A, c, f⟩, ⟨A', c', g⟩] rfl (by simp [maxLen])
 have := great_spec (some ⟨w.heap.size, 0, none⟩) [⟨A, c, f⟩, ⟨A', c', g⟩] 2 (w.alloc (.cells #[.slice A f.length c, .slice A' g.length c'] 23)) (by simp [big]) h1 (fun r hr => by
  simp only [List.mem_cons, List.not_mem_nil, or_false] at hr
  rcases hr with rfl | rfl
  ·exact ⟨hs.below hb, hfc⟩
  ·exact ⟨hs'.below hb, hgc⟩)
 refine this.mono ?_;rintro e w' ⟨rfl, hb'⟩;exact ⟨by simp, hb.next hb' nL⟩
theorem great_no {f : List ByteArray} (h : G.greatF f = false) : f.length ≤ 30 ∧ ∀ s ∈ f, s.size ≤ 60 := by
 unfold G.greatF at h;rw [Bool.or_eq_false_iff] at h;obtain ⟨h1, h2⟩ := h;rw [decide_eq_false_iff_not] at h1;rw [List.any_eq_false] at h2;refine ⟨by omega, fun s hs => ?_⟩;have := h2 s hs;simp only [G.longS, decide_eq_true_eq] at this;omega
end Fl
end Go.Proofs.YtblgkmdadholmabGreatDoor
end
namespace Go.Proofs.YtblgkmdadholmabGreatDoor
section
open Go.RowKit
theorem buildAggsW {P : Program} {ops : Array Oper} {rest : List Oper} {o : Oper} {a : Act} {w : World} {Q : Exit → Act → World → Prop} (hw : Region.wanted o (yielded ops a.tmps) = true) (t e : TypeId) (len : Nat) (parts : Array (Nat × Operand)) (ho : o.op = .buildSlice t len parts)
  (vs : List Value) (s : Nat) (cells : Array Value) (hs : 0 < s) (hu : P.underlying t = some (.slice e)) (hsz : (P.info? e).map (·.size) = some s) (hz : ((P.info? e).bind (·.zero)).isSome = true) (hlen : len = vs.length) (hpos : 0 < len) (hsmall : len * s ≤ 2 ^ 24) (hone : ∀ v ∈ vs, v.cells.size = s)
  (hparts : (parts.map fun (i, x) => (i, a.eval x)).toList = (vs.zipIdx 0).map fun x => (x.2, x.1)) (hc : (vs.flatMap fun v => v.cells.toList).toArray = cells)
  (h : wpList P ops Q rest (a.put o.dst (.slice (some ⟨w.heap.size, 0, none⟩) len len)) (w.alloc (.cells cells e))) : wpList P ops Q (o :: rest) a w := by
 cases hie : P.info? e with
 | none => simp [hie] at hsz
 | some ie =>
  simp only [hie, Option.map_some, Option.some.injEq, Option.bind_some] at hsz hz;obtain ⟨z, hzz⟩ := Option.isSome_iff_exists.1 hz;have hp : 0 < len * s := Nat.mul_pos hpos hs;refine wpList_step fun K hK => ?_
  rw [if_pos hw];refine wp_buildSlice t e len parts ho _ ie z hu hie hzz (by rw [hsz]; omega) (by rw [hsz]; omega) ?_ (hK _ _ h);rw [hparts, hsz, ← hc];exact Great.fill_whole hs _ _ hone (by simp [hlen])
end
section
open Go.RowKit
def lastW : List Oper → Nat → Nat → Option Nat
 | [], _, _ => none
 | o :: l, k, t => match lastW l (k + 1) t with
  | some j => some j
  | none => match o.dst with
   | some d => if d == t then some k else none
   | none => none
theorem frameF_look (v : Nat → Value) (t : Nat) : ∀ (l : List Oper) (k : Nat) (a : Act), t < a.tmps.size → (frameF l k v a).tmps[t]? = match lastW l k t with | some j => some (v j) | none => a.tmps[t]? := by
 intro l
 induction l with
 | nil => intro k a _; rfl
 | cons o l ih =>
  intro k a h;have hp : (a.put o.dst (v k)).tmps.size = a.tmps.size := by unfold Act.put; split <;> simp
  rw [frameF, ih _ _ (by rw [hp]; exact h), lastW]
  cases hl : lastW l (k + 1) t with
  | some j => rfl
  | none =>
   simp only
   cases hd : o.dst with
   | none => rfl
   | some d =>
    simp only [Act.put]
    by_cases e : d = t
    ·subst e;simp [h]
    ·have : (d == t) = false := by simpa using e
     rw [this];simp [Array.getElem?_setIfInBounds, e]
structure StepE (P : Program) (o : Oper) (ρ : Operand → Value) (b : Bool) (w : World) (K : Value → World → Prop) : Prop where
 out : if b = true then GivesF P ((execOp ρ o).run P w) K else K undef w
section
variable {P : Program} {ops : Array Oper} {o : Oper} {a : Act} {w : World} {K : Value → World → Prop} {ρ : Operand → Value} {l : List Oper} {v : Nat → Value} {t j : Nat} {u : Value}
theorem stepR (h : ∀ ρ, a.eval = ρ → (∀ c, ρ (.const c) = c) → (∀ f, ρ (.func f) = .func (.func f) #[] #[]) → (∀ g, ρ (.global g) = .pointer (some ⟨g, 0, none⟩)) → StepE P o ρ (Region.wanted o (yielded ops a.tmps)) w K) : StepF P ops o a w K :=
 ⟨(h a.eval rfl (fun _ => rfl) (fun _ => rfl) (fun _ => rfl)).out⟩
theorem rho_at (hρ : (frameF l 0 v a).eval = ρ) (hs : Nat.blt t a.tmps.toList.length = true) (hl : lastW l 0 t = some j) (h : v j = u) : ρ (.tmp t) = u := by
 have hs' : t < a.tmps.size := by rw [Nat.blt_eq] at hs; simpa using hs
 have := frameF_look v t l 0 a hs';rw [hl] at this;rw [← hρ, ← h];simp only [Act.eval, Array.getD_eq_getD_getElem?, this, Option.getD_some]
theorem rho_old (hρ : (frameF l 0 v a).eval = ρ) (hl : lastW l 0 t = none) (h : a.tmps.toList[t]? = some u) : ρ (.tmp t) = u := by
 have hs' : t < a.tmps.size := by
  have := (List.getElem?_eq_some_iff.1 h).1
  simpa using this
 have := frameF_look v t l 0 a hs';rw [hl] at this;rw [← hρ];simp only [Act.eval, Array.getD_eq_getD_getElem?, this];rw [← Array.getElem?_toList, h];rfl
theorem wanted_none {f : Nat → Option Bool} (hg : o.guard = none) : Region.wanted o f = true := by simp [Region.wanted, hg]
theorem yielded_at {i : Nat} (hd : (ops[i]?).bind (·.dst) = some t) (hs : Nat.blt t a.tmps.toList.length = true) (hl : lastW l 0 t = some j) {c : Bool} (h : v j = .bool c) : yielded ops (frameF l 0 v a).tmps i = some c := by
 have hs' : t < a.tmps.size := by rw [Nat.blt_eq] at hs; simpa using hs
 have := frameF_look v t l 0 a hs';rw [hl] at this;simp [yielded, hd, this, h]
theorem wanted_at {i : Nat} {c : Bool} (hg : o.guard = some (i, c)) (hd : (ops[i]?).bind (·.dst) = some t) (hs : Nat.blt t a.tmps.toList.length = true) (hl : lastW l 0 t = some j) (h : v j = .bool c) : Region.wanted o (yielded ops (frameF l 0 v a).tmps) = true := by
 simp [Region.wanted, hg, yielded_at hd hs hl h]
theorem stepE_val {b : Bool} (hw : b = true) (hr : (execOp ρ o).run P w = .ok (.value u) w) (hK : K u w) : StepE P o ρ b w K := ⟨by rw [if_pos hw, hr]; exact hK⟩
theorem stepE_new {b : Bool} {w' : World} (hw : b = true) (hr : (execOp ρ o).run P w = .ok (.value u) w') (hK : K u w') : StepE P o ρ b w K := ⟨by rw [if_pos hw, hr]; exact hK⟩
theorem stepE_call {b : Bool} {f : FuncId} {args : Array Value} {post : Ending → World → Prop} (hw : b = true) (hr : (execOp ρ o).run P w = .ok (.enter f args) w) (hc : Calls P f args w post)
  (hK : ∀ e w', post e w' → ∃ u, e = .returned u ∧ K u w') : StepE P o ρ b w K := ⟨by rw [if_pos hw, hr]; exact Calls.mono (P := P) hc hK⟩
theorem stepE_appRun {b : Bool} {w' : World} {ty : TypeId} (hw : b = true) (s x : Operand) (ho : o.op = .call { callee := .builtin .append, args := #[s, x], argTypes := #[ty, ty] })
  (v1 v2 : Value) (hs : ρ s = v1) (hx : ρ x = v2) (hr : (Builtin.append_ #[ty, ty] o.type #[v1, v2]).run P w = .ok u w') (hK : K u w') : StepE P o ρ b w K := by
 refine stepE_new hw ?_ hK;unfold execOp;simp only [ho, resolve, invoke, builtin, Sem.run_bind, Sem.run_pure, Result.andThen_ok, List.map_toArray, List.map_cons, List.map_nil, hs, hx, hr]
theorem fvr {a₀ : Act} {R : Nat → World → Prop} {S : World → World → Prop} {sp : Nat → Spec} {i : Nat}
  (h : ∀ {v : Nat → Value} {n : Nat} {ρ : Operand → Value} w, R n w → Known ops sp i v w → (frameF (ops.toList.take i) 0 v a₀).eval = ρ → ((∀ c, ρ (.const c) = c) ∧ (∀ f, ρ (.func f) = .func (.func f) #[] #[]) ∧ ∀ g, ρ (.global g) = .pointer (some ⟨g, 0, none⟩)) →
   StepE P o ρ (Region.wanted o (yielded ops (frameF (ops.toList.take i) 0 v a₀).tmps)) w fun u w' => sp i v u w' ∧ S w w' ∧ R (n + 1) w')
  (hs : ∀ v u w w', sp i v u w → S w w' → sp i v u w' := by exact fun _ _ _ _ h _ => h)
  (hc : ∀ v v' u w, (∀ j, ((masks ops.toList).getD i 0).testBit j = true → v j = v' j) → sp i v u w → sp i v' u w := by exact fun _ _ _ _ _ h => h) : FreeOp P ops a₀ R S sp i o :=
 ⟨hc, hs, fun v n w _ h2 h3 => stepR fun ρ r k1 k2 k3 => h w h2 h3 r ⟨k1, k2, k3⟩⟩
theorem rho (hρ : (frameF l 0 v a).eval = ρ) (t : Nat) {j : Nat} {u : Value} (h : v j = u) (hl : lastW l 0 t = some j := by kernel_rfl) (hs : Nat.blt t a.tmps.toList.length = true := by kernel_rfl) : ρ (.tmp t) = u := rho_at hρ hs hl h
theorem rho0 (hρ : (frameF l 0 v a).eval = ρ) (t : Nat) {u : Value} (h : a.tmps.toList[t]? = some u := by exact rfl) (hl : lastW l 0 t = none := by kernel_rfl) : ρ (.tmp t) = u := rho_old hρ hl h
theorem ev {b : Bool} {u : Value} (hK : K u w) (hw : b = true := by exact wanted_none rfl) (hr : (execOp ρ o).run P w = .ok (.value u) w := by go_simp <;> omega) : StepE P o ρ b w K := stepE_val hw hr hK
theorem ev0 {b : Bool} {u : Value} (hw : b = true := by exact wanted_none rfl) (hK : K u w := by exact ⟨rfl, rB, hR⟩) (hr : (execOp ρ o).run P w = .ok (.value u) w := by go_simp <;> omega) : StepE P o ρ b w K := stepE_val hw hr hK
theorem ec {b : Bool} {f : FuncId} {args : Array Value} {post : Ending → World → Prop} (hw : b = true := by exact wanted_none rfl)
  (hr : (execOp ρ o).run P w = .ok (.enter f args) w := by go_simp) (hc : Calls P f args w post)
  (hK : ∀ e w', post e w' → ∃ u, e = .returned u ∧ K u w' := by (rintro e x' ⟨rfl, hb⟩; exact ⟨_, rfl, rfl, hb, hR.next hb nL⟩)) : StepE P o ρ b w K := stepE_call hw hr hc hK
theorem wat {i : Nat} {c : Bool} (h : v j = .bool c) (hg : o.guard = some (i, c) := by exact rfl) (hd : (ops[i]?).bind (·.dst) = some t := by exact rfl) (hl : lastW l 0 t = some j := by kernel_rfl) (hs : Nat.blt t a.tmps.toList.length = true := by kernel_rfl) : Region.wanted o (yielded ops (frameF l 0 v a).tmps) = true := wanted_at hg hd hs hl h
theorem watq {i : Nat} {c : Bool} {u : Value} (h : v j = u) (hg : o.guard = some (i, c) := by exact rfl) (hu : u = .bool c := by simp [*]) (hd : (ops[i]?).bind (·.dst) = some t := by exact rfl) (hl : lastW l 0 t = some j := by kernel_rfl) (hs : Nat.blt t a.tmps.toList.length = true := by kernel_rfl) : Region.wanted o (yielded ops (frameF l 0 v a).tmps) = true := wanted_at hg hd hs hl (h.trans hu)
theorem wfl {Q : Exit → Act → World → Prop} {id : Nat} (m : Nat) (R : Nat → World → Prop) (S : World → World → Prop) (sps : List Spec)
  (hR : R 0 w.drew) (hop : HopL P l.toArray a R S (fun i => sps.getD i fun _ _ _ => True) 0 (l.take m))
  (hend : ∀ v n w, n ≤ l.length → R n w → (∀ j, j < m → (sps.getD j fun _ _ _ => True) v (v j) w) → wpList P l.toArray Q (l.drop m) (frameF (l.take m) 0 v a) w)
  (hmx : P.follows .mixedOrders = true := by kernel_rfl) (h : drawOk l.toArray = true := by kernel_rfl) (ht : tailOk l.toArray m = true := by kernel_rfl) (hm : m ≤ l.length := by decide) : (Code.region id l.toArray true).wp P Q a w :=
 wp_free_lit hmx m h ht hm R S sps hR hop hend
end
theorem below_q (w : World) (n : Nat) : Below w.heap.size w (w.drewN n) := have h := Below.refl w.heap.size w; ⟨h.os, h.tape, h.output, h.size, h.block⟩
abbrev eqv (c : Value) : Spec := fun _ u _ => u = c
end
end Go.Proofs.YtblgkmdadholmabGreatDoor
