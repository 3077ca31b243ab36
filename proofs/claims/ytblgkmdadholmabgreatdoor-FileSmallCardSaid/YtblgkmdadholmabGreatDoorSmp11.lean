/- What the proof of the claim's theorem uses, part 11. The conditions stand in each statement. -/
import Derived.Test.YtblgkmdadholmabGreatDoorSmp10
set_option linter.unusedVariables false
set_option linter.unusedSimpArgs false
set_option maxRecDepth 100000
namespace Go.Proofs.YtblgkmdadholmabGreatDoor
section
namespace Fl
open Go.RowKit Go.Shelf
theorem dupEd (A : Option Addr) (l : List EdV) (c : Nat) (w : World) (hm : l.length ≤ big) (hs : Sl edE w A l) :
  Calls Tryz.prog 105 #[.slice A l.length c] w fun e w' => ∃ v, e = .returned v ∧ Own edE 36 w.heap.size w' v l ∧ Below w.heap.size w w' := by
 go_enter Tryz.func105, Tryz.ntmps105
 go_wp2_with (first
  | (at_make; refine wpMake0 edE tyEds rfl _ _ rfl l.length rfl rfl hm ?_; intro w1 hown1 hb1)
  | (at_builtin; refine wpAppS edE tyEds rfl _ _ rfl hown1 (hs.below hb1) rfl rfl hb1.size (by simpa using hm) ?_; intro v2 w2 hown2 hb2 _))
 go_ret;exact ⟨_, rfl, by simpa using hown2, hb1.trans hb2⟩
set_option maxHeartbeats 2000000 in
theorem theirs_spec (A : Option Addr) (vs : List EdV) (c : Nat) (w : World) (hm : vs.length ≤ 1000) (hs : Sl edE w A vs) :
  Calls Tryz.prog 50 #[.slice A vs.length c] w fun e w' => ∃ v, e = .returned v ∧ Own edE 152 w.heap.size w' v vs ∧ Below w.heap.size w w' := by
 go_enter Tryz.func50, Tryz.ntmps50
 (go_wp2_with fail)
 go_loopw [3, 5, 8] (fun u _ i wr => ∃ k : Nat, k ≤ vs.length ∧ i = iv (k : Int) ∧ Hid (Own edE 152 w.heap.size wr u (vs.take k)) ∧ Below w.heap.size w wr) (fun _ _ i _ => vs.length - (intOf i).toNat)
 case atStart => exact ⟨0, Nat.zero_le _, rfl, Own.nil, rB⟩
 case round =>
  obtain ⟨k, hk, rfl, HO, hbr⟩ := hrel
  by_cases hlt : k < vs.length
  ·have hki : (k : Int) < (vs.length : Int) := (by omega);obtain ⟨b, o, x, rfl, hb, hx, hc0, hc1, hc2⟩ := Sl.atEd (hs.below hbr) hlt;have HTK := lH (take_at hx);have hbM : Below wr.heap.size wr (wr.alloc (.cells #[iv x.at_, .slice x.A x.old.length x.c, .slice x.A' x.new.length x.c'] 36)) := rB.alloc nL _;have hM : Blk (wr.alloc (.cells #[iv x.at_, .slice x.A x.old.length x.c, .slice x.A' x.new.length x.c'] 36)) wr.heap.size 36 #[iv x.at_, .slice x.A x.old.length x.c, .slice x.A' x.new.length x.c'] := Blk.new _ _ _;have HO1 := lH (HO.out.below hbM);have hln : (vs.take k).length + 1 ≤ big := by rw [List.length_take]; unfold big; omega
   clear hx HO
   go_upto_region 5 with fail
   generalize wr.alloc (.cells #[iv x.at_, .slice x.A x.old.length x.c, .slice x.A' x.new.length x.c'] 36) = w4 at *;have hb04 := hbr.next hbM nL;have m0 := hM.cell 0;have m1 := hM.cell 1;have m2 := hM.cell 2;have ml := hM.lt;clear hc0 hc1 hc2 hbM hM
   go_wp2_with (at_builtin; refine wpApp1 edE tyEdR rfl _ _ rfl HO1.out x rfl rfl rfl hb04.size hln ?_; intro v5 w5 hown5 hb5 hk5)
   have HO5 : Hid (Own edE 152 w.heap.size w5 v5 (vs.take (k + 1))) := lH (by rw [HTK.out]; exact hown5);have hb05 := hb04.trans hb5;clear hown5 hk5 hb5 HO1;(go_wp2_with fail);go_roundw
   case rel => exact ⟨k + 1, by omega, by go_num, HO5, hb05⟩
   case measure => simp [intOf]; omega
  ·have hki : ¬ (k : Int) < (vs.length : Int) := (by omega);have HO2 : Hid (Own edE 152 w.heap.size wr u3 vs) := lH (by have := HO.out; rwa [List.take_of_length_le (by omega)] at this);clear HO;(go_wp2_with fail);go_ret;exact ⟨_, rfl, HO2.out, hbr⟩
set_option maxHeartbeats 2000000 in
theorem ours_spec (A : Option Addr) (vs : List EdV) (c : Nat) (w : World) (hm : vs.length ≤ 1000) (hs : Sl edE w A vs) :
  Calls Tryz.prog 51 #[.slice A vs.length c] w fun e w' => ∃ v, e = .returned v ∧ Own edE 36 w.heap.size w' v vs ∧ Below w.heap.size w w' := by
 go_enter Tryz.func51, Tryz.ntmps51
 (go_wp2_with fail)
 go_loopw [3, 5, 8] (fun u _ i wr => ∃ k : Nat, k ≤ vs.length ∧ i = iv (k : Int) ∧ Hid (Own edE 36 w.heap.size wr u (vs.take k)) ∧ Below w.heap.size w wr) (fun _ _ i _ => vs.length - (intOf i).toNat)
 case atStart => exact ⟨0, Nat.zero_le _, rfl, Own.nil, rB⟩
 case round =>
  obtain ⟨k, hk, rfl, HO, hbr⟩ := hrel
  by_cases hlt : k < vs.length
  ·have hki : (k : Int) < (vs.length : Int) := (by omega);obtain ⟨b, o, x, rfl, hb, hx, hc0, hc1, hc2⟩ := Sl.atEd (hs.below hbr) hlt;have HTK := lH (take_at hx);have hbM : Below wr.heap.size wr (wr.alloc (.cells #[iv x.at_, .slice x.A x.old.length x.c, .slice x.A' x.new.length x.c'] 152)) := rB.alloc nL _;have hM : Blk (wr.alloc (.cells #[iv x.at_, .slice x.A x.old.length x.c, .slice x.A' x.new.length x.c'] 152)) wr.heap.size 152 #[iv x.at_, .slice x.A x.old.length x.c, .slice x.A' x.new.length x.c'] := Blk.new _ _ _;have HO1 := lH (HO.out.below hbM);have hln : (vs.take k).length + 1 ≤ big := by rw [List.length_take]; unfold big; omega
   clear hx HO
   go_upto_region 5 with fail
   generalize wr.alloc (.cells #[iv x.at_, .slice x.A x.old.length x.c, .slice x.A' x.new.length x.c'] 152) = w4 at *;have hb04 := hbr.next hbM nL;have m0 := hM.cell 0;have m1 := hM.cell 1;have m2 := hM.cell 2;have ml := hM.lt;clear hc0 hc1 hc2 hbM hM
   go_wp2_with (at_builtin; refine wpApp1 edE tyEds rfl _ _ rfl HO1.out x rfl rfl rfl hb04.size hln ?_; intro v5 w5 hown5 hb5 hk5)
   have HO5 : Hid (Own edE 36 w.heap.size w5 v5 (vs.take (k + 1))) := lH (by rw [HTK.out]; exact hown5);have hb05 := hb04.trans hb5;clear hown5 hk5 hb5 HO1;(go_wp2_with fail);go_roundw
   case rel => exact ⟨k + 1, by omega, by go_num, HO5, hb05⟩
   case measure => simp [intOf]; omega
  ·have hki : ¬ (k : Int) < (vs.length : Int) := (by omega);have HO2 : Hid (Own edE 36 w.heap.size wr u3 vs) := lH (by have := HO.out; rwa [List.take_of_length_le (by omega)] at this);clear HO;(go_wp2_with fail);go_ret;exact ⟨_, rfl, HO2.out, hbr⟩
def largeE (x : EdV) : Bool := G.greatF x.old || G.greatF x.new
set_option maxHeartbeats 1000000 in
theorem large1_spec (w0 w : World) (x : EdV) (hx : EdOk w0 x) (hb : Below w0.heap.size w0 w) :
  Calls Tryz.prog 104 #[x.v] w fun e w' => e = .returned (.bool (largeE x)) ∧ Below w.heap.size w w' := by
 have hX := hx.below hb;obtain ⟨a, A1, c1, o1, A2, c2, n1⟩ := x;simp only [EdV.v];obtain ⟨h1, h2, h3, h4⟩ := hX;simp only at h1 h2 h3 h4;have HG : Hid (∀ W, Below w.heap.size w W → Calls Tryz.prog 31 #[.slice (some ⟨W.heap.size, 0, none⟩) 2 2] (W.alloc (.cells #[.slice A1 o1.length c1, .slice A2 n1.length c2] 23)) fun e w' => e = .returned (.bool (G.greatF o1 || G.greatF n1)) ∧ Below W.heap.size W w') := lH fun W h => great2row A1 o1 c1 A2 n1 c2 W h3 h4 (h1.below h) (h2.below h)
 have hbM : Below w.heap.size w (w.alloc (.cells #[iv a, .slice A1 o1.length c1, .slice A2 n1.length c2] 36)) := rB.alloc nL _;have hM : Blk (w.alloc (.cells #[iv a, .slice A1 o1.length c1, .slice A2 n1.length c2] 36)) w.heap.size 36 #[iv a, .slice A1 o1.length c1, .slice A2 n1.length c2] := Blk.new _ _ _;clear h1 h2 hx hb
 go_enter Tryz.func104, Tryz.ntmps104
 go_upto_region 1 with fail
 generalize w.alloc (.cells #[iv a, .slice A1 o1.length c1, .slice A2 n1.length c2] 36) = w1 at *;have m1 := hM.cell 1;have m2 := hM.cell 2;have ml := hM.lt;(go_wp2_with fail);refine (HG.out w1 hbM).mono ?_;rintro e w2 ⟨rfl, hb2⟩;(go_wp2_with fail);go_ret;exact ⟨rfl, hbM.next hb2 nL⟩
set_option maxHeartbeats 1000000 in
theorem large_spec (A : Option Addr) (vs : List EdV) (c : Nat) (w : World) (hs : Sl edE w A vs) (hok : ∀ r ∈ vs, EdOk w r) :
  Calls Tryz.prog 47 #[.slice A vs.length c] w fun e w' => e = .returned (.bool (decide (30 < vs.length) || vs.any largeE)) ∧ Below w.heap.size w w' := by
 by_cases h30 : 30 < vs.length
 ·have hi : (vs.length : Int) > 30 := (by omega);rw [decide_eq_true h30, Bool.true_or];clear h30
  go_enter Tryz.func47, Tryz.ntmps47
  (go_wp2_with fail);go_ret;exact ⟨rfl, rB⟩
 ·have hi : ¬ (vs.length : Int) > 30 := (by omega);have HC := lH (containsEd A vs c 104 #[] largeE w (by unfold big; omega) hs ⟨callFunc_run (by kernel_rfl), fun x hx w' hw' => large1_spec w w' x (hok x hx) hw'⟩);rw [decide_eq_false h30, Bool.false_or];obtain ⟨r, hr⟩ : ∃ r, r = vs.any largeE := ⟨_, rfl⟩;rw [← hr] at HC;rw [← hr];clear hr hok h30
  go_enter Tryz.func47, Tryz.ntmps47
  (go_wp2_with fail);refine HC.out.mono ?_;rintro e w1 ⟨rfl, hb1⟩;(go_wp2_with fail);go_ret;exact ⟨rfl, hb1⟩
def Cl (B : Nat) (w : World) (v : Value) : Prop := v = .slice none 0 0 ∨ ∃ g n c cur, v = .slice (some ⟨g, 0, none⟩) n c ∧ B ≤ g ∧ w.heap[g]? = some (Obj.cells cur 9 (0, 0)) ∧ n ≤ cur.size
structure Clrs (B : Nat) (w w' : World) : Prop where
 below : Below B w w'
 cl : ∀ u, Cl B w u → Cl B w' u
 other : ∀ (g : Nat) (cs : Array Value) (t : TypeId) (fr : Nat × Nat), w.heap[g]? = some (Obj.cells cs t fr) → t ≠ 9 → w'.heap[g]? = w.heap[g]?
theorem Clrs.refl (B : Nat) (w : World) : Clrs B w w := ⟨rB, fun _ h => h, fun _ _ _ _ _ _ => rfl⟩
theorem Clrs.trans {B : Nat} {w w1 w2 : World} (h : Clrs B w w1) (h2 : Clrs B w1 w2) : Clrs B w w2 :=
 ⟨h.below.trans h2.below, fun u hu => h2.cl u (h.cl u hu), fun g cs t fr hg ht => by
  have e := h.other g cs t fr hg ht;rw [h2.other g cs t fr (e.trans hg) ht, e]⟩
theorem Cl.keep {B : Nat} {w w' : World} {u : Value} (h : Cl B w u) (hb : Below w.heap.size w w') : Cl B w' u := by
 rcases h with h | ⟨g, n, c, cur, e, h1, h2, h3⟩
 ·exact .inl h
 ·exact .inr ⟨g, n, c, cur, e, h1, (hb.block g (Array.getElem?_eq_some_iff.1 h2).1).trans h2, h3⟩
theorem Clrs.next {B : Nat} {w w' : World} (hB : B ≤ w.heap.size) (hb : Below w.heap.size w w') : Clrs B w w' :=
 ⟨hb.mono hB, fun _ hu => hu.keep hb, fun g _ _ _ hg _ => hb.block g (Array.getElem?_eq_some_iff.1 hg).1⟩
theorem Own.cl {B : Nat} {w : World} {v : Value} {xs : List ByteArray} (h : Own strE 9 B w v xs) : Cl B w v := by
 rcases h.2 with ⟨rfl, hn⟩ | ⟨g, cap, cur, rfl, hBg, hg, hnc, hcm, hcs, htk⟩
 ·exact .inl rfl
 ·exact .inr ⟨g, _, cap, cur, rfl, hBg, hg, by have : cur.size = cap * 1 := hcs; omega⟩
theorem Own.clrs {α : Type} {E : Enc α} {e : TypeId} {B B' : Nat} {w w' : World} {v : Value} {xs : List α} (h : Own E e B' w v xs) (he : e ≠ 9) (hc : Clrs B w w') : Own E e B' w' v xs :=
 h.keep hc.below.size fun b hv => by
  rcases h.2 with ⟨rfl, hn⟩ | ⟨g, cap, cur, rfl, hBg, hg, hnc, hcm, hcs, htk⟩
  ·cases hv
  ·have : g = b := by simpa [Value.ownBlock] using hv
   subst this;exact hc.other _ _ _ _ hg he
theorem zeroStrs (n : Nat) : (Builtin.zeroCells (Value.string ⟨#[]⟩).cells n).toList.length = n ∧ ∀ u ∈ (Builtin.zeroCells (Value.string ⟨#[]⟩).cells n).toList, u.oneCell' = true := by
 constructor
 ·rw [Array.length_toList, size_zeroCells]; simp [Value.cells]
 ·intro u hu;simp only [Builtin.zeroCells, Array.toList_map, Array.toList_range, List.mem_map] at hu;obtain ⟨i, _, rfl⟩ := hu;have h4 : i % (Value.string ⟨#[]⟩).cells.size < 1 := Nat.mod_lt _ (by decide);generalize i % (Value.string ⟨#[]⟩).cells.size = k at h4
  match k, h4 with
  | 0, _ => rfl
theorem run_clearS {B : Nat} {v : Value} {w : World} (h : Cl B w v) : ∃ w', (∀ ty, (Builtin.clear_ #[23] ty #[v]).run Tryz.prog w = .ok (.tuple #[]) w') ∧ Clrs B w w' := by
 rcases h with rfl | ⟨g, n, c, cur, rfl, hBg, hg, hn⟩
 ·refine ⟨w, fun ty => ?_, Clrs.refl _ _⟩;simp [Builtin.clear_, run_underlying Tryz.underlying23]
 ·obtain ⟨hz1, hz2⟩ := zeroStrs n;have hst := run_storeCells_at Tryz.prog g 0 9 (Builtin.zeroCells (Value.string ⟨#[]⟩).cells n).toList 0 cur w hg (by rw [hz1]; omega) hz2;obtain ⟨nr, hnr⟩ : ∃ nr, nr = (List.take (0 + 0) cur.toList ++ (Builtin.zeroCells (Value.string ⟨#[]⟩).cells n).toList ++ List.drop (0 + 0 + (Builtin.zeroCells (Value.string ⟨#[]⟩).cells n).toList.length) cur.toList).toArray := ⟨_, rfl⟩;rw [← hnr] at hst
  have hsz : nr.size = cur.size := by
   rw [hnr, List.size_toArray];simp only [List.length_append, List.length_take, List.length_drop, hz1, Array.length_toList];omega
  clear hnr
  cases n with
  | zero => exact ⟨w, fun ty => by simp [Builtin.clear_, run_underlying Tryz.underlying23], Clrs.refl _ _⟩
  | succ m =>
   refine ⟨w.setRow g nr, fun ty => ?_, below_setRow (Below.refl B w) hBg nr, fun u hu => ?_, fun k cs t fr hk ht => setRow_other _ _ _ _ fun e => ?_⟩
   ·simp [Builtin.clear_, run_underlying Tryz.underlying23, zeroStr, hst]
   ·rcases hu with hu | ⟨k, a, b, cs, e, h1, h2, h3⟩
    ·exact .inl hu
    ·by_cases hkg : k = g
     ·subst hkg;rw [hg] at h2;injection h2 with h2;injection h2 with h2 _ _;subst h2;exact .inr ⟨k, a, b, nr, e, h1, setRow_heap _ _ _ _ _ _ hg, by omega⟩
     ·exact .inr ⟨k, a, b, cs, e, h1, (setRow_other _ _ _ _ hkg).trans h2, h3⟩
   ·subst e;rw [hg] at hk;injection hk with hk;injection hk with _ hk _;exact ht hk.symm
theorem wpClearS {ops : Array Oper} {rest : List Oper} {o : Oper} {a : Act} {Q : Exit → Act → World → Prop} {w : World} (hgd : o.guard = none) (s : Operand) (ho : o.op = .call { callee := .builtin .clear, args := #[s], argTypes := #[23] })
  {B : Nat} {v : Value} (hs : a.eval s = v) (hown : Cl B w v) (h : ∀ w', Clrs B w w' → wpList Tryz.prog ops Q rest (a.put o.dst (.tuple #[])) w') : wpList Tryz.prog ops Q (o :: rest) a w := by
 obtain ⟨w', hrun, hb⟩ := run_clearS hown;refine wpList_plain hgd fun K hK => ?_
 unfold Oper.wp;simp [execOp, ho, resolve, invoke, builtin, hs, hrun, Result.andThen];exact hK _ _ (h w' hb)
theorem ownBlk {α : Type} {E : Enc α} {e : TypeId} {B : Nat} {w : World} {v : Value} {xs : List α} (h : Own E e B w v xs) (hne : xs ≠ []) : ∃ g c cur, v = .slice (some ⟨g, 0, none⟩) xs.length c ∧ xs.length ≤ c ∧ B ≤ g ∧ Blk w g e cur ∧ xs.length * E.sz ≤ cur.size := by
 rcases h.2 with ⟨rfl, hn⟩ | ⟨g, cap, cur, rfl, hBg, hg, hnc, hcm, hcs, htk⟩
 ·exact absurd (List.length_eq_zero_iff.1 hn) hne
 ·exact ⟨g, cap, cur, rfl, hnc, hBg, hg, by rw [hcs]; exact Nat.mul_le_mul_right _ hnc⟩
def EdOwn (B : Nat) (w : World) (r : EdV) : Prop := Own strE 9 B w (.slice r.A r.old.length r.c) r.old ∧ Own strE 9 B w (.slice r.A' r.new.length r.c') r.new
theorem EdOwn.ok {B : Nat} {w : World} {r : EdV} (h : EdOwn B w r) : EdOk w r := by
 obtain ⟨h1, h2⟩ := h;obtain ⟨_, _, e1, c1, _⟩ := h1.form;obtain ⟨_, _, e2, c2, _⟩ := h2.form;injection e1 with _ _ e1;injection e2 with _ _ e2;subst e1 e2;exact ⟨h1.sl, h2.sl, c1, c2⟩
theorem EdOwn.below {B : Nat} {w w' : World} {r : EdV} (h : EdOwn B w r) (hb : Below w.heap.size w w') : EdOwn B w' r := ⟨h.1.below hb, h.2.below hb⟩
theorem ownSet {B : Nat} {w : World} {v : Value} {xs : List ByteArray} (h : Own strE 9 B w v xs) {g o : Nat} {cs : Array Value} {t : TypeId} (hB : Blk w g t cs) (ht : t ≠ 9) (u : Value) : Own strE 9 B (w.setCell ⟨g, o, none⟩ u) v xs :=
 h.keep (by simp [World.setCell]) fun b hb => Below.heap_setCell w ⟨g, o, none⟩ u b fun e => ownNeBlk h hB ht (by rw [hb, e])
theorem EdOwn.set_ {B : Nat} {w : World} {r : EdV} (h : EdOwn B w r) {g o : Nat} {cs : Array Value} {t : TypeId} (hB : Blk w g t cs) (ht : t ≠ 9) (u : Value) : EdOwn B (w.setCell ⟨g, o, none⟩ u) r := ⟨ownSet h.1 hB ht u, ownSet h.2 hB ht u⟩
theorem map_set_same {α β : Type} {f : α → β} {l : List α} {k : Nat} {x y : α} (hx : l[k]? = some x) (h : f y = f x) : (l.set k y).map f = l.map f := by
 obtain ⟨hk, rfl⟩ := List.getElem?_eq_some_iff.1 hx;have e : (l.map f)[k]'(by simpa using hk) = f l[k] := List.getElem_map ..;rw [List.map_set, h, ← e, List.set_getElem_self]
set_option maxHeartbeats 4000000 in
theorem ownEd_spec (A : Option Addr) (vs : List EdV) (c : Nat) (w : World) (hm : vs.length ≤ 1000) (hs : Sl edE w A vs) (hok : ∀ r ∈ vs, EdOk w r) (hb1 : ∀ r ∈ vs, r.old.length ≤ big ∧ r.new.length ≤ big) :
  Calls Tryz.prog 48 #[.slice A vs.length c] w fun e w' => ∃ v, e = .returned v ∧ ∃ us : List EdV, Own edE 36 w.heap.size w' v us ∧ us.map EdV.ed = vs.map EdV.ed ∧ (∀ r ∈ us, EdOk w' r) ∧ Below w.heap.size w w' := by
 have HB1 := lH hb1;have HE0 : Hid (∀ (W : World), ∀ r ∈ vs, EdOk w r ∨ EdOwn w.heap.size W r) := lH fun W r hr => .inl (hok r hr)
 have HOK := lH hok;clear hb1 hok
 go_enter Tryz.func48, Tryz.ntmps48
 (go_wp2_with fail);refine (dupEd A vs c w (by unfold big; omega) hs).mono ?_;rintro e w1 ⟨v1, rfl, ho1, hb1⟩;obtain ⟨D1, d1, rfl, hd1, _⟩ := ho1.form;have HO0 := lH ho1;clear ho1 hd1;(go_wp2_with fail)
 go_loopw [4, 5, 10] (fun _ _ i wr => ∃ (k : Nat) (us : List EdV), k ≤ vs.length ∧ i = iv (k : Int) ∧ Hid (Own edE 36 w.heap.size wr (.slice D1 vs.length d1) us) ∧ Hid (us.map EdV.ed = vs.map EdV.ed) ∧ Hid (∀ r ∈ us, EdOk w r ∨ EdOwn w.heap.size wr r) ∧ Below w.heap.size w wr) (fun _ _ i _ => vs.length - (intOf i).toNat)
 case atStart => exact ⟨0, vs, Nat.zero_le _, rfl, HO0, rfl, lH (HE0.out _), hb1⟩
 case round =>
  clear HO0 HE0 hb1;obtain ⟨k, us, hk, rfl, HO, HM, HE, hbr⟩ := hrel
  by_cases hlt : k < vs.length
  ·have hki : (k : Int) < (vs.length : Int) := (by omega);obtain ⟨b, o, y, rfl, hb, hy, hc0, hc1, hc2⟩ := Sl.atEd (hs.below hbr) hlt;have hyb := HB1.out y (mem_at hy);have HYK := lH (HOK.out y (mem_at hy));have hul : us.length = vs.length := by have := congrArg List.length HM.out; rwa [List.length_map, List.length_map] at this
   have hne : us ≠ [] := by intro e; rw [e] at hul; simp at hul; omega
   obtain ⟨g, cc, cur, eg, hgc, hgB, hgb, hgs⟩ := ownBlk HO.out hne;rw [hul] at eg hgs;injection eg with e1 _ e3;subst e1 e3;obtain ⟨z, hz⟩ : ∃ z, us[k]? = some z := ⟨_, List.getElem?_eq_getElem (by omega)⟩
   have hze : z.ed = y.ed := by
    have h1 : (us.map EdV.ed)[k]? = some z.ed := by rw [List.getElem?_map, hz]; rfl
    rw [HM.out, List.getElem?_map, hy] at h1;exact (Option.some.inj h1).symm
   have HZ := lH hz;have HZE := lH hze;have hcur : k * 3 + 2 < cur.size := by have : vs.length * 3 ≤ cur.size := hgs; omega
   clear hul hne hz hze hy hgs;obtain ⟨ya, yA, yc, yo, yA', yc', yn⟩ := y;simp only at hc0 hc1 hc2 hyb HYK;have hbM : Below wr.heap.size wr (wr.alloc (.cells #[iv ya, .slice yA yo.length yc, .slice yA' yn.length yc'] 36)) := rB.alloc nL _;have hM : Blk (wr.alloc (.cells #[iv ya, .slice yA yo.length yc, .slice yA' yn.length yc'] 36)) wr.heap.size 36 #[iv ya, .slice yA yo.length yc, .slice yA' yn.length yc'] := Blk.new _ _ _;have hb04 := hbr.next hbM nL;have HO4 := lH (HO.out.below hbM);have HG4 := lH (hgb.under hbM);have HE4 : Hid (∀ r ∈ us, EdOk w r ∨ EdOwn w.heap.size (wr.alloc (.cells #[iv ya, .slice yA yo.length yc, .slice yA' yn.length yc'] 36)) r) := lH fun r hr => (HE.out r hr).imp id fun h => h.below hbM
   go_upto_region 5 with fail
   generalize wr.alloc (.cells #[iv ya, .slice yA yo.length yc, .slice yA' yn.length yc'] 36) = w4 at *;have HD1 : Hid (∀ x, Below w.heap.size w x → Calls Tryz.prog 32 #[.slice yA yo.length yc] x fun e w' => ∃ v, e = .returned v ∧ Own strE 9 x.heap.size w' v yo ∧ Below x.heap.size x w') := lH fun x h => dupS yA yo yc x hyb.1 (HYK.out.old.below h)
   have HD2 : Hid (∀ x, Below w.heap.size w x → Calls Tryz.prog 32 #[.slice yA' yn.length yc'] x fun e w' => ∃ v, e = .returned v ∧ Own strE 9 x.heap.size w' v yn ∧ Below x.heap.size x w') := lH fun x h => dupS yA' yn yc' x hyb.2 (HYK.out.new.below h)
   have hml := hM.lt;have HMX := lH hM;have hgX : g ≠ wr.heap.size := by have := hgb.lt; omega
   have hgXs : wr.heap.size < w4.heap.size := hml;generalize wr.heap.size = gX at *;clear hbM hM hgb hc0 hc1 hc2 HO HE hbr;have HC0 : Hid (∀ x, Below w4.heap.size w4 x → Below w.heap.size w x ∧ w4.heap.size ≤ x.heap.size ∧ x.cell? ⟨gX, 1, none⟩ = some (.slice yA yo.length yc) ∧ x.cell? ⟨gX, 2, none⟩ = some (.slice yA' yn.length yc')) := lH fun x h => ⟨hb04.next h nL, h.size, (HMX.out.under h).cell 1, (HMX.out.under h).cell 2⟩
   have HC1 : Hid (∀ (x0 x : World) (u : Value), Below w4.heap.size w4 x0 → Below x0.heap.size (x0.setCell ⟨g, k * 3 + 1, none⟩ u) x → Below w.heap.size w x ∧ w4.heap.size ≤ x.heap.size ∧ x.cell? ⟨gX, 1, none⟩ = some (.slice yA yo.length yc) ∧ x.cell? ⟨gX, 2, none⟩ = some (.slice yA' yn.length yc')) := lH fun x0 x u h0 h1 => by
    have hz : (x0.setCell ⟨g, k * 3 + 1, none⟩ u).heap.size = x0.heap.size := by simp [World.setCell]
    have hM2 := ((HMX.out.under h0).far (p := ⟨g, k * 3 + 1, none⟩) (fun e => hgX e.symm) u).under (hz ▸ h1);refine ⟨((hb04.next h0 nL).setCell (p := ⟨g, k * 3 + 1, none⟩) hgB u).trans (h1.mono ?_), ?_, hM2.cell 1, hM2.cell 2⟩
    ·have := hb04.size; have := h0.size; omega
    ·have := h1.size; rw [hz] at this; have := h0.size; omega
   have HST : ∀ {x x' : World} {v : Value} {xs : List ByteArray}, Own strE 9 w.heap.size x v xs → (∃ u, x' = x.setCell ⟨g, k * 3 + 1, none⟩ u ∧ Below w4.heap.size w4 x) → Own strE 9 w.heap.size x' v xs := fun h hS => by
    obtain ⟨u, rfl, hb⟩ := hS;exact ownSet h (HG4.out.under hb) (by decide) u
   refine wp_mid_lit (by kernel_rfl) 13 (by kernel_rfl) (by kernel_rfl) (by decide) 12 (by decide) (fun x => Below w.heap.size w x ∧ w4.heap.size ≤ x.heap.size ∧ x.cell? ⟨gX, 1, none⟩ = some (.slice yA yo.length yc) ∧ x.cell? ⟨gX, 2, none⟩ = some (.slice yA' yn.length yc')) (fun x => Below w4.heap.size w4 x) (fun v x => ∃ x0, Below w4.heap.size w4 x0 ∧ Below x0.heap.size (x0.setCell ⟨g, k * 3 + 1, none⟩ (v 6)) x) (fun x x' => Below x.heap.size x x') (fun x x' => ∃ u, x' = x.setCell ⟨g, k * 3 + 1, none⟩ u ∧ Below w4.heap.size w4 x)
    [fun _ u _ => u = .slice (some ⟨g, 0, none⟩) vs.length d1,
     fun _ u _ => u = iv (k : Int),
     fun _ u _ => u = .slice (some ⟨g, 0, none⟩) vs.length d1,
     fun _ u _ => u = iv (k : Int),
     fun _ u _ => u = .pointer (some ⟨gX, 1, none⟩),
     fun _ u _ => u = .slice yA yo.length yc,
     fun _ u x => ∃ A1 c1, u = .slice A1 yo.length c1 ∧ Own strE 9 w.heap.size x (.slice A1 yo.length c1) yo,
     fun _ u _ => u = .pointer (some ⟨gX, 2, none⟩),
     fun _ u _ => u = .slice yA' yn.length yc',
     fun _ u x => ∃ A1 c1, u = .slice A1 yn.length c1 ∧ Own strE 9 w.heap.size x (.slice A1 yn.length c1) yn,
     fun _ u _ => u = .pointer (some ⟨g, k * 3, none⟩),
     fun _ u _ => u = .pointer (some ⟨g, k * 3 + 1, none⟩),
     fun _ _ _ => True]
    ((Below.refl _ w4).drew) (fun x h => HC0.out x h) (fun v x ⟨x0, h0, h1⟩ => HC1.out x0 x _ h0 h1) (fun x x' h hS => h.next hS nL) (fun v x x' ⟨x0, h0, h1⟩ hS => ⟨x0, h0, h1.next hS (by simp [World.setCell])⟩) (fun v v' x h ⟨x0, h0, h1⟩ => ⟨x0, h0, by rw [← h 6 (by kernel_rfl)]; exact h1⟩) ?_ ?_
   ·simp only [List.take_succ_cons, List.take_zero, MidL];refine ⟨?_, ?_, ?_, ?_, ?_, ?_, ?_, ?_, ?_, ?_, ?_, ?_, ?_, trivial⟩
    ·refine mid_plain (by decide) (fun _ _ _ _ _ h => h) (fun _ _ _ _ h _ => h) (fun _ _ _ _ h _ => h) fun v x hC hk => ?_
     simp only [List.take_succ_cons, List.take_zero, frameF, Act.put, List.setIfInBounds_toArray, List.set_cons_zero, List.set_cons_succ];exact stepF_val (by first | rfl | simp [Region.wanted, yielded, *]) (by go_simp <;> omega) ⟨rfl, rB⟩
    ·refine mid_plain (by decide) (fun _ _ _ _ _ h => h) (fun _ _ _ _ h _ => h) (fun _ _ _ _ h _ => h) fun v x hC hk => ?_
     simp only [List.take_succ_cons, List.take_zero, frameF, Act.put, List.setIfInBounds_toArray, List.set_cons_zero, List.set_cons_succ];exact stepF_val (by first | rfl | simp [Region.wanted, yielded, *]) (by go_simp <;> omega) ⟨rfl, rB⟩
    ·refine mid_plain (by decide) (fun _ _ _ _ _ h => h) (fun _ _ _ _ h _ => h) (fun _ _ _ _ h _ => h) fun v x hC hk => ?_
     simp only [List.take_succ_cons, List.take_zero, frameF, Act.put, List.setIfInBounds_toArray, List.set_cons_zero, List.set_cons_succ];exact stepF_val (by first | rfl | simp [Region.wanted, yielded, *]) (by go_simp <;> omega) ⟨rfl, rB⟩
    ·refine mid_plain (by decide) (fun _ _ _ _ _ h => h) (fun _ _ _ _ h _ => h) (fun _ _ _ _ h _ => h) fun v x hC hk => ?_
     simp only [List.take_succ_cons, List.take_zero, frameF, Act.put, List.setIfInBounds_toArray, List.set_cons_zero, List.set_cons_succ];exact stepF_val (by first | rfl | simp [Region.wanted, yielded, *]) (by go_simp <;> omega) ⟨rfl, rB⟩
    ·refine mid_plain (by decide) (fun _ _ _ _ _ h => h) (fun _ _ _ _ h _ => h) (fun _ _ _ _ h _ => h) fun v x hC hk => ?_
     have hgx : gX < x.heap.size := Nat.lt_of_lt_of_le hgXs hC.2.1;simp only [List.take_succ_cons, List.take_zero, frameF, Act.put, List.setIfInBounds_toArray, List.set_cons_zero, List.set_cons_succ];exact stepF_val (by first | rfl | simp [Region.wanted, yielded, *]) (by go_simp <;> omega) ⟨rfl, rB⟩
    ·refine mid_plain (by decide) (fun _ _ _ _ _ h => h) (fun _ _ _ _ h _ => h) (fun _ _ _ _ h _ => h) fun v x hC hk => ?_
     have h4 : v 4 = .pointer (some ⟨gX, 1, none⟩) := hk 4 (by kernel_rfl) (by decide);have g1 := hC.2.2.1;simp only [List.take_succ_cons, List.take_zero, frameF, Act.put, List.setIfInBounds_toArray, List.set_cons_zero, List.set_cons_succ];exact stepF_val (by first | rfl | simp [Region.wanted, yielded, *]) (by go_simp <;> omega) ⟨rfl, rB⟩
    ·refine mid_plain (by decide) (fun _ _ _ _ _ h => h) (fun _ _ _ _ h hS => (by obtain ⟨A1, c1, e0, o1⟩ := h; exact ⟨A1, c1, e0, o1.below hS⟩)) (fun _ _ _ _ h hS => (by obtain ⟨A1, c1, e0, o1⟩ := h; exact ⟨A1, c1, e0, HST o1 hS⟩)) fun v x hC hk => ?_
     have h5 : v 5 = .slice yA yo.length yc := hk 5 (by kernel_rfl) (by decide);simp only [List.take_succ_cons, List.take_zero, frameF, Act.put, List.setIfInBounds_toArray, List.set_cons_zero, List.set_cons_succ];refine stepF_call (by rfl) (by go_simp) (HD1.out x hC.1) ?_;rintro e x' ⟨u, rfl, ho, hb⟩;obtain ⟨A1, c1, rfl, _, _⟩ := ho.form;exact ⟨_, rfl, ⟨A1, c1, rfl, ho.base hC.1.size⟩, hb⟩
    ·refine mid_plain (by decide) (fun _ _ _ _ _ h => h) (fun _ _ _ _ h _ => h) (fun _ _ _ _ h _ => h) fun v x hC hk => ?_
     have hgx : gX < x.heap.size := Nat.lt_of_lt_of_le hgXs hC.2.1;simp only [List.take_succ_cons, List.take_zero, frameF, Act.put, List.setIfInBounds_toArray, List.set_cons_zero, List.set_cons_succ];exact stepF_val (by first | rfl | simp [Region.wanted, yielded, *]) (by go_simp <;> omega) ⟨rfl, rB⟩
    ·refine mid_plain (by decide) (fun _ _ _ _ _ h => h) (fun _ _ _ _ h _ => h) (fun _ _ _ _ h _ => h) fun v x hC hk => ?_
     have h7 : v 7 = .pointer (some ⟨gX, 2, none⟩) := hk 7 (by kernel_rfl) (by decide);have g1 := hC.2.2.2;simp only [List.take_succ_cons, List.take_zero, frameF, Act.put, List.setIfInBounds_toArray, List.set_cons_zero, List.set_cons_succ];exact stepF_val (by first | rfl | simp [Region.wanted, yielded, *]) (by go_simp <;> omega) ⟨rfl, rB⟩
    ·refine mid_plain (by decide) (fun _ _ _ _ _ h => h) (fun _ _ _ _ h hS => (by obtain ⟨A2, c2, e0, o2⟩ := h; exact ⟨A2, c2, e0, o2.below hS⟩)) (fun _ _ _ _ h hS => (by obtain ⟨A2, c2, e0, o2⟩ := h; exact ⟨A2, c2, e0, HST o2 hS⟩)) fun v x hC hk => ?_
     have h8 : v 8 = .slice yA' yn.length yc' := hk 8 (by kernel_rfl) (by decide);simp only [List.take_succ_cons, List.take_zero, frameF, Act.put, List.setIfInBounds_toArray, List.set_cons_zero, List.set_cons_succ];refine stepF_call (by rfl) (by go_simp) (HD2.out x hC.1) ?_;rintro e x' ⟨u, rfl, ho, hb⟩;obtain ⟨A1, c1, rfl, _, _⟩ := ho.form;exact ⟨_, rfl, ⟨A1, c1, rfl, ho.base hC.1.size⟩, hb⟩
    ·refine mid_plain (by decide) (fun _ _ _ _ _ h => h) (fun _ _ _ _ h _ => h) (fun _ _ _ _ h _ => h) fun v x hC hk => ?_
     have h0 : v 0 = .slice (some ⟨g, 0, none⟩) vs.length d1 := hk 0 (by kernel_rfl) (by decide);have h1 : v 1 = iv (k : Int) := hk 1 (by kernel_rfl) (by decide);simp only [List.take_succ_cons, List.take_zero, frameF, Act.put, List.setIfInBounds_toArray, List.set_cons_zero, List.set_cons_succ];exact stepF_val (by first | rfl | simp [Region.wanted, yielded, *]) (by go_simp <;> omega) ⟨rfl, rB⟩
    ·refine mid_plain (by decide) (fun _ _ _ _ _ h => h) (fun _ _ _ _ h _ => h) (fun _ _ _ _ h _ => h) fun v x hC hk => ?_
     have h10 : v 10 = .pointer (some ⟨g, k * 3, none⟩) := hk 10 (by kernel_rfl) (by decide);simp only [List.take_succ_cons, List.take_zero, frameF, Act.put, List.setIfInBounds_toArray, List.set_cons_zero, List.set_cons_succ];exact stepF_val (by first | rfl | simp [Region.wanted, yielded, *]) (by go_simp <;> omega) ⟨rfl, rB⟩
    ·refine mid_special rfl fun v x hR hk => ?_
     have h11 : v 11 = .pointer (some ⟨g, k * 3 + 1, none⟩) := hk 11 (by kernel_rfl) (by decide);obtain ⟨A1, c1, h6, o1⟩ := hk 6 (by kernel_rfl) (by decide);have hG := HG4.out.under hR;have r1 := hG.cell (k * 3 + 1);rw [Array.getElem?_eq_getElem (by omega)] at r1;have f1 := hG.frozen (k * 3 + 1);have hgl := hG.lt;simp only [List.take_succ_cons, List.take_zero, frameF, Act.put, List.setIfInBounds_toArray, List.set_cons_zero, List.set_cons_succ];exact stepF_store (w' := x.setCell ⟨g, k * 3 + 1, none⟩ (.slice A1 yo.length c1)) (by rfl) (by go_simp) ⟨⟨x, hR, by rw [h6]; exact rB⟩, ⟨_, rfl, hR⟩⟩
   ·intro v x1 hR hall;have h2 : v 2 = .slice (some ⟨g, 0, none⟩) vs.length d1 := hall 2 (by decide) (by decide);have h3 : v 3 = iv (k : Int) := hall 3 (by decide) (by decide);obtain ⟨A1, c1, h6, o1⟩ := hall 6 (by decide) (by decide);obtain ⟨A2, c2, h9, o2⟩ := hall 9 (by decide) (by decide);clear hall;simp only [List.drop_succ_cons, List.drop_zero, List.take_succ_cons, List.take_zero, frameF, Act.put, List.setIfInBounds_toArray, List.set_cons_zero, List.set_cons_succ, Nat.zero_add, Nat.reduceAdd, h2, h3, h6, h9];obtain ⟨x0, h0', h1'⟩ := hR;rw [h6] at h1';have hz : (x0.setCell ⟨g, k * 3 + 1, none⟩ (.slice A1 yo.length c1)).heap.size = x0.heap.size := by simp [World.setCell]
    have h1'' : Below (x0.setCell ⟨g, k * 3 + 1, none⟩ (.slice A1 yo.length c1)).heap.size (x0.setCell ⟨g, k * 3 + 1, none⟩ (.slice A1 yo.length c1)) x1 := hz.symm ▸ h1';have hb01 := (HC1.out x0 x1 _ h0' h1').1;have hG0 := HG4.out.under h0';have hG := (hG0.set_ (k * 3 + 1) (.slice A1 yo.length c1)).under h1'';have r2 := hG.cell (k * 3 + 2);rw [Array.getElem?_eq_getElem (by rw [Array.size_setIfInBounds]; omega)] at r2;have f2 := hG.frozen (k * 3 + 2);have hgl := hG.lt
    have HOX : Hid (Own edE 36 w.heap.size (x1.setCell ⟨g, k * 3 + 2, none⟩ (.slice A2 yn.length c2)) (.slice (some ⟨g, 0, none⟩) vs.length d1) (us.set k ⟨z.at_, A1, c1, yo, A2, c2, yn⟩)) := lH (by
     have h1 := Own.setAt (k := k) (j := 1) (x := z) (y := { z with A := A1, c := c1, old := yo }) (u := .slice A1 yo.length c1) (HO4.out.below h0') HZ.out (by simp [edE]) (by decide)
     have h2 := Own.setAt (k := k) (j := 2) (x := { z with A := A1, c := c1, old := yo }) (y := { z with A := A1, c := c1, old := yo, A' := A2, c' := c2, new := yn }) (u := .slice A2 yn.length c2) (h1.below h1'') (by
      have := (List.getElem?_eq_some_iff.1 HZ.out).1;rw [List.getElem?_set_self this]) (by simp [edE]) (by decide)
     rw [List.set_set] at h2;exact h2)
    have HMX2 : Hid ((us.set k ⟨z.at_, A1, c1, yo, A2, c2, yn⟩).map EdV.ed = vs.map EdV.ed) := lH (by
     rw [map_set_same HZ.out, HM.out];have h := HZE.out;unfold EdV.ed at h ⊢;injection h with h1 h2 h3;rw [h2, h3])
    have HEX : Hid (∀ r ∈ us.set k ⟨z.at_, A1, c1, yo, A2, c2, yn⟩, EdOk w r ∨ EdOwn w.heap.size (x1.setCell ⟨g, k * 3 + 2, none⟩ (.slice A2 yn.length c2)) r) := lH fun r hr => by
     rcases List.mem_or_eq_of_mem_set hr with h | rfl
     ·exact (HE4.out r h).imp id fun h => (((h.below h0').set_ hG0 (by decide) _).below h1'').set_ hG (by decide) _
     ·exact .inr (EdOwn.set_ ⟨o1, o2⟩ hG (by decide) _)
    have hb05 : Below w.heap.size w (x1.setCell ⟨g, k * 3 + 2, none⟩ (.slice A2 yn.length c2)) := hb01.setCell (p := ⟨g, k * 3 + 2, none⟩) hgB _;clear hG hG0 o1 o2 HO4 HE4 HG4 HM h0' h1' h1'' HST HC0 HC1;(go_wp2_with fail);go_roundw
    case rel => exact ⟨k + 1, _, by omega, by go_num, HOX, HMX2, HEX, hb05⟩
    case measure => simp [intOf]; omega
  ·have hki : ¬ (k : Int) < (vs.length : Int) := (by omega);(go_wp2_with fail);go_ret;exact ⟨_, rfl, us, HO.out, HM.out, fun r hr => (HE.out r hr).elim (fun h => h.below hbr) fun h => h.ok, hbr⟩
end Fl
end
end Go.Proofs.YtblgkmdadholmabGreatDoor
section
namespace Go.Proofs.YtblgkmdadholmabGreatDoor
namespace File
theorem make_ref {f : List ByteArray} {c : List (Edit ByteArray)} : makeAns f c = if check f = 0 then (if checkChange c = 0 then refMake f c else ([], checkChange c)) else ([], check f) := by
 by_cases h : check f = 0
 ·by_cases h2 : checkChange c = 0
  ·rw [if_pos h, if_pos h2, refMake_eq h h2]
  ·unfold makeAns; rw [if_pos h, if_neg h2, if_pos h, if_neg h2]
 ·unfold makeAns; rw [if_neg h, if_neg h]
theorem back_none {c : List (Edit ByteArray)} (h : (backAns c).2 ≠ 0) : (backAns c).1 = [] := by
 unfold backAns at h ⊢
 split
 ·rename_i hz
  rw [if_pos hz] at h
  split
  ·rename_i l hl
   rw [hl] at h;exact absurd rfl h
  ·rfl
 ·rfl
theorem cost_drop {c : List (Edit ByteArray)} {k : Nat} {x : Edit ByteArray} (h : c[k]? = some x) : cost (c.drop k) = x.old.length + x.new.length + cost (c.drop (k + 1)) := by
 obtain ⟨hk, rfl⟩ := List.getElem?_eq_some_iff.1 h;rw [List.drop_eq_getElem_cons hk];rfl
theorem cost_le {K : Nat} : ∀ {c : List (Edit ByteArray)}, (∀ x ∈ c, x.old.length ≤ K ∧ x.new.length ≤ K) → cost c ≤ c.length * (2 * K)
 | [], _ => by simp [cost]
 | x :: r, h => by
  have ih := cost_le (c := r) fun y hy => h y (List.mem_cons_of_mem _ hy)
  have hx := h x (by simp);have : ((x :: r).length * (2 * K) : Nat) = r.length * (2 * K) + 2 * K := by simp [Nat.add_mul]
  rw [this];unfold cost;omega
theorem try_mem {K : Nat} : ∀ {c : List (Edit ByteArray)} {n : Int} {l : List (Edit ByteArray)}, backTry n c = some l → (∀ x ∈ c, x.old.length ≤ K ∧ x.new.length ≤ K) → l.length = c.length ∧ ∀ x ∈ l, x.old.length ≤ K ∧ x.new.length ≤ K
 | [], _, _, h, _ => by
  unfold backTry at h
  cases h
  exact ⟨rfl, fun _ h => by cases h⟩
 | x :: r, n, l, h, hk => by
  unfold backTry at h
  split at h
  ·cases h
  ·rw [Option.map_eq_some_iff] at h;obtain ⟨m, h1, rfl⟩ := h;obtain ⟨h2, h3⟩ := try_mem h1 fun y hy => hk y (List.mem_cons_of_mem _ hy)
   refine ⟨by simp [h2], fun y hy => ?_⟩
   rcases List.mem_cons.1 hy with rfl | hy
   ·have := hk x (by simp);exact ⟨this.2, this.1⟩
   ·exact h3 y hy
theorem backAns_mem {K : Nat} {c : List (Edit ByteArray)} (hk : ∀ x ∈ c, x.old.length ≤ K ∧ x.new.length ≤ K) : (backAns c).1.length ≤ c.length ∧ ∀ x ∈ (backAns c).1, x.old.length ≤ K ∧ x.new.length ≤ K := by
 unfold backAns
 split
 ·split
  ·rename_i l hl
   obtain ⟨h1, h2⟩ := try_mem hl hk;exact ⟨by simp [h1], h2⟩
  ·exact ⟨by simp, fun _ h => by cases h⟩
 ·exact ⟨by simp, fun _ h => by cases h⟩
theorem makeAns_len (f : List ByteArray) (c : List (Edit ByteArray)) : (makeAns f c).1.length ≤ 24 := by
 unfold makeAns
 split
 ·split
  ·split
   ·split
    ·simp
    ·simp; omega
   ·simp
  ·simp
 ·simp
end File
namespace Fl
open Go.RowKit Go.Shelf
theorem eds_own {B : Nat} {w : World} : ∀ {rs : List RawEd} {xs : List (File.Edit ByteArray)}, EdsR B w rs xs → ∃ vs : List EdV, vs.map EdV.ed = xs ∧ (∀ r ∈ vs, EdOwn B w r) ∧ vs.flatMap edE.cells = rs.flatMap rawE.cells ∧ vs.length = rs.length
 | [], [], _ => ⟨[], rfl, fun _ h => (by cases h), rfl, rfl⟩
 | r :: rs, x :: xs, ⟨h, h2⟩ => by
  obtain ⟨vs, k1, k2, k3, k4⟩ := eds_own h2;obtain ⟨p1, p2, p3, p4, p5⟩ := h;obtain ⟨a, A, n, c, A', n', c'⟩ := r;obtain ⟨xa, xo, xn⟩ := x;simp only at p1 p2 p3 p4 p5;subst p1 p2 p3;refine ⟨⟨a, A, c, xo, A', c', xn⟩ :: vs, by simp [EdV.ed, k1], fun r hr => ?_, by rw [List.flatMap_cons, List.flatMap_cons, k3]; rfl, by simp [k4]⟩
  rcases List.mem_cons.1 hr with rfl | hr
  ·exact ⟨p4, p5⟩
  ·exact k2 r hr
theorem Blk.clrs {B : Nat} {w w' : World} {g : Nat} {t : TypeId} {cs : Array Value} (h : Blk w g t cs) (ht : t ≠ 9) (hc : Clrs B w w') : Blk w' g t cs := (hc.other _ _ _ _ h ht).trans h
theorem edsBnd {us : List EdV} {L : List (File.Edit ByteArray)} {n m : Nat} (h : us.map EdV.ed = L) (hl : L.length ≤ n) (hm : ∀ x ∈ L, x.old.length ≤ m ∧ x.new.length ≤ m) : us.length ≤ n ∧ ∀ r ∈ us, r.old.length ≤ m ∧ r.new.length ≤ m := by
 refine ⟨by rw [← h, List.length_map] at hl; exact hl, fun r hr => hm r.ed (by rw [← h]; exact List.mem_map_of_mem hr)⟩
theorem diffBnd {a b : List ByteArray} {q : Prop} [Decidable q] (ha : a.length ≤ 30) (hb : b.length ≤ 30) : (if q then File.diff a b else []).length ≤ 31 ∧ ∀ x ∈ (if q then File.diff a b else []), x.old.length ≤ 60 ∧ x.new.length ≤ 60 := by
 split
 ·have := File.diff_len a b;exact ⟨by omega, fun x hx => by have := File.diff_mem hx; omega⟩
 ·exact ⟨by simp, fun _ h => by cases h⟩
theorem EdOwn.cl {B : Nat} {w : World} {r : EdV} (h : EdOwn B w r) : Cl B w (.slice r.A r.old.length r.c) ∧ Cl B w (.slice r.A' r.new.length r.c') := ⟨Own.cl h.1, Own.cl h.2⟩
set_option maxHeartbeats 16000000 in
theorem changes_law (A : Option Addr) (a : List ByteArray) (c : Nat) (A' : Option Addr) (b : List ByteArray) (c' : Nat) (V : Option Addr) (vs : List EdV) (d : Nat) (w : World) (hac : a.length ≤ c) (hbc : b.length ≤ c')
  (hsa : Sl strE w A a) (hsb : Sl strE w A' b) (hsv : Sl edE w V vs) (hok : ∀ r ∈ vs, EdOk w r) (ht : Tab w) :
  Calls Tryz.prog 13 #[.slice A a.length c, .slice A' b.length c', .slice V vs.length d] w fun e w' => e = .returned (.bool true) ∧ Below w.heap.size w w' := by
 have HT := lH ht;have HAW : Hid (∀ W, Below w.heap.size w W → Calls Tryz.prog 20 #[] W fun e w' => e = .returned (.bool true) ∧ Below W.heap.size W w') := lH fun W h => awake_spec W (HT.out.below h)
 have HGR := lH (great2row A a c A' b c' w hac hbc hsa hsb);have HLG := lH fun W (h : Below w.heap.size w W) => large_spec V vs d W (hsv.below h) (fun r hr => (hok r hr).below h)
 clear ht;obtain ⟨gr, hgr⟩ : ∃ gr, gr = (G.greatF a || G.greatF b) := ⟨_, rfl⟩;rw [← hgr] at HGR
 cases gr
 rotate_left
 ·clear hgr
  go_enter Tryz.func13, Tryz.ntmps13
  (go_wp2_with fail);refine HGR.out.mono ?_;rintro e w1 ⟨rfl, hb1⟩;(go_wp2_with fail);refine (HAW.out _ hb1).mono ?_;rintro _ wz ⟨rfl, hbz⟩;(go_wp2_with fail);go_ret;exact ⟨rfl, (hb1).next hbz nL⟩
 obtain ⟨lg, hlg⟩ : ∃ lg, lg = (decide (30 < vs.length) || vs.any largeE) := ⟨_, rfl⟩;rw [← hlg] at HLG
 cases lg
 rotate_left
 ·clear hgr hlg
  go_enter Tryz.func13, Tryz.ntmps13
  (go_wp2_with fail);refine HGR.out.mono ?_;rintro e w1 ⟨rfl, hb1⟩;(go_wp2_with fail);refine (HLG.out w1 hb1).mono ?_;rintro e w2 ⟨rfl, hb2⟩;have hb02 := hb1.next hb2 nL;(go_wp2_with fail);refine (HAW.out _ hb02).mono ?_;rintro _ wz ⟨rfl, hbz⟩;(go_wp2_with fail);go_ret;exact ⟨rfl, (hb02).next hbz nL⟩
 obtain ⟨hga, hgb⟩ := Bool.or_eq_false_iff.1 hgr.symm;obtain ⟨ha30, _⟩ := great_no hga;obtain ⟨hb30, _⟩ := great_no hgb;obtain ⟨hl1, hl2⟩ := Bool.or_eq_false_iff.1 hlg.symm;have hl30 : vs.length ≤ 30 := by have := of_decide_eq_false hl1; omega
 have hv30 : ∀ r ∈ vs, r.old.length ≤ 30 ∧ r.new.length ≤ 30 := fun r hr => by
  have h := List.any_eq_false.1 hl2 r hr;unfold largeE at h;obtain ⟨h1, h2⟩ := Bool.or_eq_false_iff.1 (by simpa using h);exact ⟨(great_no h1).1, (great_no h2).1⟩
 have hba : a.length ≤ big := by unfold big; omega
 have hbb : b.length ≤ big := by unfold big; omega
 have hvb : ∀ r ∈ vs, r.old.length ≤ big ∧ r.new.length ≤ big := fun r hr => by have := hv30 r hr; unfold big; omega
 clear hgr hlg hga hgb hl1 hl2
 go_enter Tryz.func13, Tryz.ntmps13
 (go_wp2_with fail);refine HGR.out.mono ?_;rintro e w1 ⟨rfl, hb1⟩;(go_wp2_with fail);refine (HLG.out w1 hb1).mono ?_;rintro e w2 ⟨rfl, hb2⟩;have hb02 := hb1.next hb2 nL;clear HGR HLG;(go_wp2_with fail);refine (dupS A a c w2 hba (hsa.below hb02)).mono ?_;rintro e w3 ⟨v, rfl, ho1, hb3⟩;obtain ⟨M1, m1, rfl, hm1, _⟩ := ho1.form;have hb03 := hb02.next hb3 nL;(go_wp2_with fail);refine (dupS A' b c' w3 hbb (hsb.below hb03)).mono ?_;rintro e w4 ⟨v, rfl, ho2, hb4⟩;obtain ⟨M2, m2, rfl, hm2, _⟩ := ho2.form;have hb04 := hb03.next hb4 nL;(go_wp2_with fail);refine (ownEd_spec V vs d w4 (by omega) (hsv.below hb04) (fun r hr => (hok r hr).below hb04) hvb).mono ?_;rintro e w5 ⟨v, rfl, us, ho3, hum, huk, hb5⟩;obtain ⟨M3, m3, rfl, hm3, _⟩ := ho3.form;have hb05 := hb04.next hb5 nL;have hul : us.length = vs.length := by have := congrArg List.length hum; rwa [List.length_map, List.length_map] at this
 have hu30 : us.length ≤ 30 := (by omega)
 have hub : ∀ r ∈ us, r.old.length ≤ big ∧ r.new.length ≤ big := fun r hr => by
  have h1 : r.ed ∈ vs.map EdV.ed := by rw [← hum]; exact List.mem_map_of_mem hr
  obtain ⟨z, hz, he⟩ := List.mem_map.1 h1;have h2 := hvb z hz;unfold EdV.ed at he;injection he with _ e1 e2;rw [← e1, ← e2]; exact h2
 have HS1 := lH fun W (h : Below w5.heap.size w5 W) => ho1.sl.below (hb4.next (hb5.next h nL) nL)
 have HS2 := lH fun W (h : Below w5.heap.size w5 W) => ho2.sl.below (hb5.next h nL)
 have HS3 := lH fun W (h : Below w5.heap.size w5 W) => ho3.sl.below h
 have HK3 : Hid (∀ W, Below w5.heap.size w5 W → ∀ r ∈ us, EdOk W r) := lH fun W h r hr => (huk r hr).below h
 have HSA := lH fun W (h : Below w5.heap.size w5 W) => hsa.below (hb05.next h nL)
 have HSB := lH fun W (h : Below w5.heap.size w5 W) => hsb.below (hb05.next h nL)
 have HSV := lH fun W (h : Below w5.heap.size w5 W) => hsv.below (hb05.next h nL)
 have HKV : Hid (∀ W, Below w5.heap.size w5 W → ∀ r ∈ vs, EdOk W r) := lH fun W h r hr => (hok r hr).below (hb05.next h nL)
 have HEA : Hid (∀ W, Below w5.heap.size w5 W → Calls Tryz.prog 26 #[.slice M1 a.length m1, .slice A a.length c] W fun e w' => e = .returned (.bool true) ∧ Below W.heap.size W w') := lH fun W h => by
  have := equalS M1 a m1 A a c W hba (HS1.out W h) hba (HSA.out W h)
  rwa [decide_eq_true rfl] at this
 have HEB : Hid (∀ W, Below w5.heap.size w5 W → Calls Tryz.prog 26 #[.slice M2 b.length m2, .slice A' b.length c'] W fun e w' => e = .returned (.bool true) ∧ Below W.heap.size W w') := lH fun W h => by
  have := equalS M2 b m2 A' b c' W hbb (HS2.out W h) hbb (HSB.out W h)
  rwa [decide_eq_true rfl] at this
 have HEV : Hid (∀ W, Below w5.heap.size w5 W → Calls Tryz.prog 59 #[.slice M3 us.length m3, .slice V vs.length d] W fun e w' => e = .returned (.bool true) ∧ Below W.heap.size W w') := lH fun W h => by
  have := same_spec M3 us m3 V vs d W (by unfold big; omega) (HS3.out W h) (by unfold big; omega) (HSV.out W h) (fun r hr => ⟨HK3.out W h r hr, hub r hr⟩) (fun r hr => ⟨HKV.out W h r hr, hvb r hr⟩)
  rwa [decide_eq_true hum] at this
 have HCA := lH fun W (h : Below w5.heap.size w5 W) => rcheck_spec A a c W hba (HSA.out W h)
 have HCB := lH fun W (h : Below w5.heap.size w5 W) => rcheck_spec A' b c' W hbb (HSB.out W h)
 have HTH := lH fun W (h : Below w5.heap.size w5 W) => theirs_spec V vs d W (by omega) (HSV.out W h)
 have HCC := lH fun W (h : Below w5.heap.size w5 W) => cc_spec M3 us m3 W (by omega) (HS3.out W h) (HK3.out W h) hub
 have HDF := lH fun W (h : Below w5.heap.size w5 W) => Diff_spec M1 a m1 M2 b m2 W hba hbb hm1 hm2 (HS1.out W h) (HS2.out W h)
 have HCO := lH fun W (h : Below w5.heap.size w5 W) => Cost_spec M3 us m3 W (by omega) (HS3.out W h) (HK3.out W h) hub
 have HMK := lH fun W (h : Below w5.heap.size w5 W) => make_spec M1 a m1 M3 us m3 W hba hm1 (HS1.out W h) (by omega) (HS3.out W h) (HK3.out W h) hub
 have HBK := lH fun W (h : Below w5.heap.size w5 W) => Back_spec M3 us m3 W (by omega) (HS3.out W h) (HK3.out W h) hub
 rw [hum] at HCC HCO HMK HBK;have HUM := lH hum;have HVB := lH hvb;have HV30 := lH hv30;clear hul hsa hsb hsv hok ho1 ho2 ho3 huk hb1 hb2 hb3 hb4 hb5 hb02 hb03 hb04 hub hum hvb hv30;obtain ⟨C, hC⟩ : ∃ C, C = vs.map EdV.ed := ⟨_, rfl⟩;rw [← hC] at HCC HCO HMK HBK HUM;have HC := lH hC;clear hC;obtain ⟨es, hes⟩ : ∃ es, es = File.check a := ⟨_, rfl⟩;obtain ⟨et, het⟩ : ∃ et, et = File.check b := ⟨_, rfl⟩;obtain ⟨ew, hew⟩ : ∃ ew, ew = File.checkChange C := ⟨_, rfl⟩;rw [← hes] at HCA;rw [← het] at HCB;have HES := lH hes;have HET := lH het;have HEW := lH hew;clear hes het hew;(go_wp2_with fail);refine (HCA.out w5 rB).mono ?_;rintro e w6 ⟨rfl, hb6⟩;(go_wp2_with fail);refine (HCB.out w6 hb6).mono ?_;rintro e w7 ⟨rfl, hb7⟩;have hb57 := hb6.next hb7 nL;(go_wp2_with fail);refine (HTH.out w7 hb57).mono ?_;rintro e w8 ⟨v, rfl, ho8, hb8⟩;obtain ⟨T8, t8, rfl, _, _⟩ := ho8.form
 have hb58 := hb57.next hb8 nL;(go_wp2_with fail);refine (rcc_spec T8 vs t8 w8 (by omega) ho8.sl (HKV.out w8 hb58) HVB.out).mono ?_;rintro e w9 ⟨rfl, hb9⟩;have hb59 := hb58.next hb9 nL;rw [← HC.out, ← HEW.out];clear HCA HCB ho8 hb6 hb7 hb8 hb9 hb57 hb58
 go_upto_region 9 with fail
 obtain ⟨z, hz⟩ : ∃ z, z = decide (es = 0 ∧ et = 0) := ⟨_, rfl⟩;have HZ := lH hz
 go_cut [63] from 58 to 63 (fun v wx => v = .bool z ∧ wx = w9)
 case first =>
  by_cases h1 : es = 0
  ·have e1 : (es == 0) = true := by rw [h1]; rfl
   by_cases h2 : et = 0
   ·have e2 : (et == 0) = true := by rw [h2]; rfl
    rw [decide_eq_true ⟨h1, h2⟩] at hz;subst hz;(go_wp2_with fail);go_meet;exact ⟨rfl, rfl⟩
   ·have e2 : (et == 0) = false := by simpa using h2
    rw [decide_eq_false (fun h => h2 h.2)] at hz;subst hz;(go_wp2_with fail);go_meet;exact ⟨rfl, rfl⟩
  ·have e1 : (es == 0) = false := by simpa using h1
   rw [decide_eq_false (fun h => h1 h.1)] at hz;subst hz;(go_wp2_with fail);go_meet;exact ⟨rfl, rfl⟩
 case rest =>
 obtain ⟨rfl, rfl⟩ := hcut;generalize wc = w9 at *;clear hz
 go_upto_if 63 with fail
 go_cut [16] (fun v16 wx => (∃ (D16 : Option Addr) (ds : List EdV) (d16 : Nat), v16 = .slice D16 ds.length d16 ∧ Hid (Sl edE wx D16 ds) ∧ Hid (ds.map EdV.ed = if es = 0 ∧ et = 0 then File.diff a b else []) ∧ Hid (∀ r ∈ ds, EdOk wx r)) ∧ Below w5.heap.size w5 wx)
 case first =>
  cases z
  ·have hn : ¬ (es = 0 ∧ et = 0) := of_decide_eq_false HZ.out.symm;(go_wp2_with fail);go_meet;exact ⟨⟨none, [], 0, rfl, lH Sl.nil, lH (by rw [if_neg hn]; rfl), lH (fun _ h => by cases h)⟩, hb59⟩
  ·have hy : es = 0 ∧ et = 0 := of_decide_eq_true HZ.out.symm;have HY := lH hy;have ga := good_of_check (HES.out.symm.trans hy.1);have gb := good_of_check (HET.out.symm.trans hy.2);have hRD := rdiff_spec A a c A' b c' w9 ga.many gb.many hac hbc (HSA.out w9 hb59) (HSB.out w9 hb59);have hdl := File.diff_len a b;clear hy ga gb;(go_wp2_with fail);refine hRD.mono ?_;rintro e w10 ⟨v, rfl, ds, ho, hds, hok, hb10⟩;obtain ⟨Ad, cd, rfl, _, _⟩ := ho.form;have hb510 := hb59.next hb10 nL;have hdl2 : ds.length ≤ 31 := by have := congrArg List.length hds; rw [List.length_map] at this; omega
   have hOU := ours_spec Ad ds cd w10 (by omega) ho.sl;have HK := lH hok;have HDS := lH hds;clear hok hds hRD ho;(go_wp2_with fail);refine hOU.mono ?_;rintro e w11 ⟨v, rfl, ho, hb11⟩;obtain ⟨Ae, ce, rfl, _, _⟩ := ho.form;have hb911 := hb10.next hb11 nL;(go_wp2_with fail);go_meet;exact ⟨⟨Ae, ds, ce, rfl, lH ho.sl, lH (by rw [if_pos HY.out]; exact HDS.out), lH fun r hr => (HK.out r hr).below hb911⟩, hb59.next hb911 nL⟩
 case rest =>
 obtain ⟨⟨D16, ds, d16, rfl, HD1, HD2, HD3⟩, hb510⟩ := hcut;clear hb59;generalize wc = w10 at *;obtain ⟨X, hX⟩ : ∃ X, X = (if ew = 0 then File.refMake a C else ([], ew)) := ⟨_, rfl⟩;obtain ⟨K0, hK0⟩ : ∃ K0 : Nat, K0 = (if ew = 0 then File.cost C else 0) := ⟨_, rfl⟩;obtain ⟨bA, hbA⟩ : ∃ bA, bA = File.backAns C := ⟨_, rfl⟩;have HX := lH hX;have HK0 := lH hK0;have HBA := lH hbA;clear hX hK0 hbA
 go_upto_if 69 with fail
 go_cut [13, 14, 15, 17, 18] (fun v13 v14 v15 v17 v18 wx => v13 = iv bA.2 ∧ v14 = iv X.2 ∧ v15 = iv (K0 : Int) ∧ (∃ (D17 : Option Addr) (bs : List EdV) (d17 : Nat), v17 = .slice D17 bs.length d17 ∧ Hid (Sl edE wx D17 bs) ∧ Hid (bs.map EdV.ed = bA.1) ∧ Hid (∀ r ∈ bs, EdOk wx r)) ∧ (∃ (D18 : Option Addr) (d18 : Nat), v18 = .slice D18 X.1.length d18 ∧ Hid (Sl strE wx D18 X.1)) ∧ Below w10.heap.size w10 wx)
 case first =>
  by_cases hw0 : ew = 0
  ·as_aux_lemma =>
   have hch : File.ChOk C := File.ch_of (HEW.out.symm.trans hw0);have hXe : X = File.refMake a C := by rw [HX.out, if_pos hw0]
   have hKe : K0 = File.cost C := by rw [HK0.out, if_pos hw0]
   have HKE := lH hKe
   have hK9 : K0 ≤ 2000 := by
    have h1 := File.cost_le (K := 30) (c := C) fun x hx => by
     rw [HC.out] at hx;obtain ⟨r, hr, rfl⟩ := List.mem_map.1 hx;exact HV30.out r hr
    have h2 : C.length = vs.length := by rw [HC.out, List.length_map]
    have h3 : C.length * (2 * 30) ≤ 30 * (2 * 30) := Nat.mul_le_mul_right _ (by omega);omega
   have HRB := lH fun W (h : Below w5.heap.size w5 W) (T : Option Addr) (t : Nat) (hT : Sl edE W T vs) => rback_spec T vs t W (by omega) hT (HKV.out W h) (by rw [← HC.out]; exact hch)
   have HRM := lH fun W (h : Below w5.heap.size w5 W) (T : Option Addr) (t : Nat) (hT : Sl edE W T vs) => rmake_spec A a c T vs t W ha30 hac (HSA.out W h) (by omega) hT (HKV.out W h) (by rw [← HC.out]; exact hch)
   simp only [← HC.out] at HRB HRM;simp only [← HBA.out] at HRB;rw [← hXe] at HRM;have hb1 : bA.2 ≠ 0 → bA.1 = [] := fun h => by rw [HBA.out] at h ⊢; exact File.back_none h
   have HBN := lH hb1;have hCe : ∀ (k : Nat) (r : EdV), vs[k]? = some r → C[k]? = some r.ed := fun k r h => by rw [HC.out, List.getElem?_map, h]; rfl
   have HCE := lH hCe;have HK1 : Hid (0 + File.cost (C.drop 0) = K0) := lH (by rw [hKe, List.drop_zero, Nat.zero_add]);subst hw0;clear hch hXe hKe hb1 hCe;(go_wp2_with fail)
   go_loopw [15, 20, 72] (fun m _ i wr => ∃ k n : Nat, k ≤ vs.length ∧ i = iv (k : Int) ∧ m = iv (n : Int) ∧ Hid (n + File.cost (C.drop k) = K0) ∧ Below w10.heap.size w10 wr) (fun _ _ i _ => vs.length - (intOf i).toNat)
   case atStart => exact ⟨0, 0, Nat.zero_le _, rfl, rfl, HK1, rB⟩
   case round =>
    clear HK1;obtain ⟨k, n, hk, rfl, rfl, HN, hbr⟩ := hrel;have hb5r := hb510.next hbr nL
    by_cases hlt : k < vs.length
    ·have hki : (k : Int) < (vs.length : Int) := (by omega);obtain ⟨bv, ov, y, eV, hbv, hy, hc0, hc1, hc2⟩ := Sl.atEd (HSV.out wr hb5r) hlt;subst eV
     have HN2 : Hid ((n + (y.old.length + y.new.length)) + File.cost (C.drop (k + 1)) = K0) := lH (by
      have h1 := HN.out;rw [File.cost_drop (HCE.out k y hy), ← Nat.add_assoc] at h1;exact h1)
     have hn9 := HN2.out;have hbM : Below wr.heap.size wr (wr.alloc (.cells #[iv y.at_, .slice y.A y.old.length y.c, .slice y.A' y.new.length y.c'] 36)) := rB.alloc nL _;have ew1 : IntKind.i64.wrap ((y.old.length : Int) + (y.new.length : Int)) = (y.old.length : Int) + (y.new.length : Int) := IntWalk.i64_in _ (by omega);have ew2 : IntKind.i64.wrap ((n : Int) + ((y.old.length : Int) + (y.new.length : Int))) = (n : Int) + ((y.old.length : Int) + (y.new.length : Int)) := IntWalk.i64_in _ (by omega);clear hn9 HN hy;(go_wp2_with fail);go_roundw
     case rel => exact ⟨k + 1, n + (y.old.length + y.new.length), by omega, by go_num, by go_num, HN2, hbr.next hbM nL⟩
     case measure => simp [intOf]; omega
    ·have hki : ¬ (k : Int) < (vs.length : Int) := (by omega)
     have hnK : n = K0 := by
      have h1 := HN.out;rw [List.drop_eq_nil_of_le (by rw [HC.out, List.length_map]; omega)] at h1;exact h1
     subst hnK;clear HN;generalize wr = w11 at *;(go_wp2_with fail);refine (HTH.out w11 hb5r).mono ?_;rintro e w12 ⟨v, rfl, ho12, hb12⟩;obtain ⟨T12, t12, rfl, _, _⟩ := ho12.form;have hb512 := hb5r.next hb12 nL;(go_wp2_with fail);refine (HRB.out w12 hb512 T12 t12 ho12.sl).mono ?_;rintro e w13 ⟨v, rfl, bs, ho13, hbs, hbk, hb13⟩;obtain ⟨T13, t13, rfl, _, _⟩ := ho13.form;have hb513 := hb512.next hb13 nL;have hb1013 := hbr.next (hb12.next hb13 nL) nL;have HBS := lH hbs;have HBK2 : Hid (∀ r ∈ bs, EdOk w13 r) := lH fun r hr => (hbk r hr).below hb13
     have HO13 := lH ho13.sl
     have hbl : bs.length ≤ 1000 := by
      have h1 := congrArg List.length hbs;rw [List.length_map] at h1
      have h2 := (File.backAns_mem (K := 30) (c := C) fun x hx => by
       rw [HC.out] at hx;obtain ⟨r, hr, rfl⟩ := List.mem_map.1 hx;exact HV30.out r hr).1
      rw [← HBA.out] at h2;have h3 : C.length = vs.length := by rw [HC.out, List.length_map]
      omega
     have hOU := lH (ours_spec T13 bs t13 w13 hbl ho13.sl);clear ho12 ho13 hbs hbk hb12 hb13 hbr hb5r HRB hb512;obtain ⟨u2, hu2⟩ : ∃ u2, u2 = bA.2 := ⟨_, rfl⟩;rw [← hu2];have HU2 := lH hu2;clear hu2
     go_upto_if 93 with fail
     go_cut [17] (fun v17 wx => (∃ (D17 : Option Addr) (bs : List EdV) (d17 : Nat), v17 = .slice D17 bs.length d17 ∧ Hid (Sl edE wx D17 bs) ∧ Hid (bs.map EdV.ed = bA.1) ∧ Hid (∀ r ∈ bs, EdOk wx r)) ∧ Below w13.heap.size w13 wx)
     case first =>
      by_cases hu0 : u2 = 0
      ·have e1 : (u2 == 0) = true := by rw [hu0]; rfl
       subst hu0;(go_wp2_with fail);refine hOU.out.mono ?_;rintro e w14 ⟨v, rfl, ho14, hb14⟩;obtain ⟨T14, t14, rfl, _, _⟩ := ho14.form;(go_wp2_with fail);go_meet;exact ⟨⟨T14, bs, t14, rfl, lH ho14.sl, HBS, lH fun r hr => (HBK2.out r hr).below hb14⟩, hb14⟩
      ·have e1 : (u2 == 0) = false := by simpa using hu0
       have HB0 : Hid (bA.1 = []) := lH (HBN.out (by rw [← HU2.out]; exact hu0));(go_wp2_with fail);go_meet;exact ⟨⟨none, [], 0, rfl, lH Sl.nil, lH (by rw [HB0.out]; rfl), lH (fun _ h => by cases h)⟩, rB⟩
     case rest =>
     obtain ⟨⟨D17, bs2, d17, rfl, HP1, HP2, HP3⟩, hb1314⟩ := hcut;generalize wc = w14 at *;have hb514 := hb513.next hb1314 nL;(go_wp2_with fail);refine (HTH.out w14 hb514).mono ?_;rintro e w15 ⟨v, rfl, ho15, hb15⟩;obtain ⟨T15, t15, rfl, _, _⟩ := ho15.form;have hb515 := hb514.next hb15 nL;(go_wp2_with fail);refine (HRM.out w15 hb515 T15 t15 ho15.sl).mono ?_;rintro e w16 ⟨v, rfl, ho16, hb16⟩;obtain ⟨T16, t16, rfl, _, _⟩ := ho16.form;have hb1416 := hb15.next hb16 nL;(go_wp2_with fail);go_meet;exact ⟨by rw [HU2.out], rfl, rfl, ⟨D17, bs2, d17, rfl, lH (HP1.out.below hb1416), HP2, lH fun r hr => (HP3.out r hr).below hb1416⟩, ⟨T16, t16, rfl, lH ho16.sl⟩, (hb1013.next hb1314 nL).next hb1416 nL⟩
  ·have e1 : (ew == 0) = false := by simpa using hw0
   have HXE : Hid (X = ([], ew)) := lH (by rw [HX.out, if_neg hw0]);have HKE : Hid (K0 = 0) := lH (by rw [HK0.out, if_neg hw0]);have HBE : Hid (bA = ([], ew)) := lH (by rw [HBA.out]; unfold File.backAns; rw [if_neg (by rw [← HEW.out]; exact hw0), ← HEW.out]);clear hw0;(go_wp2_with fail);go_meet;exact ⟨by rw [HBE.out], by rw [HXE.out], by rw [HKE.out]; rfl, ⟨none, [], 0, rfl, lH Sl.nil, lH (by rw [HBE.out]; rfl), lH (fun _ h => by cases h)⟩, ⟨none, 0, by rw [HXE.out]; rfl, lH (by rw [HXE.out]; exact Sl.nil)⟩, rB⟩
 case rest =>
 obtain ⟨rfl, rfl, rfl, ⟨D17, bs, d17, rfl, HP1, HP2, HP3⟩, ⟨D18, d18, rfl, HM1⟩, hb1011⟩ := hcut;generalize wc = w11 at *;have hb511 := hb510.next hb1011 nL;have HD1 := lH (HD1.out.below hb1011);have HD3 : Hid (∀ r ∈ ds, EdOk w11 r) := lH fun r hr => (HD3.out r hr).below hb1011
 obtain ⟨E, hE⟩ : ∃ E, E = errOf a b := ⟨_, rfl⟩;obtain ⟨MA, hMA⟩ : ∃ MA, MA = File.makeAns a C := ⟨_, rfl⟩;have hK : (if ew = 0 then ((File.cost C : Nat) : Int) else 0) = (K0 : Int) := by rw [HK0.out]; split <;> rfl
 simp only [← hE] at HDF;simp only [← hMA] at HMK;simp only [← HBA.out] at HBK;simp only [← HEW.out] at HCC HCO;simp only [hK] at HCO;have HE : Hid (E = if es = 0 then et else es) := lH (by rw [hE, HES.out, HET.out]; rfl);have HMA : Hid (MA = if es = 0 then X else ([], es)) := lH (by rw [hMA, File.make_ref, HX.out, HES.out, HEW.out]);have HML : Hid (MA.1.length ≤ 24) := lH (by rw [hMA]; exact File.makeAns_len _ _)
 have HBM : Hid (bA.1.length ≤ 30 ∧ ∀ x ∈ bA.1, x.old.length ≤ 30 ∧ x.new.length ≤ 30) := lH (by
  rw [HBA.out]
  have h := File.backAns_mem (K := 30) (c := C) fun x hx => by
   rw [HC.out] at hx;obtain ⟨r, hr, rfl⟩ := List.mem_map.1 hx;exact HV30.out r hr
  have h3 : C.length = vs.length := by rw [HC.out, List.length_map]
  exact ⟨by omega, h.2⟩)
 clear hE hMA hK hb510 hb1011
 go_upto_if 104 with fail
 go_cut [14, 18] (fun v14 v18 wx => v14 = iv MA.2 ∧ (∃ (D18 : Option Addr) (d18 : Nat), v18 = .slice D18 MA.1.length d18 ∧ Hid (Sl strE w11 D18 MA.1)) ∧ wx = w11)
 case first =>
  by_cases h0 : es = 0
  ·have e1 : (es != 0) = false := by rw [h0]; rfl
   have HM0 : Hid (MA = X) := lH (by rw [HMA.out, if_pos h0]);(go_wp2_with fail);go_meet;exact ⟨by rw [HM0.out], ⟨D18, d18, by rw [HM0.out], lH (by rw [HM0.out]; exact HM1.out)⟩, rfl⟩
  ·have e1 : (es != 0) = true := by simpa using h0
   have HM0 : Hid (MA = ([], es)) := lH (by rw [HMA.out, if_neg h0]);(go_wp2_with fail);go_meet;exact ⟨by rw [HM0.out], ⟨none, 0, by rw [HM0.out]; rfl, lH (by rw [HM0.out]; exact Sl.nil)⟩, rfl⟩
 case rest =>
 clear HM1;obtain ⟨rfl, ⟨D18, d18, rfl, HM1⟩, hwc⟩ := hcut;rw [← hwc] at HM1 HD1 HD3 HP1 HP3 hb511;clear hwc;generalize wc = w11 at *
 go_upto_if 107 with fail
 go_cut [10] (fun v10 wx => v10 = iv E ∧ wx = w11)
 case first =>
  by_cases h0 : es = 0
  ·have e1 : (es == 0) = true := by rw [h0]; rfl
   have HE0 : Hid (E = et) := lH (by rw [HE.out, if_pos h0]);(go_wp2_with fail);go_meet;exact ⟨by rw [HE0.out], rfl⟩
  ·have e1 : (es == 0) = false := by simpa using h0
   have HE0 : Hid (E = es) := lH (by rw [HE.out, if_neg h0]);(go_wp2_with fail);go_meet;exact ⟨by rw [HE0.out], rfl⟩
 case rest =>
 obtain ⟨rfl, hwc⟩ := hcut;rw [← hwc] at HM1 HD1 HD3 HP1 HP3 hb511;clear hwc;generalize wc = w11 at *
 have HQ : Hid (∀ L : List (File.Edit ByteArray), (if E = 0 then L else []) = if es = 0 ∧ et = 0 then L else []) := lH fun L => by
  rw [HE.out]
  by_cases h0 : es = 0
  ·rw [if_pos h0]
   by_cases h1 : et = 0
   ·rw [if_pos h1, if_pos ⟨h0, h1⟩]
   ·rw [if_neg h1, if_neg (fun h => h1 h.2)]
  ·rw [if_neg h0, if_neg h0, if_neg (fun h => h0 h.1)]
 as_aux_lemma =>
  (go_wp2_with fail);refine (HDF.out w11 hb511).mono ?_;rintro e w12 ⟨v, rs, rfl, hv, hr, hb12⟩;obtain ⟨xs, q1, k1, fc1, ln1⟩ := eds_own hr;have ho1 := own_eds hv fc1 ln1;obtain ⟨C1, d1, rfl, _, _⟩ := ho1.form;obtain ⟨xl, xm⟩ := edsBnd q1 (diffBnd ha30 hb30).1 (diffBnd ha30 hb30).2;obtain ⟨dl, dm⟩ := edsBnd HD2.out (diffBnd ha30 hb30).1 (diffBnd ha30 hb30).2;rw [HQ.out, ← HD2.out] at q1;have HQ1 := lH q1;have HXM := lH xm;have HDM := lH dm;have hb512 := hb511.next hb12 nL;clear hv hr fc1 ln1 q1 xm dm HQ;(go_wp2_with fail);refine (HCO.out w12 hb512).mono ?_;rintro e w13 ⟨rfl, hb13⟩;have hb513 := hb512.next hb13 nL;have hb1113 := hb12.next hb13 nL;(go_wp2_with fail);refine (HMK.out w13 hb513).mono ?_;rintro e w14 ⟨v, rfl, ho2, hb14⟩;obtain ⟨C2, d2, rfl, _, _⟩ := ho2.form;have hb514 := hb513.next hb14 nL;have hb1114 := hb1113.next hb14 nL
  (go_wp2_with fail);refine (HBK.out w14 hb514).mono ?_;rintro e w15 ⟨v, rs, rfl, hv, hr, hb15⟩;obtain ⟨ys, q3, k3, fc3, ln3⟩ := eds_own hr;have ho3 := own_eds hv fc3 ln3;obtain ⟨C3, d3, rfl, _, _⟩ := ho3.form;obtain ⟨yl, ym⟩ := edsBnd q3 HBM.out.1 HBM.out.2;obtain ⟨bl, bm⟩ := edsBnd HP2.out HBM.out.1 HBM.out.2;rw [← HP2.out] at q3;have HQ3 := lH q3;have HYM := lH ym;have HBMM := lH bm;have hb515 := hb514.next hb15 nL;have hb1115 := hb1114.next hb15 nL
  have HX1 : Hid (∀ W, Below w15.heap.size w15 W → Own edE 36 w11.heap.size W (.slice C1 xs.length d1) xs ∧ ∀ r ∈ xs, EdOwn w11.heap.size W r) := lH fun W h =>
   ⟨ho1.below (hb13.next (hb14.next (hb15.next h nL) nL) nL), fun r hr => (k1 r hr).below (hb13.next (hb14.next (hb15.next h nL) nL) nL)⟩
  have HX2 : Hid (∀ W, Below w15.heap.size w15 W → Own strE 9 w11.heap.size W (.slice C2 MA.1.length d2) MA.1) := lH fun W h => (ho2.below (hb15.next h nL)).base hb1113.size
  have HX3 : Hid (∀ W, Below w15.heap.size w15 W → Own edE 36 w11.heap.size W (.slice C3 ys.length d3) ys ∧ ∀ r ∈ ys, EdOwn w11.heap.size W r) := lH fun W h =>
   ⟨(ho3.below h).base hb1114.size, fun r hr => by
    obtain ⟨h1, h2⟩ := k3 r hr;exact ⟨(h1.below h).base hb1114.size, (h2.below h).base hb1114.size⟩⟩
  have HSM1 : Hid (∀ W, Below w15.heap.size w15 W → Calls Tryz.prog 59 #[.slice C1 xs.length d1, .slice D16 ds.length d16] W fun e w' => e = .returned (.bool true) ∧ Below W.heap.size W w') := lH fun W h => by
   have := same_spec C1 xs d1 D16 ds d16 W (by unfold big; omega) (HX1.out W h).1.sl (by unfold big; omega) (HD1.out.below (hb1115.next h nL))
    (fun r hr => ⟨((HX1.out W h).2 r hr).ok, by have := HXM.out r hr; unfold big; omega⟩) (fun r hr => ⟨(HD3.out r hr).below (hb1115.next h nL), by have := HDM.out r hr; unfold big; omega⟩)
   rwa [decide_eq_true HQ1.out] at this
  have HEQ : Hid (∀ W, Below w15.heap.size w15 W → Calls Tryz.prog 26 #[.slice C2 MA.1.length d2, .slice D18 MA.1.length d18] W fun e w' => e = .returned (.bool true) ∧ Below W.heap.size W w') := lH fun W h => by
   have h24 := HML.out;have := equalS C2 MA.1 d2 D18 MA.1 d18 W (by unfold big; omega) (HX2.out W h).sl (by unfold big; omega) (HM1.out.below (hb1115.next h nL))
   rwa [decide_eq_true rfl] at this
  have HP11 : Hid (∀ W, Below w15.heap.size w15 W → Sl edE W D17 bs ∧ ∀ r ∈ bs, EdOk W r) := lH fun W h => ⟨HP1.out.below (hb1115.next h nL), fun r hr => (HP3.out r hr).below (hb1115.next h nL)⟩
  have HSM3 : Hid (∀ W, Below w15.heap.size w15 W → Calls Tryz.prog 59 #[.slice C3 ys.length d3, .slice D17 bs.length d17] W fun e w' => e = .returned (.bool true) ∧ Below W.heap.size W w') := lH fun W h => by
   have := same_spec C3 ys d3 D17 bs d17 W (by unfold big; omega) (HX3.out W h).1.sl (by unfold big; omega) (HP11.out W h).1
    (fun r hr => ⟨((HX3.out W h).2 r hr).ok, by have := HYM.out r hr; unfold big; omega⟩) (fun r hr => ⟨(HP11.out W h).2 r hr, by have := HBMM.out r hr; unfold big; omega⟩)
   rwa [decide_eq_true HQ3.out] at this
  have n1 : (ew != ew) = false := by simp
  have n2 : (E != E) = false := by simp
  have n3 : (MA.2 != MA.2) = false := by simp
  have n4 : (bA.2 != bA.2) = false := by simp
  have n5 : ((K0 : Int) != (K0 : Int)) = false := by simp
  clear ho1 ho2 ho3 k1 k3 hv hr fc3 ln3 q3 ym bm hb12 hb13 hb14 hb15 hb512 hb513 hb514 hb1113 hb1114;(go_wp2_with fail);refine (HCC.out w15 hb515).mono ?_;rintro e w16 ⟨rfl, hb16⟩;(go_wp2_with fail);refine (HSM1.out w16 hb16).mono ?_;rintro e w17 ⟨rfl, hb17⟩;have hb1517 := hb16.next hb17 nL;(go_wp2_with fail);refine (HEQ.out w17 hb1517).mono ?_;rintro e w18 ⟨rfl, hb18⟩;have hb1518 := hb1517.next hb18 nL;(go_wp2_with fail);refine (HSM3.out w18 hb1518).mono ?_;rintro e w19 ⟨rfl, hb19⟩;have hb1519 := hb1518.next hb19 nL;have hcl := Own.cl (HX2.out w19 hb1519)
  have HC19 : Hid (∀ W, Clrs w11.heap.size w19 W → (Own edE 36 w11.heap.size W (.slice C1 xs.length d1) xs ∧ ∀ r ∈ xs, Cl w11.heap.size W (.slice r.A r.old.length r.c) ∧ Cl w11.heap.size W (.slice r.A' r.new.length r.c')) ∧ (Own edE 36 w11.heap.size W (.slice C3 ys.length d3) ys ∧ ∀ r ∈ ys, Cl w11.heap.size W (.slice r.A r.old.length r.c) ∧ Cl w11.heap.size W (.slice r.A' r.new.length r.c'))) := lH fun W h =>
   ⟨⟨Own.clrs (HX1.out w19 hb1519).1 (by decide) h, fun r hr => ⟨h.cl _ ((HX1.out w19 hb1519).2 r hr).cl.1, h.cl _ ((HX1.out w19 hb1519).2 r hr).cl.2⟩⟩, ⟨Own.clrs (HX3.out w19 hb1519).1 (by decide) h, fun r hr => ⟨h.cl _ ((HX3.out w19 hb1519).2 r hr).cl.1, h.cl _ ((HX3.out w19 hb1519).2 r hr).cl.2⟩⟩⟩
  have hb1119 := hb1115.next hb1519 nL;have HB5 := lH hb511;clear hb16 hb17 hb18 hb19 hb1517 hb1518 hb1519 hb515 hb1115 HX1 HX2 HX3 HSM1 HEQ HSM3 HP11;have HFIN : Hid (∀ W, Clrs w11.heap.size w19 W → Below w5.heap.size w5 W) := lH fun W h => HB5.out.trans ((hb1119.trans h.below).mono HB5.out.size)
  have hs1119 : w11.heap.size ≤ w19.heap.size := hb1119.size;clear hb511 hb1119
  go_wp2_with (refine wpClearS (o := ⟨none, _, _, _, _, _⟩) rfl (.tmp 178) rfl rfl hcl ?_; intro w20 hc20)
  have hsz20 : w11.heap.size ≤ w20.heap.size := Nat.le_trans hs1119 hc20.below.size;have hbL : Below w20.heap.size w20 (w20.alloc (.cells #[.slice C1 xs.length d1, .slice C3 ys.length d3] 32)) := rB.alloc nL _;have hL : Blk (w20.alloc (.cells #[.slice C1 xs.length d1, .slice C3 ys.length d3] 32)) w20.heap.size 32 #[.slice C1 xs.length d1, .slice C3 ys.length d3] := Blk.new _ _ _;have hcS := hc20.trans (Clrs.next hsz20 hbL);have hgB := Nat.le_trans hsz20 hbL.size;generalize w20.alloc (.cells #[.slice C1 xs.length d1, .slice C3 ys.length d3] 32) = wS at *;generalize w20.heap.size = gL at *;have HOX : Hid (∀ W, Clrs w11.heap.size wS W → Own edE 36 w11.heap.size W (.slice C1 xs.length d1) xs ∧ ∀ r ∈ xs, Cl w11.heap.size W (.slice r.A r.old.length r.c) ∧ Cl w11.heap.size W (.slice r.A' r.new.length r.c')) := lH fun W h => (HC19.out W (hcS.trans h)).1
  have HOY : Hid (∀ W, Clrs w11.heap.size wS W → Own edE 36 w11.heap.size W (.slice C3 ys.length d3) ys ∧ ∀ r ∈ ys, Cl w11.heap.size W (.slice r.A r.old.length r.c) ∧ Cl w11.heap.size W (.slice r.A' r.new.length r.c')) := lH fun W h => (HC19.out W (hcS.trans h)).2
  have HROW : Hid (∀ W, Clrs w11.heap.size wS W → Blk W gL 32 #[.slice C1 xs.length d1, .slice C3 ys.length d3]) := lH fun W h => Blk.clrs hL (by decide) h
  have HFI2 : Hid (∀ W, Clrs w11.heap.size wS W → Below w5.heap.size w5 W) := lH fun W h => HFIN.out W (hcS.trans h)
  clear hcl hc20 hbL hL hcS HC19 HFIN hsz20 hs1119;generalize w11.heap.size = gB at *
  as_aux_lemma =>
   go_loopw [31, 33, 183] (fun _ _ i wr => ∃ t : Nat, t ≤ 2 ∧ i = iv (t : Int) ∧ Clrs gB wS wr) (fun _ _ i _ => 2 - (intOf i).toNat)
   case atStart => exact ⟨0, by omega, rfl, Clrs.refl _ _⟩
   case round =>
    obtain ⟨t, ht, rfl, hcr⟩ := hrel;have hL := HROW.out wr hcr;have ll := hL.lt
    by_cases h0 : t = 0
    ·have l0 : wr.cell? ⟨gL, t, none⟩ = some (.slice C1 xs.length d1) := by rw [hL.cell t, h0]; rfl
     have ti : (t : Int) < 2 := (by omega);have ht1 : t + 1 ≤ 2 := (by omega);clear hL h0;(go_wp2_with fail)
     go_loopw [33, 189] (fun _ j wx => ∃ k : Nat, k ≤ xs.length ∧ j = iv (k : Int) ∧ Clrs gB wS wx) (fun _ j _ => xs.length - (intOf j).toNat)
     case atStart => exact ⟨0, Nat.zero_le _, rfl, hcr⟩
     case round =>
      clear hcr;obtain ⟨k, hk, rfl, hcx⟩ := hrel
      by_cases hlt : k < xs.length
      ·have hki : (k : Int) < (xs.length : Int) := (by omega);obtain ⟨hO, hC⟩ := HOX.out wr hcx;obtain ⟨b0, off, r, eA, hb0, hr, hc0, hc1, hc2⟩ := Sl.atEd hO.sl hlt;obtain ⟨hC1, hC2⟩ := hC r (mem_at hr);have hsz : gB ≤ wr.heap.size := Nat.le_trans hgB hcx.below.size;have hbM : Below wr.heap.size wr (wr.alloc (.cells #[iv r.at_, .slice r.A r.old.length r.c, .slice r.A' r.new.length r.c'] 36)) := rB.alloc nL _;have hM : Blk (wr.alloc (.cells #[iv r.at_, .slice r.A r.old.length r.c, .slice r.A' r.new.length r.c'] 36)) wr.heap.size 36 #[iv r.at_, .slice r.A r.old.length r.c, .slice r.A' r.new.length r.c'] := Blk.new _ _ _;have hC1' := hC1.keep hbM;have hC2' := hC2.keep hbM;have hcx4 := hcx.trans (Clrs.next hsz hbM);clear hO hC hr hC1 hC2;subst eA
       go_upto_region 39 with fail
       generalize wr.alloc (.cells #[iv r.at_, .slice r.A r.old.length r.c, .slice r.A' r.new.length r.c'] 36) = w4 at *;have r1 := hM.cell 1;have r2 := hM.cell 2;have rl := hM.lt;generalize wr.heap.size = gX at *;clear hc0 hc1 hc2 hbM
       go_upto_region 40 with (refine wpClearS (o := ⟨none, _, _, _, _, _⟩) rfl (.tmp 194) rfl rfl hC1' ?_; intro w5c hc5)
       have hM5 := Blk.clrs hM (by decide) hc5;have s2 := hM5.cell 2;have sl := hM5.lt;have hC5 := hc5.cl _ hC2';have hcx5 := hcx4.trans hc5;clear r1 r2 rl hM hc5 hC1' hC2' hcx4
       go_wp2_with (refine wpClearS (o := ⟨none, _, _, _, _, _⟩) rfl (.tmp 196) rfl rfl hC5 ?_; intro w6c hc6)
       have hcx6 := hcx5.trans hc6;clear hM5 s2 sl hc6 hC5 hcx5;go_roundw
       case rel => exact ⟨k + 1, by omega, by go_num, hcx6⟩
       case measure => simp [intOf]; omega
      ·have hki : ¬ (k : Int) < (xs.length : Int) := (by omega);(go_wp2_with fail);go_roundw
       case rel => exact ⟨t + 1, ht1, by go_num, hcx⟩
       case measure => simp [intOf]; omega
    ·by_cases h1 : t = 1
     ·have l0 : wr.cell? ⟨gL, t, none⟩ = some (.slice C3 ys.length d3) := by rw [hL.cell t, h1]; rfl
      have ti : (t : Int) < 2 := (by omega);have ht1 : t + 1 ≤ 2 := (by omega);clear hL h0 h1;(go_wp2_with fail)
      go_loopw [33, 189] (fun _ j wx => ∃ k : Nat, k ≤ ys.length ∧ j = iv (k : Int) ∧ Clrs gB wS wx) (fun _ j _ => ys.length - (intOf j).toNat)
      case atStart => exact ⟨0, Nat.zero_le _, rfl, hcr⟩
      case round =>
       clear hcr;obtain ⟨k, hk, rfl, hcx⟩ := hrel
       by_cases hlt : k < ys.length
       ·have hki : (k : Int) < (ys.length : Int) := (by omega);obtain ⟨hO, hC⟩ := HOY.out wr hcx;obtain ⟨b0, off, r, eA, hb0, hr, hc0, hc1, hc2⟩ := Sl.atEd hO.sl hlt;obtain ⟨hC1, hC2⟩ := hC r (mem_at hr);have hsz : gB ≤ wr.heap.size := Nat.le_trans hgB hcx.below.size;have hbM : Below wr.heap.size wr (wr.alloc (.cells #[iv r.at_, .slice r.A r.old.length r.c, .slice r.A' r.new.length r.c'] 36)) := rB.alloc nL _;have hM : Blk (wr.alloc (.cells #[iv r.at_, .slice r.A r.old.length r.c, .slice r.A' r.new.length r.c'] 36)) wr.heap.size 36 #[iv r.at_, .slice r.A r.old.length r.c, .slice r.A' r.new.length r.c'] := Blk.new _ _ _;have hC1' := hC1.keep hbM;have hC2' := hC2.keep hbM;have hcx4 := hcx.trans (Clrs.next hsz hbM);clear hO hC hr hC1 hC2;subst eA
        go_upto_region 39 with fail
        generalize wr.alloc (.cells #[iv r.at_, .slice r.A r.old.length r.c, .slice r.A' r.new.length r.c'] 36) = w4 at *;have r1 := hM.cell 1;have r2 := hM.cell 2;have rl := hM.lt;generalize wr.heap.size = gX at *;clear hc0 hc1 hc2 hbM
        go_upto_region 40 with (refine wpClearS (o := ⟨none, _, _, _, _, _⟩) rfl (.tmp 194) rfl rfl hC1' ?_; intro w5c hc5)
        have hM5 := Blk.clrs hM (by decide) hc5;have s2 := hM5.cell 2;have sl := hM5.lt;have hC5 := hc5.cl _ hC2';have hcx5 := hcx4.trans hc5;clear r1 r2 rl hM hc5 hC1' hC2' hcx4
        go_wp2_with (refine wpClearS (o := ⟨none, _, _, _, _, _⟩) rfl (.tmp 196) rfl rfl hC5 ?_; intro w6c hc6)
        have hcx6 := hcx5.trans hc6;clear hM5 s2 sl hc6 hC5 hcx5;go_roundw
        case rel => exact ⟨k + 1, by omega, by go_num, hcx6⟩
        case measure => simp [intOf]; omega
       ·have hki : ¬ (k : Int) < (ys.length : Int) := (by omega);(go_wp2_with fail);go_roundw
        case rel => exact ⟨t + 1, ht1, by go_num, hcx⟩
        case measure => simp [intOf]; omega
     ·have ti : ¬ (t : Int) < 2 := (by omega);clear hL h0 h1 ll;have hb5r := HFI2.out wr hcr;generalize wr = w21 at *;(go_wp2_with fail);refine (HEA.out w21 hb5r).mono ?_;rintro e w22 ⟨rfl, hb22⟩;have hb522 := hb5r.next hb22 nL;(go_wp2_with fail);refine (HEB.out w22 hb522).mono ?_;rintro e w23 ⟨rfl, hb23⟩;have hb523 := hb522.next hb23 nL;(go_wp2_with fail);refine (HEV.out w23 hb523).mono ?_;rintro e w24 ⟨rfl, hb24⟩;have hb024 := hb05.next (hb523.next hb24 nL) nL;(go_wp2_with fail);refine (HAW.out _ hb024).mono ?_;rintro _ wz ⟨rfl, hbz⟩;(go_wp2_with fail);go_ret;exact ⟨rfl, (hb024).next hbz nL⟩
end Fl
end Go.Proofs.YtblgkmdadholmabGreatDoor
namespace Go.Proofs.YtblgkmdadholmabGreatDoor.fchanges
open Go.ChangeShapes Go.WideShapes Go.ChangeAt Go.RowKit
theorem plain (f : FuncId) (fn : Func) (hf : Tryz.pinned.checked.prog.funcNamed "petersham/petershamlaw11.FileChanges" = some f) (hfn : Tryz.pinned.checked.prog.funcs[f]? = some fn) :
  false = Tryz.pinned.checked.prog.looks [] ∧ ∀ (j : Nat) t, fn.params[j]? = some t → Tryz.pinned.checked.prog.wantsStandIn t = false := by
 obtain rfl : f = 13 := Option.some.inj ((show Tryz.prog.funcNamed "petersham/petershamlaw11.FileChanges" = some 13 by kernel_rfl).symm.trans hf) |>.symm
 obtain rfl : fn = Tryz.f13 := (Option.some.inj (Tryz.func13.symm.trans hfn)).symm;refine ⟨by kernel_rfl, fun j t ht => ?_⟩;rw [Tryz.params13] at ht;have ht' := Array.mem_of_getElem? ht;simp at ht'
 rcases ht' with rfl | rfl
 ·exact (show Tryz.prog.wantsStandIn 23 = false by kernel_rfl)
 ·exact (show Tryz.prog.wantsStandIn 32 = false by kernel_rfl)
end Go.Proofs.YtblgkmdadholmabGreatDoor.fchanges
end
