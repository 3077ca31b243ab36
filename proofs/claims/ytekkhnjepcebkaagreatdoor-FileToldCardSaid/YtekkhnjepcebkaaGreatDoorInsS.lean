/- slices.Insert of lines. Conditions: lengths are below a bound; the lines put in lie in a block of their own. -/
import Derived.Test.YtekkhnjepcebkaaGreatDoorFlN
import Derived.Shelf.Spec.SlicesInsert
import Derived.Shelf.Spec.SlicesInsertGrow
set_option linter.unusedVariables false
set_option linter.unusedSimpArgs false
namespace Go.Proofs.YtekkhnjepcebkaaGreatDoor
namespace Fl
open Go.RowKit Go.Shelf Go.Lib
set_option maxRecDepth 100000
/-- slices.Insert's own text, and those that it calls, under this program's numbers. -/
def insRen : Ren := ⟨fun x => match x with | 22 => 108 | 29 => 162 | 30 => 163 | 36 => 189 | 17 => 198 | n => n,
  fun x => match x with | 24 => 22 | 9 => 9 | 3 => 3 | 4 => 4 | 0 => 0 | n => n, fun n => n⟩
theorem insLays : Lays2.n22 Tryz.prog insRen where
  mixed := by kernel_rfl
  f17 := by kernel_rfl
  f22 := by kernel_rfl
  f29 := by kernel_rfl
  f30 := by kernel_rfl
  f36 := by kernel_rfl
  t0 := by kernel_rfl
  a0 := fun _ => by kernel_rfl
  z0 := fun _ => by kernel_rfl
  v0 := fun _ => by kernel_rfl
  t3 := by kernel_rfl
  a3 := fun _ => by kernel_rfl
  z3 := fun _ => by kernel_rfl
  v3 := fun _ => by kernel_rfl
  t4 := by kernel_rfl
  a4 := fun _ => by kernel_rfl
  z4 := fun _ => by kernel_rfl
  v4 := fun _ => by kernel_rfl
  t9 := by kernel_rfl
  a9 := fun _ => by kernel_rfl
  z9 := fun _ => by kernel_rfl
  v9 := fun _ => by kernel_rfl
  t24 := by kernel_rfl
  a24 := fun _ => by kernel_rfl
  z24 := fun _ => by kernel_rfl
  v24 := fun _ => by kernel_rfl
  i9 := by kernel_rfl
theorem Blk.shape {w : World} {g : Nat} {t : TypeId} {cs : Array Value} (h : Blk w g t cs) : w.shape? g = some (t, cs.size) := by
  unfold Blk at h
  simp [World.shape?, h]
theorem blk_setCells {g : Nat} {t : TypeId} : ∀ (vs : List Value) (o : Nat) (w : World) (cs : Array Value), Blk w g t cs → o + vs.length ≤ cs.size → Blk (w.setCells g o vs) g t (splice cs.toList o vs).toArray := by
  intro vs
  induction vs with
  | nil =>
    intro o w cs h _
    simpa [splice, World.setCells] using h
  | cons v r ih =>
    intro o w cs h hl
    simp only [List.length_cons] at hl
    have h1 := ih (o + 1) (w.setCell ⟨g, o, none⟩ v) _ (h.set_ o v) (by simp; omega)
    have he : splice (cs.setIfInBounds o v).toList (o + 1) r = splice cs.toList o (v :: r) := by
      have ho : o < cs.toList.length := by simp; omega
      simp only [splice, Array.toList_setIfInBounds, List.length_cons]
      rw [List.take_succ_eq_append_getElem (by simpa using ho), List.getElem_set_self, List.take_set_of_le (Nat.le_refl _), List.drop_set_of_lt (by omega)]
      simp [Nat.add_assoc, Nat.add_comm 1]
    rw [he] at h1
    exact h1
theorem below_setCells {B g : Nat} (hB : B ≤ g) : ∀ (vs : List Value) (o : Nat) (w0 w : World), Below B w0 w → Below B w0 (w.setCells g o vs) := by
  intro vs
  induction vs with
  | nil => intro o w0 w h; exact h
  | cons v r ih => intro o w0 w h; exact ih _ _ _ (h.setCell (p := ⟨g, o, none⟩) hB v)
theorem other_setCells {g b : Nat} (hb : b ≠ g) : ∀ (vs : List Value) (o : Nat) (w : World), (w.setCells g o vs).heap[b]? = w.heap[b]? := by
  intro vs
  induction vs with
  | nil => intro o w; rfl
  | cons v r ih => intro o w; exact (ih _ _).trans (Below.heap_setCell w ⟨g, o, none⟩ v b hb)
theorem flat_str : ∀ xs : List ByteArray, xs.flatMap strE.cells = xs.map sv
  | [] => rfl
  | x :: xs => by rw [List.flatMap_cons, flat_str xs]; rfl
theorem strs_oneCell (xs : List ByteArray) : ∀ u ∈ xs.map sv, u.oneCell' = true := fun u hu => by
  obtain ⟨x, _, rfl⟩ := List.mem_map.1 hu
  rfl
theorem own_of_block {e : TypeId} {B : Nat} {w : World} {g n cap : Nat} {xs : List ByteArray} {cur : Array Value} (h : Blk w g e cur) (hB : B ≤ g) (hn : n = xs.length) (hc : n ≤ cap) (hm : cap ≤ maxLen) (hs : cur.size = cap) (ht : cur.toList.take n = xs.map sv) : Own strE e B w (.slice (some ⟨g, 0, none⟩) n cap) xs := by
  subst hn
  refine ⟨flat_length strE xs, .inr ⟨g, cap, cur, rfl, hB, h, hc, hm, by rw [hs]; simp [strE], ?_⟩⟩
  rw [flat_str]
  simpa [strE] using ht
theorem own_block {e : TypeId} {B : Nat} {w : World} {v : Value} {xs : List ByteArray} (h : Own strE e B w v xs) : (v = .slice none 0 0 ∧ xs = []) ∨ ∃ g cap cur, v = .slice (some ⟨g, 0, none⟩) xs.length cap ∧ B ≤ g ∧ Blk w g e cur ∧ xs.length ≤ cap ∧ cap ≤ maxLen ∧ cur.size = cap ∧ cur.toList.take xs.length = xs.map sv := by
  rcases h.2 with ⟨rfl, hn⟩ | ⟨g, cap, cur, rfl, hb, hg, hc, hm, hs, ht⟩
  · exact .inl ⟨rfl, List.eq_nil_of_length_eq_zero hn⟩
  · rw [flat_str] at ht
    exact .inr ⟨g, cap, cur, rfl, hb, hg, hc, hm, by simpa [strE] using hs, by simpa [strE] using ht⟩
theorem shift_list {α : Type} (L cs vs : List α) (i n : Nat) (h : L.take n = cs) (hn : cs.length = n) (hi : i ≤ n) (hL : n + vs.length ≤ L.length) : (splice (splice L (i + vs.length) (cs.drop i)) i vs).take (n + vs.length) = cs.take i ++ vs ++ cs.drop i := by
  have e1 : (splice L (i + vs.length) (cs.drop i)).take i = cs.take i := by
    unfold splice
    rw [List.take_append_of_le_length (by simp; omega), List.take_take, ← h, List.take_take]
    congr 1
    omega
  have e2 : (splice L (i + vs.length) (cs.drop i)).drop (i + vs.length) = cs.drop i ++ L.drop (n + vs.length) := by
    unfold splice
    rw [List.drop_append_of_le_length (by simp; omega), List.drop_of_length_le (by simp; omega)]
    simp
    congr 1
    omega
  have e3 : splice (splice L (i + vs.length) (cs.drop i)) i vs = (cs.take i ++ vs ++ cs.drop i) ++ L.drop (n + vs.length) := by
    show (splice L (i + vs.length) (cs.drop i)).take i ++ (vs ++ (splice L (i + vs.length) (cs.drop i)).drop (i + vs.length)) = _
    rw [e1, e2]
    simp
  rw [e3, List.take_append_of_le_length (by simp; omega), List.take_of_length_le (by simp; omega)]
theorem grow_list {α : Type} (L cs vs : List α) (i n : Nat) (h : L.take i = cs.take i) (hn : cs.length = n) (hi : i ≤ n) (hL : n + vs.length ≤ L.length) : (splice (splice L i vs) (i + vs.length) (cs.drop i)).take (n + vs.length) = cs.take i ++ vs ++ cs.drop i := by
  have e1 : (splice L i vs).take (i + vs.length) = cs.take i ++ vs := by
    unfold splice
    rw [h, ← List.append_assoc, List.take_append_of_le_length (by simp; omega), List.take_of_length_le (by simp; omega)]
  have e3 : splice (splice L i vs) (i + vs.length) (cs.drop i) = (cs.take i ++ vs ++ cs.drop i) ++ (splice L i vs).drop (i + vs.length + (cs.drop i).length) := by
    show (splice L i vs).take (i + vs.length) ++ (cs.drop i ++ _) = _
    rw [e1]
    simp
  rw [e3, List.take_append_of_le_length (by simp; omega), List.take_of_length_le (by simp; omega)]
theorem splice_length {α : Type} (L : List α) (o : Nat) (cs : List α) (h : o + cs.length ≤ L.length) : (splice L o cs).length = L.length := length_splice L o cs h
theorem ins0 {B : Nat} {v : Value} {xs : List ByteArray} (A' : Option Addr) (c' i : Nat) (w : World) (hown : Own strE 9 B w v xs) (hi : i ≤ xs.length) (hm : xs.length ≤ 1000) :
    Calls Tryz.prog 108 #[v, iv i, .slice A' 0 c'] w fun e w' => e = .returned v ∧ w = w' := by
  obtain ⟨A, c, rfl, hc, hcm⟩ := hown.form
  have hr := run_cutFrom strE tyStrs A xs.length c i hi
  clear hown
  go_enter Tryz.func108, Tryz.ntmps108
  go_wp2_with fail
  go_ret
  exact ⟨rfl, rfl⟩
def insL (xs ys : List ByteArray) (i : Nat) : List ByteArray := xs.take i ++ ys ++ xs.drop i
set_option maxHeartbeats 4000000 in
theorem ins_spec {B B' : Nat} {v v' : Value} {xs ys : List ByteArray} (i : Nat) (w : World) (hown : Own strE 9 B w v xs) (hown' : Own strE 9 B' w v' ys) (hne : ∀ g, v.ownBlock = some g → v'.ownBlock ≠ some g) (hB : B ≤ w.heap.size) (hi : i ≤ xs.length) (hm : xs.length + ys.length ≤ 1000) :
    Calls Tryz.prog 108 #[v, iv i, v'] w fun e w' => ∃ v'', e = .returned v'' ∧ Own strE 9 B w' v'' (insL xs ys i) ∧ Below B w w' ∧
      (∀ b, b < w.heap.size → v.ownBlock ≠ some b → w'.heap[b]? = w.heap[b]?) := by
  by_cases hy0 : ys = []
  · subst hy0
    obtain ⟨A', c', rfl, _, _⟩ := hown'.form
    refine (ins0 A' c' i w hown hi (by simp at hm; omega)).mono ?_
    rintro e w' ⟨rfl, rfl⟩
    refine ⟨_, rfl, ?_, Below.refl _ _, fun _ _ _ => rfl⟩
    unfold insL
    rw [List.append_nil, List.take_append_drop]
    exact hown
  rcases own_block hown' with ⟨_, h⟩ | ⟨g', cap', cur', rfl, _, hg2, hnc2, hcm2, hcs2, htk2⟩
  · exact absurd h hy0
  obtain ⟨m, hmy⟩ : ∃ m, m = ys.length := ⟨_, rfl⟩
  have hm0 : 0 < m := by have := List.length_pos_iff.2 hy0; omega
  have hvl : (ys.map sv).length = m := by simp [hmy]
  have hv : ∀ j u, (ys.map sv)[j]? = some u → w.cell? ⟨g', 0 + j, none⟩ = some u := fun j u h => by
    have hj : j < ys.length := by have := (List.getElem?_eq_some_iff.1 h).1; simpa using this
    rw [Nat.zero_add, hg2.cell j, ← h, ← htk2, List.getElem?_take, if_pos hj, Array.getElem?_toList]
  have h1 := strs_oneCell ys
  have hW : Below B w w := Below.refl _ _
  rw [← hmy] at hm ⊢
  rcases own_block hown with ⟨rfl, rfl⟩ | ⟨g, cap, cur, rfl, hBg, hg, hnc, hcm, hcs, htk⟩
  · obtain rfl : i = 0 := by simpa using hi
    refine (Any2.slices_Insert_string_end_grow insLays none 0 0 g' 0 m cap' [] (ys.map sv) w hm0 (by omega) (by omega) (by simp at hm; omega) rfl hvl (fun _ => rfl) (fun a h => by cases h) hv h1).mono ?_
    rintro e w' ⟨rfl, rfl⟩
    refine ⟨_, rfl, own_of_block (cur := _) (heap_alloc_new _ _) hB (by simp [insL, hmy]) (grownCap_ge _ _ _ _) (grownCap_le_maxLen _ _ _ _ (by unfold maxLen; simp at hm; omega)) ?_ ?_, hW.drew.alloc hB _, fun b hb _ => (Below.heap_alloc _ _ b hb)⟩
    · have := grownCap_ge w (0 + m) 0 (insRen.t 9)
      simp [size_zeroCells, Value.cells, ← hmy] at this ⊢
      omega
    · simp [insL, hmy]
  · have hgl : g < w.heap.size := hg.lt
    have hgg : g' ≠ g := fun e => hne g rfl (by rw [e]; rfl)
    have hg' := hg
    have hcl : (xs.map sv).length = xs.length := by simp
    have hct : cur.toList.length = cap := by rw [← hcs]; exact Array.length_toList
    have hcell : ∀ j v, (xs.map sv)[j]? = some v → w.cell? ⟨g, 0 + j, none⟩ = some v := fun j v h => by
      have hj : j < xs.length := by have := (List.getElem?_eq_some_iff.1 h).1; simpa using this
      rw [Nat.zero_add, hg'.cell j, ← h, ← htk, List.getElem?_take, if_pos hj, Array.getElem?_toList]
    have hlen : (insL xs ys i).length = xs.length + m := by simp [insL, hmy]; omega
    have hmap : (insL xs ys i).map sv = (xs.map sv).take i ++ ys.map sv ++ (xs.map sv).drop i := by simp [insL]
    have hkeep : ∀ b, b < w.heap.size → (Value.slice (some ⟨g, 0, none⟩) xs.length cap).ownBlock ≠ some b → b ≠ g := fun b _ h e => h (by rw [e]; rfl)
    by_cases hroom : xs.length + m ≤ cap
    · by_cases hin : i = xs.length
      · subst hin
        refine (Any2.slices_Insert_string_end_room insLays g 0 xs.length cap g' 0 m cap' (ys.map sv) w hm0 hroom (by unfold maxLen at hcm; omega) hvl
          (fun j hj => by rw [hg'.cell]; simp; omega) (fun j _ => hg'.frozen _) hv h1).mono ?_
        rintro e w' ⟨rfl, rfl⟩
        refine ⟨_, rfl, own_of_block (blk_setCells (ys.map sv) (0 + xs.length) _ _ hg' (by simp; omega)) hBg (by rw [hlen]) hroom hcm (by simp [splice]; omega) ?_, below_setCells hBg _ _ _ _ hW, fun b hb hv => (other_setCells (hkeep b hb hv) _ _ _)⟩
        rw [hmap, ← htk]
        simp only [splice, Nat.zero_add]
        rw [← List.append_assoc, List.take_append_of_le_length (by simp; omega), List.take_of_length_le (by simp; omega)]
        simp [List.take_take]
      · have hlt : i < xs.length := by omega
        refine (Any2.slices_Insert_string_shift insLays g 0 xs.length cap i g' 0 m cap' (xs.map sv) (ys.map sv) w hlt hm0 hroom (by unfold maxLen at hcm; omega) hgg hcl hvl
          hcell (fun j hj => by rw [hg'.cell]; simp; omega) (fun j _ => hg'.frozen _) hv (strs_oneCell xs) h1 _ _ cur'.size cur.size (Blk.shape hg2) (Blk.shape hg') (by omega) (hg2.frozen _) (hg2.frozen _)).mono ?_
        rintro e w' ⟨rfl, rfl⟩
        have hd : ((xs.map sv).drop i).length = xs.length - i := by simp
        have hb1 := blk_setCells ((xs.map sv).drop i) (0 + (i + m)) _ _ (show Blk w.drew g 9 cur from hg') (by rw [hd]; omega)
        have hs1 := splice_length cur.toList (0 + (i + m)) ((xs.map sv).drop i) (by rw [hd, hct]; omega)
        have hb2 := blk_setCells (ys.map sv) (0 + i) _ _ hb1 (by rw [List.size_toArray, hs1, hct, hvl]; omega)
        refine ⟨_, rfl, own_of_block hb2 hBg (by rw [hlen]) hroom hcm ?_ ?_, below_setCells hBg _ _ _ _ (below_setCells hBg _ _ _ _ hW.drew), fun b hb hv => (other_setCells (hkeep b hb hv) _ _ _).trans ((other_setCells (hkeep b hb hv) _ _ _))⟩
        · rw [List.size_toArray, splice_length _ _ _ (by rw [hs1, hct, hvl]; omega), hs1, hct]
        · rw [hmap]
          simp only [Nat.zero_add]
          have := shift_list cur.toList (xs.map sv) (ys.map sv) i xs.length htk hcl hi (by rw [hct, hvl]; omega)
          rw [hvl] at this
          exact this
    · by_cases hin : i = xs.length
      · subst hin
        refine (Any2.slices_Insert_string_end_grow insLays (some ⟨g, 0, none⟩) xs.length cap g' 0 m cap' (xs.map sv) (ys.map sv) w hm0 hnc (by omega) (by omega) hcl hvl (fun h => by cases h)
          (fun a ha j v h => by injection ha with ha; subst ha; have hadd : (⟨g, 0, none⟩ : Addr).add j = ⟨g, 0 + j, none⟩ := by { unfold Addr.add; split <;> simp_all }; rw [hadd]; exact hcell j v h) hv h1).mono ?_
        rintro e w' ⟨rfl, rfl⟩
        refine ⟨_, rfl, own_of_block (cur := _) (heap_alloc_new _ _) hB (by rw [hlen]) (grownCap_ge _ _ _ _) (grownCap_le_maxLen _ _ _ _ (by unfold maxLen; omega)) ?_ ?_, hW.drew.alloc hB _, fun b hb _ => (Below.heap_alloc _ _ b hb)⟩
        · have := grownCap_ge w (xs.length + m) cap (insRen.t 9)
          simp [size_zeroCells, Value.cells, ← hmy] at this ⊢
          omega
        · rw [hmap]
          have e1 : (xs.map sv).drop xs.length = [] := List.drop_eq_nil_of_le (by simp)
          have e2 : (xs.map sv).take xs.length = xs.map sv := List.take_of_length_le (by simp)
          rw [e1, e2, List.append_nil]
          simp only [Array.toList_append]
          rw [List.take_append_of_le_length (by simp [hmy]), List.take_of_length_le (by simp [hmy])]
      · have hlt : i < xs.length := by omega
        refine (Any2.slices_Insert_string_grow insLays g 0 xs.length cap i g' 0 m cap' (xs.map sv) (ys.map sv) w hlt hm0 hnc (by omega) (by omega) hcl hvl hcell hv (strs_oneCell xs) h1).mono ?_
        rintro e w' ⟨rfl, rfl⟩
        have hge := grownCap_ge w (xs.length + m) cap (insRen.t 9)
        have hle := grownCap_le_maxLen w (xs.length + m) cap (insRen.t 9) (by unfold maxLen; omega)
        generalize grownCap w (xs.length + m) cap (insRen.t 9) = capN at *
        have hd : ((xs.map sv).drop i).length = xs.length - i := by simp
        obtain ⟨L, hL⟩ : ∃ L : Array Value, L = (((xs.map sv).take i).toArray ++ Builtin.zeroCells (Value.string ⟨#[]⟩).cells (xs.length + m - i) ++ Builtin.zeroCells (Value.string ⟨#[]⟩).cells (capN - (xs.length + m))) := ⟨_, rfl⟩
        have hLs : L.size = capN := by rw [hL]; simp [size_zeroCells, Value.cells]; omega
        have hLt : L.toList.take i = (xs.map sv).take i := by
          rw [hL]
          simp only [Array.toList_append, List.append_assoc]
          rw [List.take_append_of_le_length (by simp; omega), List.take_take, Nat.min_self]
        rw [← hL]
        have hb0 : Blk (w.alloc (.cells L (insRen.t 9))).drew w.heap.size 9 L := Blk.new _ _ _
        have hLl : L.toList.length = capN := by rw [← hLs]; exact Array.length_toList
        have hs0 := splice_length L.toList i (ys.map sv) (by rw [hLl, hvl]; omega)
        have hb1 := blk_setCells (ys.map sv) i _ _ hb0 (by rw [hLs, hvl]; omega)
        have hs1 := splice_length (splice L.toList i (ys.map sv)) (i + m) ((xs.map sv).drop i) (by rw [hs0, hd, hLl]; omega)
        have hb1' : Blk ((w.alloc (.cells L (insRen.t 9))).drew.setCells w.heap.size i (ys.map sv)).drew w.heap.size 9 (splice L.toList i (ys.map sv)).toArray := hb1
        have hb2 := blk_setCells ((xs.map sv).drop i) (i + m) _ _ hb1' (by rw [List.size_toArray, hs0, hd, hLl]; omega)
        have hneb : ∀ b, b < w.heap.size → b ≠ w.heap.size := fun b hb => by omega
        refine ⟨_, rfl, own_of_block hb2 hB (by rw [hlen]) hge hle ?_ ?_, below_setCells hB _ _ _ _ (Below.drew (below_setCells hB _ _ _ _ (Below.drew (hW.alloc hB _)))), fun b hb _ => (other_setCells (hneb b hb) _ _ _).trans ((other_setCells (hneb b hb) _ _ _).trans ((Below.heap_alloc _ _ b (by omega))))⟩
        · rw [List.size_toArray, hs1, hs0, hLl]
        · rw [hmap]
          have := grow_list L.toList (xs.map sv) (ys.map sv) i xs.length hLt hcl hi (by rw [hLl, hvl]; omega)
          rw [hvl] at this
          exact this
end Fl
end Go.Proofs.YtekkhnjepcebkaaGreatDoor
