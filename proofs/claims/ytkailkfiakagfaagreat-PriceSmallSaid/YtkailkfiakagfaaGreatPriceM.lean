/- The question that Best asks of each piece in order; slices.Insert of one number, slices.Repeat of one number. Conditions: lengths are below a great bound. -/
import Derived.Test.YtkailkfiakagfaaGreatPriceK
import Derived.Shelf.Spec.SlicesInsert
import Derived.Shelf.Spec.SlicesInsertGrow
import Derived.Shelf.Bits.Mul64
set_option linter.unusedVariables false
set_option linter.unusedSimpArgs false
namespace Go.Proofs.YtkailkfiakagfaaGreat
open Go.RowKit Go.Shelf
set_option maxRecDepth 100000

theorem cheaper_spec (g : Nat) (fall : Int) (bought : List Int) (stock : List Piece) (prices : List Int) (Ab : Option Addr) (cb : Nat) (As : Option Addr) (cs : Nat) (Ap : Option Addr) (cp : Nat) (x i : Nat) (b1 b2 : Nat) (w : World)
    (hd : Desk w g fall bought stock prices Ab cb As cs Ap cp) (hx : x < prices.length) (hi : i < prices.length) (hm : prices.length ≤ big)
    (h1 : w.cell? ⟨b1, 0, none⟩ = some (.pointer (some ⟨g, 0, none⟩))) (h2 : w.cell? ⟨b2, 0, none⟩ = some (iv i)) (hl1 : b1 < w.heap.size) (hl2 : b2 < w.heap.size) :
    Calls Tryz.prog 86 #[iv x, .pointer (some ⟨b1, 0, none⟩), .pointer (some ⟨b2, 0, none⟩)] w fun e w' => e = .returned (.bool (decide (prices.getD x 0 < prices.getD i 0))) ∧ Below w.heap.size w w' := by
  unfold big at hm
  obtain ⟨b, off, px, rfl, hb, hpx, hc⟩ := hd.sp.atI hx
  obtain ⟨b', off', pi, hA, hb', hpi, hc'⟩ := hd.sp.atI hi
  injection hA with hA
  injection hA with e1 e2
  subst e1 e2
  have hval : decide (prices.getD x 0 < prices.getD i 0) = decide (px < pi) := by simp [List.getD_eq_getElem?_getD, hpx, hpi]
  rw [hval]
  have hF : ∀ a : World, Below w.heap.size w a → a.cell? ⟨b1, 0, none⟩ = some (.pointer (some ⟨g, 0, none⟩)) ∧ a.cell? ⟨b2, 0, none⟩ = some (iv i) ∧ a.cell? ⟨g, 3, none⟩ = some (.slice (some ⟨b, off, none⟩) prices.length cp) ∧
      a.cell? ⟨b, off + x, none⟩ = some (iv px) ∧ a.cell? ⟨b, off + i, none⟩ = some (iv pi) := fun a h =>
    ⟨(h.cell (p := ⟨b1, 0, none⟩) hl1).trans h1, (h.cell (p := ⟨b2, 0, none⟩) hl2).trans h2, (hd.below h).c3, (h.cell (p := ⟨b, off + x, none⟩) hb).trans hc, (h.cell (p := ⟨b, off + i, none⟩) hb).trans hc'⟩
  have HF := Lib.hid hF
  have i1 : (x : Int) < (prices.length : Int) := by omega
  have i2 : (i : Int) < (prices.length : Int) := by omega
  clear hF hd hval hpx hpi hc hc' h1 h2
  go_enter Tryz.func86, Tryz.ntmps86
  go_wp2
  refine wp_havoc_lit (by kernel_rfl) (by kernel_rfl) ?_
  repeat (first
    | (refine hv_skip (by rfl) ?_; simp only [Act.put, List.setIfInBounds_toArray, List.set_cons_zero, List.set_cons_succ])
    | (apply hv_val (by rfl); (intro w hw; have F := HF.out w hw; go_simp; exact rfl); simp only [Act.put, List.setIfInBounds_toArray, List.set_cons_zero, List.set_cons_succ]))
  refine hv_nil ?_
  rintro w2 hb2
  go_wp2
  go_ret
  exact ⟨rfl, hb2⟩

/-- slices.Insert's own text, and those that it calls, under this program's numbers. -/
def insRen : Ren := ⟨fun x => match x with | 21 => 87 | 27 => 99 | 28 => 100 | 35 => 103 | 39 => 106 | n => n,
  fun x => match x with | 22 => 22 | 3 => 3 | 4 => 4 | 0 => 0 | n => n, fun n => n⟩
theorem insLays : Lays2.n21 Tryz.prog insRen where
  mixed := by kernel_rfl
  f21 := by kernel_rfl
  f27 := by kernel_rfl
  f28 := by kernel_rfl
  f35 := by kernel_rfl
  f39 := by kernel_rfl
  t0 := by kernel_rfl
  a0 := fun _ => by kernel_rfl
  z0 := fun _ => by kernel_rfl
  v0 := fun _ => by kernel_rfl
  t3 := by kernel_rfl
  a3 := fun _ => by kernel_rfl
  z3 := fun _ => by kernel_rfl
  v3 := fun _ => by kernel_rfl
  t4 := by kernel_rfl
  a4 := fun _ => by kernel_rfl
  z4 := fun _ => by kernel_rfl
  v4 := fun _ => by kernel_rfl
  t22 := by kernel_rfl
  a22 := fun _ => by kernel_rfl
  z22 := fun _ => by kernel_rfl
  v22 := fun _ => by kernel_rfl
  i3 := by kernel_rfl

theorem Blk.shape {w : World} {g : Nat} {t : TypeId} {cs : Array Value} (h : Blk w g t cs) : w.shape? g = some (t, cs.size) := by
  unfold Blk at h
  simp [World.shape?, h]
theorem blk_setCells {g : Nat} {t : TypeId} : ∀ (vs : List Value) (o : Nat) (w : World) (cs : Array Value), Blk w g t cs → o + vs.length ≤ cs.size → Blk (w.setCells g o vs) g t (splice cs.toList o vs).toArray := by
  intro vs
  induction vs with
  | nil =>
    intro o w cs h _
    simpa [splice, World.setCells] using h
  | cons v r ih =>
    intro o w cs h hl
    simp only [List.length_cons] at hl
    have h1 := ih (o + 1) (w.setCell ⟨g, o, none⟩ v) _ (h.set_ o v) (by simp; omega)
    have he : splice (cs.setIfInBounds o v).toList (o + 1) r = splice cs.toList o (v :: r) := by
      have ho : o < cs.toList.length := by simp; omega
      simp only [splice, Array.toList_setIfInBounds, List.length_cons]
      rw [List.take_succ_eq_append_getElem (by simpa using ho), List.getElem_set_self, List.take_set_of_le (Nat.le_refl _), List.drop_set_of_lt (by omega)]
      simp [Nat.add_assoc, Nat.add_comm 1]
    rw [he] at h1
    exact h1
theorem below_setCells {B g : Nat} (hB : B ≤ g) : ∀ (vs : List Value) (o : Nat) (w0 w : World), Below B w0 w → Below B w0 (w.setCells g o vs) := by
  intro vs
  induction vs with
  | nil => intro o w0 w h; exact h
  | cons v r ih => intro o w0 w h; exact ih _ _ _ (h.setCell (p := ⟨g, o, none⟩) hB v)
theorem other_setCells {g b : Nat} (hb : b ≠ g) : ∀ (vs : List Value) (o : Nat) (w : World), (w.setCells g o vs).heap[b]? = w.heap[b]? := by
  intro vs
  induction vs with
  | nil => intro o w; rfl
  | cons v r ih => intro o w; exact (ih _ _).trans (Below.heap_setCell w ⟨g, o, none⟩ v b hb)
theorem own_of_block {e : TypeId} {B : Nat} {w : World} {g n cap : Nat} {xs : List Int} {cur : Array Value} (h : Blk w g e cur) (hB : B ≤ g) (hn : n = xs.length) (hc : n ≤ cap) (hm : cap ≤ maxLen) (hs : cur.size = cap) (ht : cur.toList.take n = xs.map iv) : Own intE e B w (.slice (some ⟨g, 0, none⟩) n cap) xs := by
  subst hn
  refine ⟨flat_length intE xs, .inr ⟨g, cap, cur, rfl, hB, h, hc, hm, by rw [hs]; simp [intE], ?_⟩⟩
  rw [flat_int]
  simpa [intE] using ht
theorem own_block {e : TypeId} {B : Nat} {w : World} {v : Value} {xs : List Int} (h : Own intE e B w v xs) : (v = .slice none 0 0 ∧ xs = []) ∨ ∃ g cap cur, v = .slice (some ⟨g, 0, none⟩) xs.length cap ∧ B ≤ g ∧ Blk w g e cur ∧ xs.length ≤ cap ∧ cap ≤ maxLen ∧ cur.size = cap ∧ cur.toList.take xs.length = xs.map iv := by
  rcases h.2 with ⟨rfl, hn⟩ | ⟨g, cap, cur, rfl, hb, hg, hc, hm, hs, ht⟩
  · exact .inl ⟨rfl, List.eq_nil_of_length_eq_zero hn⟩
  · rw [flat_int] at ht
    exact .inr ⟨g, cap, cur, rfl, hb, hg, hc, hm, by simpa [intE] using hs, by simpa [intE] using ht⟩

theorem shift_list {α : Type} (L cs : List α) (i n : Nat) (v : α) (h : L.take n = cs) (hn : cs.length = n) (hi : i ≤ n) (hL : n + 1 ≤ L.length) : (splice (splice L (i + 1) (cs.drop i)) i [v]).take (n + 1) = cs.take i ++ v :: cs.drop i := by
  have e1 : (splice L (i + 1) (cs.drop i)).take i = cs.take i := by
    unfold splice
    rw [List.take_append_of_le_length (by simp; omega), List.take_take, ← h, List.take_take]
    congr 1
    omega
  have e2 : (splice L (i + 1) (cs.drop i)).drop (i + 1) = cs.drop i ++ L.drop (n + 1) := by
    unfold splice
    rw [List.drop_append_of_le_length (by simp; omega), List.drop_of_length_le (by simp; omega)]
    simp
    congr 1
    omega
  have e3 : splice (splice L (i + 1) (cs.drop i)) i [v] = (cs.take i ++ v :: cs.drop i) ++ L.drop (n + 1) := by
    show (splice L (i + 1) (cs.drop i)).take i ++ ([v] ++ (splice L (i + 1) (cs.drop i)).drop (i + 1)) = _
    rw [e1, e2]
    simp
  rw [e3, List.take_append_of_le_length (by simp; omega), List.take_of_length_le (by simp; omega)]
theorem grow_list {α : Type} (L cs : List α) (i n : Nat) (v : α) (h : L.take i = cs.take i) (hn : cs.length = n) (hi : i ≤ n) (hL : n + 1 ≤ L.length) : (splice (splice L i [v]) (i + 1) (cs.drop i)).take (n + 1) = cs.take i ++ v :: cs.drop i := by
  have e1 : (splice L i [v]).take (i + 1) = cs.take i ++ [v] := by
    unfold splice
    rw [h, ← List.append_assoc, List.take_append_of_le_length (by simp; omega), List.take_of_length_le (by simp; omega)]
  have e3 : splice (splice L i [v]) (i + 1) (cs.drop i) = (cs.take i ++ v :: cs.drop i) ++ (splice L i [v]).drop (i + 1 + (cs.drop i).length) := by
    show (splice L i [v]).take (i + 1) ++ (cs.drop i ++ _) = _
    rw [e1]
    simp
  rw [e3, List.take_append_of_le_length (by simp; omega), List.take_of_length_le (by simp; omega)]
theorem splice_length {α : Type} (L : List α) (o : Nat) (cs : List α) (h : o + cs.length ≤ L.length) : (splice L o cs).length = L.length := length_splice L o cs h

def insertAt (xs : List Int) (i : Nat) (x : Int) : List Int := xs.take i ++ x :: xs.drop i
theorem insert1_spec {B : Nat} {v : Value} {xs : List Int} (x : Int) (i : Nat) (w : World) (hown : Own intE 3 B w v xs) (hB : B ≤ w.heap.size) (hi : i ≤ xs.length) (hm : xs.length ≤ 1000) :
    Calls Tryz.prog 87 #[v, iv i, .slice (some ⟨w.heap.size, 0, none⟩) 1 1] (w.alloc (.cells #[iv x] 3)) fun e w' => ∃ v', e = .returned v' ∧ Own intE 3 B w' v' (insertAt xs i x) ∧ Below B w w' ∧
      (∀ b, b < w.heap.size → v.ownBlock ≠ some b → w'.heap[b]? = w.heap[b]?) := by
  have hv : ∀ j u, [iv x][j]? = some u → (w.alloc (.cells #[iv x] 3)).cell? ⟨w.heap.size, 0 + j, none⟩ = some u := fun j u h => by
    match j, h with
    | 0, h => simp at h; subst h; simp [go_sem]
  have h1 : ∀ u ∈ [iv x], u.oneCell' = true := by simp [Value.oneCell']
  have hW : Below B w (w.alloc (.cells #[iv x] 3)) := (Below.refl _ _).alloc hB _
  rcases own_block hown with ⟨rfl, rfl⟩ | ⟨g, cap, cur, rfl, hBg, hg, hnc, hcm, hcs, htk⟩
  · obtain rfl : i = 0 := by simpa using hi
    refine (Any2.slices_Insert_int_end_grow insLays none 0 0 w.heap.size 0 1 1 [] [iv x] (w.alloc (.cells #[iv x] 3)) (by omega) (by omega) (by omega) (by omega) rfl rfl (fun _ => rfl) (fun a h => by cases h) hv h1).mono ?_
    rintro e w' ⟨rfl, rfl⟩
    refine ⟨_, rfl, own_of_block (cur := _) (heap_alloc_new _ _) (by simp; omega) rfl (grownCap_ge _ _ _ _) (grownCap_le_maxLen _ _ _ _ (by simp [maxLen])) ?_ (by simp [insertAt]), hW.drew.alloc (by simp; omega) _, fun b hb _ => ?_⟩
    · have := grownCap_ge (w.alloc (.cells #[iv x] 3)) (0 + 1) 0 (insRen.t 3)
      simp [size_zeroCells, Value.cells] at this ⊢
      omega
    · exact (Below.heap_alloc _ _ b (by simp; omega)).trans (Below.heap_alloc w _ b hb)
  · have hgl : g < w.heap.size := hg.lt
    have hg' : Blk (w.alloc (.cells #[iv x] 3)) g 3 cur := hg.alloc _
    have hcl : (xs.map iv).length = xs.length := by simp
    have hct : cur.toList.length = cap := by rw [← hcs]; exact Array.length_toList
    have hcell : ∀ j v, (xs.map iv)[j]? = some v → (w.alloc (.cells #[iv x] 3)).cell? ⟨g, 0 + j, none⟩ = some v := fun j v h => by
      have hj : j < xs.length := by have := (List.getElem?_eq_some_iff.1 h).1; simpa using this
      rw [Nat.zero_add, hg'.cell j, ← h, ← htk, List.getElem?_take, if_pos hj, Array.getElem?_toList]
    have hlen : (insertAt xs i x).length = xs.length + 1 := by simp [insertAt]; omega
    have hmap : (insertAt xs i x).map iv = (xs.map iv).take i ++ iv x :: (xs.map iv).drop i := by simp [insertAt]
    have hkeep : ∀ b, b < w.heap.size → (Value.slice (some ⟨g, 0, none⟩) xs.length cap).ownBlock ≠ some b → b ≠ g := fun b _ h e => h (by rw [e]; rfl)
    by_cases hroom : xs.length + 1 ≤ cap
    · by_cases hin : i = xs.length
      · subst hin
        refine (Any2.slices_Insert_int_end_room insLays g 0 xs.length cap w.heap.size 0 1 1 [iv x] (w.alloc (.cells #[iv x] 3)) (by omega) hroom (by unfold maxLen at hcm; omega) rfl
          (fun j hj => by rw [hg'.cell]; simp; omega) (fun j _ => hg'.frozen _) hv h1).mono ?_
        rintro e w' ⟨rfl, rfl⟩
        refine ⟨_, rfl, own_of_block (blk_setCells [iv x] (0 + xs.length) _ _ hg' (by simp; omega)) hBg (by rw [hlen]) hroom hcm (by simp [splice]; omega) ?_, below_setCells hBg _ _ _ _ hW, fun b hb hv => (other_setCells (hkeep b hb hv) _ _ _).trans (Below.heap_alloc w _ b hb)⟩
        rw [hmap, ← htk]
        simp only [splice, Nat.zero_add, List.length_cons, List.length_nil]
        rw [← List.append_assoc, List.take_append_of_le_length (by simp; omega), List.take_of_length_le (by simp; omega)]
        simp [List.take_take]
      · have hlt : i < xs.length := by omega
        have hnew : Blk (w.alloc (.cells #[iv x] 3)) w.heap.size 3 #[iv x] := Blk.new _ _ _
        refine (Any2.slices_Insert_int_shift insLays g 0 xs.length cap i w.heap.size 0 1 1 (xs.map iv) [iv x] (w.alloc (.cells #[iv x] 3)) hlt (by omega) hroom (by unfold maxLen at hcm; omega) (by omega) hcl rfl
          hcell (fun j hj => by rw [hg'.cell]; simp; omega) (fun j _ => hg'.frozen _) hv (ints_oneCell _ _) h1 _ _ 1 cur.size hnew.shape hg'.shape (by omega) (hnew.frozen _) (hnew.frozen _)).mono ?_
        rintro e w' ⟨rfl, rfl⟩
        have hd : ((xs.map iv).drop i).length = xs.length - i := by simp
        have hb1 := blk_setCells ((xs.map iv).drop i) (0 + (i + 1)) _ _ (show Blk (w.alloc (.cells #[iv x] 3)).drew g 3 cur from hg') (by rw [hd]; omega)
        have hs1 := splice_length cur.toList (0 + (i + 1)) ((xs.map iv).drop i) (by rw [hd, hct]; omega)
        have hb2 := blk_setCells [iv x] (0 + i) _ _ hb1 (by rw [List.size_toArray, hs1, hct]; show 0 + i + 1 ≤ cap; omega)
        refine ⟨_, rfl, own_of_block hb2 hBg (by rw [hlen]) hroom hcm ?_ ?_, below_setCells hBg _ _ _ _ (below_setCells hBg _ _ _ _ hW.drew), fun b hb hv => (other_setCells (hkeep b hb hv) _ _ _).trans ((other_setCells (hkeep b hb hv) _ _ _).trans (Below.heap_alloc w _ b hb))⟩
        · rw [List.size_toArray, splice_length _ _ _ (by rw [hs1, hct]; show 0 + i + 1 ≤ cap; omega), hs1, hct]
        · rw [hmap]
          simp only [Nat.zero_add]
          exact shift_list cur.toList (xs.map iv) i xs.length (iv x) htk hcl hi (by rw [hct]; omega)
    · by_cases hin : i = xs.length
      · subst hin
        refine (Any2.slices_Insert_int_end_grow insLays (some ⟨g, 0, none⟩) xs.length cap w.heap.size 0 1 1 (xs.map iv) [iv x] (w.alloc (.cells #[iv x] 3)) (by omega) hnc (by omega) (by omega) hcl rfl (fun h => by cases h)
          (fun a ha j v h => by injection ha with ha; subst ha; have hadd : (⟨g, 0, none⟩ : Addr).add j = ⟨g, 0 + j, none⟩ := by { unfold Addr.add; split <;> simp_all }; rw [hadd]; exact hcell j v h) hv h1).mono ?_
        rintro e w' ⟨rfl, rfl⟩
        refine ⟨_, rfl, own_of_block (cur := _) (heap_alloc_new _ _) (by simp; omega) (by rw [hlen]) (grownCap_ge _ _ _ _) (grownCap_le_maxLen _ _ _ _ (by unfold maxLen; omega)) ?_ ?_, hW.drew.alloc (by simp; omega) _, fun b hb _ => (Below.heap_alloc _ _ b (by simp; omega)).trans (Below.heap_alloc w _ b hb)⟩
        · have := grownCap_ge (w.alloc (.cells #[iv x] 3)) (xs.length + 1) cap (insRen.t 3)
          simp [size_zeroCells, Value.cells] at this ⊢
          omega
        · rw [hmap]
          have e1 : (xs.map iv).drop xs.length = [] := List.drop_eq_nil_of_le (by simp)
          have e2 : (xs.map iv).take xs.length = xs.map iv := List.take_of_length_le (by simp)
          rw [e1, e2]
          simp only [Array.toList_append]
          rw [List.take_append_of_le_length (by simp), List.take_of_length_le (by simp)]
      · have hlt : i < xs.length := by omega
        refine (Any2.slices_Insert_int_grow insLays g 0 xs.length cap i w.heap.size 0 1 1 (xs.map iv) [iv x] (w.alloc (.cells #[iv x] 3)) hlt (by omega) hnc (by omega) (by omega) hcl rfl hcell hv (ints_oneCell _ _) h1).mono ?_
        rintro e w' ⟨rfl, rfl⟩
        have hge := grownCap_ge (w.alloc (.cells #[iv x] 3)) (xs.length + 1) cap (insRen.t 3)
        have hle := grownCap_le_maxLen (w.alloc (.cells #[iv x] 3)) (xs.length + 1) cap (insRen.t 3) (by unfold maxLen; omega)
        generalize grownCap (w.alloc (.cells #[iv x] 3)) (xs.length + 1) cap (insRen.t 3) = cap' at *
        have hd : ((xs.map iv).drop i).length = xs.length - i := by simp
        obtain ⟨L, hL⟩ : ∃ L : Array Value, L = (((xs.map iv).take i).toArray ++ Builtin.zeroCells (Value.int .i64 0).cells (xs.length + 1 - i) ++ Builtin.zeroCells (Value.int .i64 0).cells (cap' - (xs.length + 1))) := ⟨_, rfl⟩
        have hLs : L.size = cap' := by rw [hL]; simp [size_zeroCells, Value.cells]; omega
        have hLt : L.toList.take i = (xs.map iv).take i := by
          rw [hL]
          simp only [Array.toList_append, List.append_assoc]
          rw [List.take_append_of_le_length (by simp; omega), List.take_take, Nat.min_self]
        rw [← hL]
        have hb0 : Blk ((w.alloc (.cells #[iv x] 3)).alloc (.cells L (insRen.t 3))).drew (w.alloc (.cells #[iv x] 3)).heap.size 3 L := Blk.new _ _ _
        have hLl : L.toList.length = cap' := by rw [← hLs]; exact Array.length_toList
        have hs0 := splice_length L.toList i [iv x] (by rw [hLl]; show i + 1 ≤ cap'; omega)
        have hb1 := blk_setCells [iv x] i _ _ hb0 (by rw [hLs]; show i + 1 ≤ cap'; omega)
        have hs1 := splice_length (splice L.toList i [iv x]) (i + 1) ((xs.map iv).drop i) (by rw [hs0, hd, hLl]; omega)
        have hb1' : Blk (((w.alloc (.cells #[iv x] 3)).alloc (.cells L (insRen.t 3))).drew.setCells (w.alloc (.cells #[iv x] 3)).heap.size i [iv x]).drew (w.alloc (.cells #[iv x] 3)).heap.size 3 (splice L.toList i [iv x]).toArray := hb1
        have hb2 := blk_setCells ((xs.map iv).drop i) (i + 1) _ _ hb1' (by rw [List.size_toArray, hs0, hd, hLl]; omega)
        have hBn : B ≤ (w.alloc (.cells #[iv x] 3)).heap.size := by simp; omega
        have hne : ∀ b, b < w.heap.size → b ≠ (w.alloc (.cells #[iv x] 3)).heap.size := fun b hb => by simp; omega
        refine ⟨_, rfl, own_of_block hb2 hBn (by rw [hlen]) hge hle ?_ ?_, below_setCells hBn _ _ _ _ (Below.drew (below_setCells hBn _ _ _ _ (Below.drew (hW.alloc hBn _)))), fun b hb _ => (other_setCells (hne b hb) _ _ _).trans ((other_setCells (hne b hb) _ _ _).trans ((Below.heap_alloc _ _ b (by simp; omega)).trans (Below.heap_alloc w _ b hb)))⟩
        · rw [List.size_toArray, hs1, hs0, hLl]
        · rw [hmap]
          exact grow_list L.toList (xs.map iv) i xs.length (iv x) hLt hcl hi (by rw [hLl]; omega)
end Go.Proofs.YtkailkfiakagfaaGreat
-- slices.Repeat of one number. Condition: at most a thousand.
namespace Go.Proofs.YtkailkfiakagfaaGreat
open Go.RowKit Go.Shelf
set_option maxRecDepth 100000

def mulRen : Ren := ⟨fun x => match x with | 212 => 101 | 263 => 104 | 264 => 105 | n => n,
  fun x => match x with | 46 => 135 | 51 => 139 | 146 => 140 | 53 => 142 | 148 => 143 | n => n, fun n => n⟩
theorem mulLays : Lays.n212 Tryz.prog mulRen where
  mixed := by kernel_rfl
  f212 := by kernel_rfl
  f263 := by kernel_rfl
  f264 := by kernel_rfl
  t46 := by kernel_rfl
  a46 := fun _ => by kernel_rfl
  z46 := fun _ => by kernel_rfl
  v46 := fun _ => by kernel_rfl
  t51 := by kernel_rfl
  a51 := fun _ => by kernel_rfl
  z51 := fun _ => by kernel_rfl
  v51 := fun _ => by kernel_rfl
  t53 := by kernel_rfl
  a53 := fun _ => by kernel_rfl
  z53 := fun _ => by kernel_rfl
  v53 := fun _ => by kernel_rfl
  t146 := by kernel_rfl
  a146 := fun _ => by kernel_rfl
  z146 := fun _ => by kernel_rfl
  v146 := fun _ => by kernel_rfl
  t148 := by kernel_rfl
  a148 := fun _ => by kernel_rfl
  z148 := fun _ => by kernel_rfl
  v148 := fun _ => by kernel_rfl
theorem mul_spec (n : Nat) (h : n ≤ 1000) (w : World) : Calls Tryz.prog 101 #[.int .u64 1, .int .u64 n] w fun e w' => e = .returned (.tuple #[.int .u64 0, .int .u64 n]) ∧ w = w' := by
  have := Any.bits_Mul mulLays 1 n (by omega) (by omega) w
  rw [Nat.one_mul, Nat.div_eq_of_lt (by omega), Nat.mod_eq_of_lt (by omega)] at this
  exact this.mono fun _ _ h => ⟨h.1, h.2.symm⟩
theorem rep_splice (x : Int) (n k m : Nat) (h : k + m ≤ n) : splice (List.replicate k x ++ List.replicate (n - k) 0) k (List.replicate m x) = List.replicate (k + m) x ++ List.replicate (n - (k + m)) 0 := by
  unfold splice
  rw [List.take_append_of_le_length (by simp), List.take_of_length_le (by simp), List.drop_append, List.drop_of_length_le (by simp), List.drop_replicate, List.nil_append, List.length_replicate, List.length_replicate, ← List.append_assoc, List.replicate_append_replicate]
  congr 2
  omega
theorem rep_at (x : Int) (n k j : Nat) (y : Int) (m : Nat) (hm : m ≤ k) (h : (List.replicate m x)[j]? = some y) : ((List.replicate k x ++ List.replicate (n - k) 0).map iv).toArray[j]? = some (iv y) := by
  have hj : j < m := by have := (List.getElem?_eq_some_iff.1 h).1; simpa using this
  rw [List.getElem?_replicate, if_pos hj] at h
  injection h with h
  subst h
  simp [List.getElem?_append_left, List.getElem?_replicate, show j < k by omega]
set_option maxHeartbeats 4000000 in
theorem repeat1_at (x : Int) (n : Nat) (w : World) (hn : n ≤ 1000) (g : Nat) (hg : g < w.heap.size) (hx0 : w.cell? ⟨g, 0, none⟩ = some (iv x)) : Calls Tryz.prog 88 #[.slice (some ⟨g, 0, none⟩) 1 1, iv n] w fun e w' =>
    ∃ v, e = .returned v ∧ Own intE 3 w.heap.size w' v (List.replicate n x) ∧ Below w.heap.size w w' := by
  have hsz : ((Tryz.prog).info? 3).map (·.size) = some 1 := by kernel_rfl
  by_cases h0 : n = 0
  · subst h0
    go_enter Tryz.func88, Tryz.ntmps88
    go_wp2_with (first
      | (go_at_call 101; refine (mul_spec 0 (by omega) _).mono ?_; rintro e w1 ⟨rfl, rfl⟩)
      | (at_make; refine wpMakeN intE tyInts 0 zero_int rfl _ _ rfl 0 rfl rfl (by unfold big; omega) ?_; intro w1 hown1 hb1; have hfull := hown1.full; rw [flat_int] at hfull; obtain ⟨hB1, hB1'⟩ := hfull;
         obtain ⟨w2, hcp, hB2, hb2⟩ := run_copyG (ty := 3) (ys := []) Tryz.underlying22 hsz hB1 0 0 0 1 1 rfl (b := g) (off := 0) (fun j y h => by cases h) (by simp)))
    go_loopw [8] (fun k wr => k = iv 0 ∧ wr = w2) (fun _ _ => 0)
    case atStart => exact ⟨rfl, rfl⟩
    case round =>
      obtain ⟨rfl, rfl⟩ := hrel
      go_wp2
      go_ret
      refine ⟨_, rfl, ?_, hb1.trans hb2⟩
      exact Own.ofBlk (xs := []) (by simpa [splice] using hB2) (Nat.le_refl _) (by simp [maxLen])
  · go_enter Tryz.func88, Tryz.ntmps88
    go_wp2_with (first
      | (go_at_call 101; refine (mul_spec n hn _).mono ?_; rintro e w1 ⟨rfl, rfl⟩)
      | (at_make; refine wpMakeN intE tyInts 0 zero_int rfl _ _ rfl n rfl rfl (by unfold big; omega) ?_; intro w1 hown1 hb1; have hfull := hown1.full; rw [flat_int] at hfull; obtain ⟨hB1, hB1'⟩ := hfull;
         obtain ⟨w2, hcp, hB2, hb2⟩ := run_copyG (ty := 3) (ys := [x]) Tryz.underlying22 hsz hB1 0 n n 1 1 ((Nat.min_eq_left (show 1 ≤ n by omega)).symm) (b := g) (off := 0) (fun j y h => by
           match j, h with
           | 0, h => (injection h with h; subst h; exact (hb1.cell (p := ⟨g, 0, none⟩) hg).trans hx0)) (by simp; omega)))
    have hB2' : Blk w2 w.heap.size 3 ((List.replicate 1 x ++ List.replicate (n - 1) 0).map iv).toArray := by
      have := rep_splice x n 0 1 (by omega)
      simp only [Nat.zero_add, List.replicate_zero, List.nil_append, Nat.sub_zero] at this
      rw [← this]
      exact hB2
    have hbA := hb1.trans hb2
    clear hB2 hcp hown1 hB1 hb1 hb2 hB1'
    go_loopw [8] (fun k wr => ∃ i : Nat, k = iv i ∧ 1 ≤ i ∧ i ≤ n ∧ Blk wr w.heap.size 3 ((List.replicate i x ++ List.replicate (n - i) 0).map iv).toArray ∧ Below w.heap.size w wr) (fun k _ => n - (intOf k).toNat)
    case atStart => exact ⟨1, rfl, by omega, by omega, hB2', hbA⟩
    case round =>
      obtain ⟨i, rfl, hi1, hin, hB, hb⟩ := hrel
      by_cases hlt : i < n
      · obtain ⟨m, hm⟩ : ∃ m, m = Nat.min i (n - i) := ⟨_, rfl⟩
        have hm1 : 1 ≤ m := by rw [hm]; exact Nat.le_min.2 ⟨by omega, by omega⟩
        have hm2 : m ≤ i := by rw [hm]; exact Nat.min_le_left _ _
        have hm3 : m ≤ n - i := by rw [hm]; exact Nat.min_le_right _ _
        obtain ⟨w3, hcp, hB3, hb3⟩ := run_copyG (P := Tryz.prog) (ty := 3) (w := wr.drew) (ys := List.replicate m x) Tryz.underlying22 hsz (show Blk wr.drew w.heap.size _ _ from hB) i (n - i) (n - i) i n (by rw [List.length_replicate]; exact hm) (b := w.heap.size) (off := 0) (fun j y h => by
          rw [Nat.zero_add, (show Blk wr.drew w.heap.size _ _ from hB).cell j]
          exact rep_at x n i j y m hm2 h) (by simp; omega)
        rw [rep_splice x n i m (by omega)] at hB3
        rw [List.length_replicate] at hcp
        have HB3 := Lib.hid hB3
        clear hB3
        go_wp2
        have ha1 : IntKind.i64.wrap ((i : Int) + (m : Int)) = ((i + m : Nat) : Int) := IntWalk.i64_in _ (by omega)
        clear hm
        go_region
        clear hcp ha1
        go_roundw
        case rel => exact ⟨_, _, _, _, _, _, _, _, _, _, _, _, _, _, ⟨i + m, rfl, by omega, by omega, HB3.out, hb.drew.trans hb3⟩, by push_cast; rfl⟩
        case measure => simp [intOf]; omega
      · obtain rfl : i = n := by omega
        go_wp2
        go_ret
        refine ⟨_, rfl, ?_, hb⟩
        have := Own.ofBlk (E := intE) (B := w.heap.size) (xs := List.replicate i x) (by rw [flat_int]; simpa using hB) (Nat.le_refl _) (by simp [maxLen]; omega)
        simpa using this
end Go.Proofs.YtkailkfiakagfaaGreat
-- Best of package price. Conditions: lengths are below a great bound.
namespace Go.Proofs.YtkailkfiakagfaaGreat
open Go.RowKit
set_option maxRecDepth 100000

namespace Price
def cheaper (prices : List Int) (i : Nat) (k : Int) : Bool := decide (prices.getD k.toNat 0 < prices.getD i 0)
def posIn (p : Int → Bool) (order : List Int) : Nat := if findFrom p order 0 < 0 then order.length else (findFrom p order 0).toNat
def orderGo (prices order : List Int) (i : Nat) : Nat → List Int
  | 0 => order
  | c + 1 => orderGo prices (insertAt order (posIn (cheaper prices i) order) i) (i + 1) c
def setAll (plan : List Int) (week : Int) : List Int → List Int
  | [] => plan
  | k :: l => setAll (plan.set k.toNat week) week l
def planGo (plan order : List Int) (week : Nat) : List Int → List Int
  | [] => plan
  | most :: bs => planGo (setAll plan week (order.take (min most.toNat order.length))) (order.drop (min most.toNat order.length)) (week + 1) bs
def bestPlan (prices bought : List Int) : List Int := planGo (List.replicate prices.length (-1)) (orderGo prices [] 0 prices.length) 0 bought
def bestOf (l : List Rule) (fall : Int) (bought : List Int) (stock : List Piece) : List Int × Int × Int :=
  if openErr l fall bought stock = 0 then (bestPlan (stocked l stock).1 bought, earns fall (stocked l stock).1 (bestPlan (stocked l stock).1 bought), 0)
  else ([], 0, openErr l fall bought stock)
theorem setAll_length (week : Int) : ∀ (l plan : List Int), (setAll plan week l).length = plan.length := by
  intro l
  induction l with
  | nil => intro plan; rfl
  | cons k l ih => intro plan; rw [setAll, ih, List.length_set]
theorem setAll_mem (week : Int) : ∀ (l plan : List Int), (∀ x ∈ plan, -1 ≤ x ∧ x ≤ 100) → -1 ≤ week → week ≤ 100 → ∀ x ∈ setAll plan week l, -1 ≤ x ∧ x ≤ 100 := by
  intro l
  induction l with
  | nil => intro plan h _ _; exact h
  | cons k l ih =>
    intro plan h h1 h2
    refine ih _ (fun x hx => ?_) h1 h2
    rcases List.mem_or_eq_of_mem_set hx with hx | rfl
    · exact h x hx
    · exact ⟨h1, h2⟩
end Price
theorem findFrom_lt {α : Type} (p : α → Bool) : ∀ (l : List α) (k : Int), findFrom p l k = -1 ∨ (k ≤ findFrom p l k ∧ findFrom p l k < k + l.length) := by
  intro l
  induction l with
  | nil => intro k; exact .inl rfl
  | cons x l ih =>
    intro k
    simp only [findFrom, List.length_cons]
    by_cases h : p x = true
    · rw [if_pos h]; exact .inr (by omega)
    · rw [if_neg h]
      rcases ih (k + 1) with h | h
      · exact .inl h
      · exact .inr (by omega)
theorem posIn_le (p : Int → Bool) (order : List Int) : Price.posIn p order ≤ order.length := by
  unfold Price.posIn
  rcases findFrom_lt p order 0 with h | h <;> split <;> omega
theorem insertAt_mem {xs : List Int} {i : Nat} {x y : Int} (h : y ∈ insertAt xs i x) : y = x ∨ y ∈ xs := by
  unfold insertAt at h
  rcases List.mem_append.1 h with h | h
  · exact .inr (List.mem_of_mem_take h)
  · rcases List.mem_cons.1 h with h | h
    · exact .inl h
    · exact .inr (List.mem_of_mem_drop h)
theorem insertAt_length (xs : List Int) (i : Nat) (x : Int) (h : i ≤ xs.length) : (insertAt xs i x).length = xs.length + 1 := by
  simp [insertAt]; omega
theorem Sl.dropI {w : World} {b off : Nat} {xs : List Int} (h : Sl intE w (some ⟨b, off, none⟩) xs) (j : Nat) : Sl intE w (some ⟨b, off + j, none⟩) (xs.drop j) := fun hx => by
  obtain ⟨b', off', hA, hb, hc⟩ := h (by intro e; subst e; simp at hx)
  injection hA with hA
  injection hA with e1 e2
  subst e1 e2
  refine ⟨b, off + j, rfl, hb, fun i x hi k u hu => ?_⟩
  rw [List.getElem?_drop] at hi
  have := hc (j + i) x hi k u hu
  simpa [intE, Nat.add_assoc] using this
theorem Sl.cutI {w : World} {b off c j : Nat} {xs : List Int} (h : Sl intE w (some ⟨b, off, none⟩) xs) (hc : xs.length ≤ c) : Sl intE w (if c = j then some ⟨b, off, none⟩ else some ⟨b, off + j, none⟩) (xs.drop j) := by
  split
  · rename_i e
    intro hx
    exact absurd (List.drop_of_length_le (by omega)) hx
  · exact h.dropI j
set_option maxHeartbeats 800000 in
theorem Best_spec
    (A : Option Addr) (l : List Rule) (c : Nat) (fall : Int) (Ab : Option Addr) (bought : List Int) (cb : Nat) (As : Option Addr) (stock : List Piece) (cs : Nat) (w : World) (hm : l.length ≤ big) (hc : l.length ≤ c) (hs : Sl ruleE w A l) (hmb : bought.length ≤ big) (hsb : Sl intE w Ab bought) (hms : stock.length ≤ big) (hss : Sl pieceE w As stock)
    : Calls Tryz.prog 55 #[.slice A l.length c, saleV fall Ab bought.length cb, .slice As stock.length cs] w fun e w' =>
      ∃ v, e = .returned (.tuple #[v, iv (Price.bestOf l fall bought stock).2.1, iv (Price.bestOf l fall bought stock).2.2]) ∧ Own intE 3 w.heap.size w' v (Price.bestOf l fall bought stock).1 ∧ Below w.heap.size w w' := by
  have hop := opened_spec A l c fall Ab bought cb As stock cs (w.alloc (.cells #[iv fall, .slice Ab bought.length cb] 30)) hm hc (hs.alloc _) hmb (hsb.alloc _) hms (hss.alloc _)
  have HOP := Lib.hid hop
  clear hop
  have hmk : ∀ (fn : Fn) (first cap : Array Value) (w : World), (Instr.makeFunc fn first cap).run Tryz.prog w = .ok (.func fn first cap) w := fun _ _ _ _ => rfl
  by_cases h0 : Price.openErr l fall bought stock = 0
  · have ho := Price.openErr_ok h0
    have he : Price.bestOf l fall bought stock = (Price.bestPlan (Price.stocked l stock).1 bought, Price.earns fall (Price.stocked l stock).1 (Price.bestPlan (Price.stocked l stock).1 bought), 0) := by simp [Price.bestOf, h0]
    rw [h0] at HOP
    rw [he]
    clear he h0
    have HO := Lib.hid ho
    have hnn := ho.hstock
    have hpl := ho.hlength
    clear ho
    obtain ⟨prices, hpr⟩ : ∃ ps, ps = (Price.stocked l stock).1 := ⟨_, rfl⟩
    rw [← hpr] at hpl ⊢
    have HPR := Lib.hid hpr
    clear hpr
    go_enter Tryz.func55, Tryz.ntmps55
    go_wp2_with (first
      | (go_at_call 84; refine HOP.out.mono ?_; rintro e w1 ⟨hb1, ⟨h, _⟩ | ⟨_, g, Ap, cpp, rfl, hd⟩⟩; exact absurd rfl h; rw [← HPR.out] at hd))
    have hs1 : w1.cell? ⟨w.heap.size, 1, none⟩ = some (.slice Ab bought.length cb) := (hb1.cell (p := ⟨w.heap.size, 1, none⟩) (by simp)).trans (by simp [go_sem])
    have hl1 : w.heap.size < w1.heap.size := Nat.lt_of_lt_of_le (by simp) hb1.size
    have hb2 := hb1.of_alloc.alloc (Nat.le_of_lt hl1) (.cells #[Value.pointer (some ⟨g, 0, none⟩)] 119)
    have hd2 := hd.below ((Below.refl _ w1).alloc (Nat.le_refl _) (.cells #[Value.pointer (some ⟨g, 0, none⟩)] 119))
    have h9 : (w1.alloc (.cells #[Value.pointer (some ⟨g, 0, none⟩)] 119)).cell? ⟨w1.heap.size, 0, none⟩ = some (.pointer (some ⟨g, 0, none⟩)) := by simp [go_sem]
    have hz2 : (w1.alloc (.cells #[Value.pointer (some ⟨g, 0, none⟩)] 119)).heap.size = w1.heap.size + 1 := by simp
    have hs2 := (((Below.refl _ w1).alloc (Nat.le_refl _) (.cells #[Value.pointer (some ⟨g, 0, none⟩)] 119)).cell (p := ⟨w.heap.size, 1, none⟩) hl1).trans hs1
    clear hd hb1 hs1
    generalize w1.alloc (.cells #[Value.pointer (some ⟨g, 0, none⟩)] 119) = w2 at *
    have hsb2 := hsb.below hb2
    clear hs hsb hss hmk
    have hmk : ∀ (fn : Fn) (first cap : Array Value) (w : World), (Instr.makeFunc fn first cap).run Tryz.prog w = .ok (.func fn first cap) w := fun _ _ _ _ => rfl
    go_loopw [11, 32] (fun v i wr => ∃ (k : Nat) (order : List Int), k ≤ stock.length ∧ i = iv k ∧ Own intE 3 w2.heap.size wr v order ∧ Below w2.heap.size w2 wr ∧ order.length = k ∧ (∀ x ∈ order, ∃ n : Nat, x = (n : Int) ∧ n < k) ∧
      Hid (Price.orderGo prices order k (stock.length - k) = Price.orderGo prices [] 0 stock.length)) (fun _ i _ => stock.length - (intOf i).toNat)
    case atStart => exact ⟨0, [], by omega, rfl, ⟨rfl, .inl ⟨rfl, rfl⟩⟩, Below.refl _ _, rfl, fun x hx => by simp at hx, rfl⟩
    case round =>
      obtain ⟨k, order, hk, rfl, hown, hbw, rfl, hmem, hf⟩ := hrel
      obtain ⟨A', c', rfl, hcc, hcm⟩ := hown.form
      by_cases hlt : order.length < stock.length
      · have hf' := hf.out
        rw [show stock.length - order.length = (stock.length - (order.length + 1)) + 1 from by omega] at hf'
        simp only [Price.orderGo] at hf'
        have HF := Lib.hid hf'
        clear hf hf'
        have hpos := posIn_le (Price.cheaper prices order.length) order
        have HP : Hid (IsPred Tryz.prog (wr.alloc (.cells #[iv order.length] 3)) 86 #[.pointer (some ⟨w1.heap.size, 0, none⟩), .pointer (some ⟨wr.heap.size, 0, none⟩)] iv order (Price.cheaper prices order.length)) :=
          ⟨callFunc_run (by kernel_rfl), fun x hx w' hw' => by
            obtain ⟨n, rfl, hn⟩ := hmem x hx
            have hbn := hbw.next hw'.of_alloc (Nat.le_refl _)
            have hl9 : w1.heap.size < w2.heap.size := by omega
            exact cheaper_spec g fall bought stock prices Ab cb As cs Ap cpp n order.length w1.heap.size wr.heap.size w' (hd2.below hbn) (by omega) (by omega) (by unfold big; omega)
              ((hbn.cell (p := ⟨w1.heap.size, 0, none⟩) hl9).trans h9) ((hw'.cell (p := ⟨wr.heap.size, 0, none⟩) (by simp)).trans (by simp [go_sem])) (Nat.lt_of_lt_of_le hl9 hbn.size) (Nat.lt_of_lt_of_le (by simp) hw'.size)⟩
        have hsz : w2.heap.size ≤ wr.heap.size := hbw.size
        have HO2 := Lib.hid hown
        have hsl := hown.sl
        clear hown
        by_cases hneg : findFrom (Price.cheaper prices order.length) order 0 < 0
        · have hpe : Price.posIn (Price.cheaper prices order.length) order = order.length := by unfold Price.posIn; rw [if_pos hneg]
          rw [hpe] at HF
          go_wp2_with fail
          refine (indexI A' order c' 86 _ (Price.cheaper prices order.length) _ (by unfold big; omega) (hsl.alloc _) HP.out).mono ?_; rintro e w3 ⟨rfl, hb3⟩; obtain ⟨q, qf, ql, qe, qn, qx⟩ := aft hb3 (wr.heap.size) (by (try simp [go_sem]); (try omega)); (try simp [go_sem] at q qf); have hsz3 := hb3.of_alloc.size
          go_wp2_with fail
          have hI := insert1_spec (order.length : Int) order.length w3 (HO2.out.below hb3.of_alloc) (by omega) (Nat.le_refl _) (by omega)
          refine hI.mono ?_; rintro e w4 ⟨v', rfl, hown4, hb4, _⟩
          have hL := insertAt_length order order.length (order.length : Int) (Nat.le_refl _)
          have hM : ∀ x ∈ insertAt order order.length (order.length : Int), ∃ n : Nat, x = (n : Int) ∧ n < order.length + 1 := fun x hx => by
            rcases insertAt_mem hx with rfl | hx
            · exact ⟨order.length, rfl, by omega⟩
            · obtain ⟨n, h1, h2⟩ := hmem x hx
              exact ⟨n, h1, by omega⟩
          have hB4 : Below w2.heap.size w2 w4 := (hbw.next hb3.of_alloc (Nat.le_refl _)).trans hb4
          go_wp2_with fail
          go_roundw
          case rel => exact ⟨order.length + 1, insertAt order order.length order.length, by omega, by go_num, hown4, hB4, hL, hM, HF.out⟩
          case measure => simp [intOf]; omega
        · have hpe : findFrom (Price.cheaper prices order.length) order 0 = (Price.posIn (Price.cheaper prices order.length) order : Int) := by unfold Price.posIn; rw [if_neg hneg]; omega
          obtain ⟨pos, hpo⟩ : ∃ pos, pos = Price.posIn (Price.cheaper prices order.length) order := ⟨_, rfl⟩
          rw [← hpo] at hpe hpos HF
          have HPE := Lib.hid hpe
          have HNE := Lib.hid hneg
          clear hpe hneg hpo
          go_wp2_with fail
          refine (indexI A' order c' 86 _ (Price.cheaper prices order.length) _ (by unfold big; omega) (hsl.alloc _) HP.out).mono ?_; rintro e w3 ⟨rfl, hb3⟩; rw [HPE.out]; obtain ⟨q, qf, ql, qe, qn, qx⟩ := aft hb3 (wr.heap.size) (by (try simp [go_sem]); (try omega)); (try simp [go_sem] at q qf); have hsz3 := hb3.of_alloc.size
          go_wp2_with fail
          have hI := insert1_spec (order.length : Int) pos w3 (HO2.out.below hb3.of_alloc) (by omega) hpos (by omega)
          refine hI.mono ?_; rintro e w4 ⟨v', rfl, hown4, hb4, _⟩
          have hL := insertAt_length order pos (order.length : Int) hpos
          have hM : ∀ x ∈ insertAt order pos (order.length : Int), ∃ n : Nat, x = (n : Int) ∧ n < order.length + 1 := fun x hx => by
            rcases insertAt_mem hx with rfl | hx
            · exact ⟨order.length, rfl, by omega⟩
            · obtain ⟨n, h1, h2⟩ := hmem x hx
              exact ⟨n, h1, by omega⟩
          have hB4 : Below w2.heap.size w2 w4 := (hbw.next hb3.of_alloc (Nat.le_refl _)).trans hb4
          go_wp2_with fail
          go_roundw
          case rel => exact ⟨order.length + 1, insertAt order pos order.length, by omega, by go_num, hown4, hB4, hL, hM, HF.out⟩
          case measure => simp [intOf]; omega
      · have hol : order.length = stock.length := by omega
        have hord : Price.orderGo prices [] 0 prices.length = order := by
          have := hf.out
          rw [hol, Nat.sub_self] at this
          rw [hpl, ← this]; rfl
        have HORD := Lib.hid hord
        clear hord hf
        have HW := Lib.hid HO.out.hweeks1
        obtain ⟨wo, rfl⟩ : ∃ wo : World, wo = wr := ⟨_, rfl⟩
        have hs3 := (hbw.cell (p := ⟨w.heap.size, 1, none⟩) (show w.heap.size < _ by omega)).trans hs2
        have h93 := (hbw.cell (p := ⟨w1.heap.size, 0, none⟩) (show w1.heap.size < _ by omega)).trans h9
        have hd3 := hd2.below hbw
        have hsb3 := hsb2.below hbw
        have hb3 := hb2.next hbw (by omega)
        have hzo := hbw.size
        have hsl := hown.sl
        have hlo := fun kk hkk => (hown.lt kk hkk).2
        have hA' : A' = none ∨ ∃ b off, A' = some ⟨b, off, none⟩ := by
          rcases hown.2 with ⟨h, _⟩ | ⟨_, _, _, h, _⟩
          · injection h with h; exact .inl h
          · injection h with h; exact .inr ⟨_, _, h⟩
        have HM := Lib.hid hmem
        clear hown hs2 h9 hd2 hsb2 hb2 hmem
        go_wp2_with (first
          | (go_at_call 88; refine (repeat1_at (-1) stock.length _ (by omega) wo.heap.size (by simp) (by simp [go_sem])).mono ?_; rintro e w4 ⟨pv, rfl, hown4, hb4⟩; obtain ⟨Aq, cq, rfl, hq1, hq2⟩ := hown4.form; rw [List.length_replicate] at hown4 hq1 ⊢; have hbo := hb4.of_alloc; have hs4 := (hbo.cell (p := ⟨w.heap.size, 1, none⟩) (show w.heap.size < _ by omega)).trans hs3))
        have hown5 := hown4.base (B' := wo.heap.size) (by simp)
        have hmw := HW.out
        clear hown4 hb4
        go_loopw [11, 55] (fun ov i w' => ∃ (k : Nat) (A : Option Addr) (ord : List Int) (c : Nat) (plan : List Int), k ≤ bought.length ∧ i = iv k ∧ ov = .slice A ord.length c ∧ ord.length ≤ c ∧ c ≤ maxLen ∧ Sl intE wo A ord ∧ (A = none ∨ ∃ b off, A = some ⟨b, off, none⟩) ∧
          Own intE 3 wo.heap.size w' (.slice Aq stock.length cq) plan ∧ plan.length = stock.length ∧ Hid (∀ x ∈ ord, ∃ n : Nat, x = (n : Int) ∧ n < order.length) ∧ Hid (∀ x ∈ plan, -1 ≤ x ∧ x ≤ 100) ∧ Below wo.heap.size wo w' ∧
          Hid (Price.planGo plan ord k (bought.drop k) = Price.bestPlan prices bought)) (fun _ i _ => bought.length - (intOf i).toNat)
        case atStart =>
          refine ⟨0, A', order, c', List.replicate stock.length (-1), by omega, rfl, by rw [hol], hcc, hcm, hsl, hA', hown5, by simp, HM.out, fun x hx => ?_, hbo, ?_⟩
          · rw [List.eq_of_mem_replicate hx]; omega
          · show _ = _
            rw [Price.bestPlan, HORD.out, hpl]; rfl
        case round =>
          obtain ⟨k, A2, ord, c2, plan, hk2, rfl, rfl, hoc, hom, hsl2, hA2, hown6, hpl6, HM2, HP2, hbw', hf⟩ := hrel
          by_cases hkt : k < bought.length
          · obtain ⟨b, off, x, rfl, hb, hx, hc0⟩ := (hsb3.below hbw').atI hkt
            have hxb := HO.out.hbought x (mem_at hx)
            obtain ⟨m, rfl⟩ : ∃ m : Nat, x = m := ⟨x.toNat, by omega⟩
            have hf' := hf.out
            rw [drop_at hx] at hf'
            simp only [Price.planGo, Int.toNat_natCast] at hf'
            have HF := Lib.hid hf'
            clear hf hf' hx
            obtain ⟨n, hn⟩ : ∃ n, n = min m ord.length := ⟨_, rfl⟩
            rw [← hn] at HF
            have hno : n ≤ ord.length := by omega
            have hnc : n ≤ c2 := by omega
            have hmin : min (m : Int) (ord.length : Int) = (n : Int) := by omega
            clear hn
            rcases hA2 with rfl | ⟨b2, off2, rfl⟩
            · obtain rfl : ord = [] := by
                by_cases h : ord = []
                · exact h
                · obtain ⟨_, _, h, _⟩ := hsl2 h
                  cases h
              obtain rfl : n = 0 := by simpa using hno
              have hm0 : min (m : Int) 0 = 0 := by omega
              simp only [List.length_nil] at hmin ⊢
              go_wp2
              obtain ⟨wi, rfl⟩ : ∃ wi : World, wi = wr := ⟨_, rfl⟩
              go_loopw [68] (fun i w' => i = iv 0 ∧ w' = wi) (fun _ _ => 0)
              case atStart => exact ⟨rfl, rfl⟩
              case round =>
                obtain ⟨rfl, rfl⟩ := hrel
                go_wp2
                go_roundw
                case rel => exact ⟨k + 1, none, [], _, plan, by omega, by go_num, by rfl, by simp, by omega, hsl2, .inl rfl, hown6, hpl6, HM2, HP2, hbw', by have := HF.out; show _ = _; simpa [Price.setAll] using this⟩
                case measure => simp [intOf]; omega
            · go_wp2
              obtain ⟨wi, rfl⟩ : ∃ wi : World, wi = wr := ⟨_, rfl⟩
              go_loopw [68] (fun i w' => ∃ (j : Nat) (plan' : List Int), j ≤ n ∧ i = iv j ∧ Own intE 3 wo.heap.size w' (.slice Aq stock.length cq) plan' ∧ plan'.length = stock.length ∧ Hid (∀ x ∈ plan', -1 ≤ x ∧ x ≤ 100) ∧ Below wo.heap.size wo w' ∧
                Hid (Price.setAll plan' k ((ord.take n).drop j) = Price.setAll plan k (ord.take n))) (fun i _ => n - (intOf i).toNat)
              case atStart => exact ⟨0, plan, by omega, rfl, hown6, hpl6, HP2, hbw', rfl⟩
              case round =>
                obtain ⟨j, plan', hj, rfl, hown7, hpl7, HP3, hbi, hg⟩ := hrel
                by_cases hjt : j < n
                · obtain ⟨b3, off3, y, hA3, hb3', hy, hc3⟩ := (hsl2.below hbi).atI (show j < ord.length by omega)
                  injection hA3 with hA3
                  injection hA3 with e1 e2
                  subst e1 e2
                  obtain ⟨i, rfl, hi⟩ := HM2.out y (mem_at hy)
                  have hy' : (ord.take n)[j]? = some (i : Int) := by rw [List.getElem?_take, if_pos hjt]; exact hy
                  have hg' := hg.out
                  rw [drop_at hy'] at hg'
                  simp only [Price.setAll, Int.toNat_natCast] at hg'
                  have HG := Lib.hid hg'
                  clear hg hg' hy hy'
                  have hne : plan' ≠ [] := by intro h; rw [h] at hpl7; simp at hpl7; omega
                  obtain ⟨g', cq', hv'⟩ := hown7.some_ hne
                  injection hv' with hv1 hv2 hv3
                  subst hv1
                  obtain ⟨hfz, hBg, hgl, hcl, hown8⟩ := hown7.store i (by omega) (k : Int)
                  have hlen' : (plan'.set i (k : Int)).length = stock.length := by rw [List.length_set]; exact hpl7
                  have HP4 : Hid (∀ x ∈ plan'.set i (k : Int), -1 ≤ x ∧ x ≤ 100) := fun x hx => by
                    rcases List.mem_or_eq_of_mem_set hx with hx | rfl
                    · exact HP3.out x hx
                    · omega
                  have hbj := hbi.setCell (p := ⟨g', i, none⟩) hBg (iv k)
                  have HO8 := Lib.hid hown8
                  have his : i < stock.length := by omega
                  clear hown8 hown7 hown6 hv2 hv3
                  go_wp2
                  go_roundw
                  case rel => exact ⟨j + 1, plan'.set i k, by omega, by go_num, HO8.out, hlen', HP4, hbj, HG.out⟩
                  case measure => simp [intOf]; omega
                · obtain rfl : j = n := by omega
                  have hg' := hg.out
                  rw [List.drop_of_length_le (by rw [List.length_take]; exact Nat.min_le_left _ _)] at hg'
                  simp only [Price.setAll] at hg'
                  rw [← hg'] at HF
                  clear hg hg'
                  go_wp2
                  go_roundw
                  case rel =>
                   exact ⟨k + 1, if c2 = j then some ⟨b2, off2, none⟩ else some ⟨b2, off2 + j, none⟩, ord.drop j, c2 - j, plan', by omega, by go_num, by simp, by simp; omega, by omega, hsl2.cutI hoc, by split <;> exact .inr ⟨_, _, rfl⟩, hown7, hpl7, fun x hx => HM2.out x (List.mem_of_mem_drop hx), HP3, hbi, HF.out⟩
                  case measure => simp [intOf]; omega
          · have hf' := hf.out
            rw [List.drop_of_length_le (by omega)] at hf'
            simp only [Price.planGo] at hf'
            have HF := Lib.hid hf'
            clear hf hf'
            have hg9 := (hbw'.cell (p := ⟨w1.heap.size, 0, none⟩) (show w1.heap.size < _ by omega)).trans h93
            have hds := hd3.below hbw'
            have hE : Hid (Calls Tryz.prog 81 #[.pointer (some ⟨g, 0, none⟩), .slice Aq plan.length cq] wr fun e w' => e = .returned (iv (Price.earns fall prices plan)) ∧ Below wr.heap.size wr w') :=
              earns_spec g fall bought stock prices Ab cb As cs Ap cpp Aq plan cq _ hds (by rw [← hpl6] at hown6; exact hown6.sl) (by omega) (by omega) HO.out.hfall0 HO.out.hfall1 (by have := HO.out.hprices; rw [← HPR.out] at this; exact this) HP2.out
            rw [hpl6] at hE
            have hzw := hbw'.size
            go_wp2_with (first
              | (go_at_call 81; refine hE.out.mono ?_; rintro e w5 ⟨rfl, hb5⟩))
            go_ret3
            exact ⟨_, by rw [← HF.out]; rfl, by rw [← HF.out]; exact (hown6.below hb5).base (by omega), (hb3.next hbw' (by omega)).next hb5 (by omega)⟩
  · have he : Price.bestOf l fall bought stock = ([], 0, Price.openErr l fall bought stock) := by simp [Price.bestOf, h0]
    rw [he]
    clear he
    have h0' : (Price.openErr l fall bought stock != 0) = true := by simpa using h0
    go_enter Tryz.func55, Tryz.ntmps55
    go_wp2_with (first
      | (go_at_call 84; refine HOP.out.mono ?_; rintro e w1 ⟨hb1, ⟨_, rfl⟩ | ⟨h, _⟩⟩; rotate_left; exact absurd h h0))
    go_ret3
    exact ⟨_, rfl, ⟨rfl, .inl ⟨rfl, rfl⟩⟩, hb1.of_alloc.alloc (Nat.le_trans (by simp) hb1.size) _⟩
end Go.Proofs.YtkailkfiakagfaaGreat
