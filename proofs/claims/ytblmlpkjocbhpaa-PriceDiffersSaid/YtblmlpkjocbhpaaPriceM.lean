/- The question that Best asks of each piece in order; slices.Insert of one number, slices.Repeat of one number. Conditions: lengths are below a great bound. -/
import Derived.Test.YtblmlpkjocbhpaaPriceL
import Derived.Shelf.Spec.SlicesInsert
import Derived.Shelf.Spec.SlicesInsertGrow
set_option linter.unusedVariables false
set_option linter.unusedSimpArgs false
namespace Go.Proofs.Ytblmlpkjocbhpaa
open Go.RowKit Go.Shelf
set_option maxRecDepth 100000

theorem cheaper_spec (g : Nat) (fall : Int) (bought : List Int) (stock : List Piece) (prices : List Int) (Ab : Option Addr) (cb : Nat) (As : Option Addr) (cs : Nat) (Ap : Option Addr) (cp : Nat) (x i : Nat) (b1 b2 : Nat) (w : World)
    (hd : Desk w g fall bought stock prices Ab cb As cs Ap cp) (hx : x < prices.length) (hi : i < prices.length) (hm : prices.length ≤ big)
    (h1 : w.cell? ⟨b1, 0, none⟩ = some (.pointer (some ⟨g, 0, none⟩))) (h2 : w.cell? ⟨b2, 0, none⟩ = some (iv i)) (hl1 : b1 < w.heap.size) (hl2 : b2 < w.heap.size) :
    Calls Try.prog 83 #[iv x, .pointer (some ⟨b1, 0, none⟩), .pointer (some ⟨b2, 0, none⟩)] w fun e w' => e = .returned (.bool (decide (prices.getD x 0 < prices.getD i 0))) ∧ Below w.heap.size w w' := by
  unfold big at hm
  obtain ⟨b, off, px, rfl, hb, hpx, hc⟩ := hd.sp.atI hx
  obtain ⟨b', off', pi, hA, hb', hpi, hc'⟩ := hd.sp.atI hi
  injection hA with hA
  injection hA with e1 e2
  subst e1 e2
  have hval : decide (prices.getD x 0 < prices.getD i 0) = decide (px < pi) := by simp [List.getD_eq_getElem?_getD, hpx, hpi]
  rw [hval]
  have hF : ∀ a : World, Below w.heap.size w a → a.cell? ⟨b1, 0, none⟩ = some (.pointer (some ⟨g, 0, none⟩)) ∧ a.cell? ⟨b2, 0, none⟩ = some (iv i) ∧ a.cell? ⟨g, 3, none⟩ = some (.slice (some ⟨b, off, none⟩) prices.length cp) ∧
      a.cell? ⟨b, off + x, none⟩ = some (iv px) ∧ a.cell? ⟨b, off + i, none⟩ = some (iv pi) := fun a h =>
    ⟨(h.cell (p := ⟨b1, 0, none⟩) hl1).trans h1, (h.cell (p := ⟨b2, 0, none⟩) hl2).trans h2, (hd.below h).c3, (h.cell (p := ⟨b, off + x, none⟩) hb).trans hc, (h.cell (p := ⟨b, off + i, none⟩) hb).trans hc'⟩
  have HF := Lib.hid hF
  have i1 : (x : Int) < (prices.length : Int) := by omega
  have i2 : (i : Int) < (prices.length : Int) := by omega
  clear hF hd hval hpx hpi hc hc' h1 h2
  go_enter Try.func83, Try.ntmps83
  go_wp2
  refine wp_havoc_lit (by kernel_rfl) (by kernel_rfl) ?_
  repeat (first
    | (refine hv_skip (by rfl) ?_; simp only [Act.put, List.setIfInBounds_toArray, List.set_cons_zero, List.set_cons_succ])
    | (apply hv_val (by rfl); (intro w hw; have F := HF.out w hw; go_simp; exact rfl); simp only [Act.put, List.setIfInBounds_toArray, List.set_cons_zero, List.set_cons_succ]))
  refine hv_nil ?_
  rintro w2 hb2
  go_wp2
  go_ret
  exact ⟨rfl, hb2⟩

/-- slices.Insert's own text, and those that it calls, under this program's numbers. -/
def insRen : Ren := ⟨fun x => match x with | 21 => 84 | 27 => 126 | 28 => 127 | 35 => 155 | 39 => 166 | n => n,
  fun x => match x with | 22 => 29 | 3 => 3 | 4 => 4 | 0 => 0 | n => n, fun n => n⟩
theorem insLays : Lays2.n21 Try.prog insRen where
  mixed := by kernel_rfl
  f21 := by kernel_rfl
  f27 := by kernel_rfl
  f28 := by kernel_rfl
  f35 := by kernel_rfl
  f39 := by kernel_rfl
  t0 := by kernel_rfl
  a0 := fun _ => by kernel_rfl
  z0 := fun _ => by kernel_rfl
  v0 := fun _ => by kernel_rfl
  t3 := by kernel_rfl
  a3 := fun _ => by kernel_rfl
  z3 := fun _ => by kernel_rfl
  v3 := fun _ => by kernel_rfl
  t4 := by kernel_rfl
  a4 := fun _ => by kernel_rfl
  z4 := fun _ => by kernel_rfl
  v4 := fun _ => by kernel_rfl
  t22 := by kernel_rfl
  a22 := fun _ => by kernel_rfl
  z22 := fun _ => by kernel_rfl
  v22 := fun _ => by kernel_rfl
  i3 := by kernel_rfl

theorem Blk.shape {w : World} {g : Nat} {t : TypeId} {cs : Array Value} (h : Blk w g t cs) : w.shape? g = some (t, cs.size) := by
  unfold Blk at h
  simp [World.shape?, h]
theorem blk_setCells {g : Nat} {t : TypeId} : ∀ (vs : List Value) (o : Nat) (w : World) (cs : Array Value), Blk w g t cs → o + vs.length ≤ cs.size → Blk (w.setCells g o vs) g t (splice cs.toList o vs).toArray := by
  intro vs
  induction vs with
  | nil =>
    intro o w cs h _
    simpa [splice, World.setCells] using h
  | cons v r ih =>
    intro o w cs h hl
    simp only [List.length_cons] at hl
    have h1 := ih (o + 1) (w.setCell ⟨g, o, none⟩ v) _ (h.set_ o v) (by simp; omega)
    have he : splice (cs.setIfInBounds o v).toList (o + 1) r = splice cs.toList o (v :: r) := by
      have ho : o < cs.toList.length := by simp; omega
      simp only [splice, Array.toList_setIfInBounds, List.length_cons]
      rw [List.take_succ_eq_append_getElem (by simpa using ho), List.getElem_set_self, List.take_set_of_le (Nat.le_refl _), List.drop_set_of_lt (by omega)]
      simp [Nat.add_assoc, Nat.add_comm 1]
    rw [he] at h1
    exact h1
theorem below_setCells {B g : Nat} (hB : B ≤ g) : ∀ (vs : List Value) (o : Nat) (w0 w : World), Below B w0 w → Below B w0 (w.setCells g o vs) := by
  intro vs
  induction vs with
  | nil => intro o w0 w h; exact h
  | cons v r ih => intro o w0 w h; exact ih _ _ _ (h.setCell (p := ⟨g, o, none⟩) hB v)
theorem other_setCells {g b : Nat} (hb : b ≠ g) : ∀ (vs : List Value) (o : Nat) (w : World), (w.setCells g o vs).heap[b]? = w.heap[b]? := by
  intro vs
  induction vs with
  | nil => intro o w; rfl
  | cons v r ih => intro o w; exact (ih _ _).trans (Below.heap_setCell w ⟨g, o, none⟩ v b hb)
theorem own_of_block {e : TypeId} {B : Nat} {w : World} {g n cap : Nat} {xs : List Int} {cur : Array Value} (h : Blk w g e cur) (hB : B ≤ g) (hn : n = xs.length) (hc : n ≤ cap) (hm : cap ≤ maxLen) (hs : cur.size = cap) (ht : cur.toList.take n = xs.map iv) : Own intE e B w (.slice (some ⟨g, 0, none⟩) n cap) xs := by
  subst hn
  refine ⟨flat_length intE xs, .inr ⟨g, cap, cur, rfl, hB, h, hc, hm, by rw [hs]; simp [intE], ?_⟩⟩
  rw [flat_int]
  simpa [intE] using ht
theorem own_block {e : TypeId} {B : Nat} {w : World} {v : Value} {xs : List Int} (h : Own intE e B w v xs) : (v = .slice none 0 0 ∧ xs = []) ∨ ∃ g cap cur, v = .slice (some ⟨g, 0, none⟩) xs.length cap ∧ B ≤ g ∧ Blk w g e cur ∧ xs.length ≤ cap ∧ cap ≤ maxLen ∧ cur.size = cap ∧ cur.toList.take xs.length = xs.map iv := by
  rcases h.2 with ⟨rfl, hn⟩ | ⟨g, cap, cur, rfl, hb, hg, hc, hm, hs, ht⟩
  · exact .inl ⟨rfl, List.eq_nil_of_length_eq_zero hn⟩
  · rw [flat_int] at ht
    exact .inr ⟨g, cap, cur, rfl, hb, hg, hc, hm, by simpa [intE] using hs, by simpa [intE] using ht⟩

theorem shift_list {α : Type} (L cs : List α) (i n : Nat) (v : α) (h : L.take n = cs) (hn : cs.length = n) (hi : i ≤ n) (hL : n + 1 ≤ L.length) : (splice (splice L (i + 1) (cs.drop i)) i [v]).take (n + 1) = cs.take i ++ v :: cs.drop i := by
  have e1 : (splice L (i + 1) (cs.drop i)).take i = cs.take i := by
    unfold splice
    rw [List.take_append_of_le_length (by simp; omega), List.take_take, ← h, List.take_take]
    congr 1
    omega
  have e2 : (splice L (i + 1) (cs.drop i)).drop (i + 1) = cs.drop i ++ L.drop (n + 1) := by
    unfold splice
    rw [List.drop_append_of_le_length (by simp; omega), List.drop_of_length_le (by simp; omega)]
    simp
    congr 1
    omega
  have e3 : splice (splice L (i + 1) (cs.drop i)) i [v] = (cs.take i ++ v :: cs.drop i) ++ L.drop (n + 1) := by
    show (splice L (i + 1) (cs.drop i)).take i ++ ([v] ++ (splice L (i + 1) (cs.drop i)).drop (i + 1)) = _
    rw [e1, e2]
    simp
  rw [e3, List.take_append_of_le_length (by simp; omega), List.take_of_length_le (by simp; omega)]
theorem grow_list {α : Type} (L cs : List α) (i n : Nat) (v : α) (h : L.take i = cs.take i) (hn : cs.length = n) (hi : i ≤ n) (hL : n + 1 ≤ L.length) : (splice (splice L i [v]) (i + 1) (cs.drop i)).take (n + 1) = cs.take i ++ v :: cs.drop i := by
  have e1 : (splice L i [v]).take (i + 1) = cs.take i ++ [v] := by
    unfold splice
    rw [h, ← List.append_assoc, List.take_append_of_le_length (by simp; omega), List.take_of_length_le (by simp; omega)]
  have e3 : splice (splice L i [v]) (i + 1) (cs.drop i) = (cs.take i ++ v :: cs.drop i) ++ (splice L i [v]).drop (i + 1 + (cs.drop i).length) := by
    show (splice L i [v]).take (i + 1) ++ (cs.drop i ++ _) = _
    rw [e1]
    simp
  rw [e3, List.take_append_of_le_length (by simp; omega), List.take_of_length_le (by simp; omega)]
theorem splice_length {α : Type} (L : List α) (o : Nat) (cs : List α) (h : o + cs.length ≤ L.length) : (splice L o cs).length = L.length := length_splice L o cs h

def insertAt (xs : List Int) (i : Nat) (x : Int) : List Int := xs.take i ++ x :: xs.drop i
theorem insert1_spec {B : Nat} {v : Value} {xs : List Int} (x : Int) (i : Nat) (w : World) (hown : Own intE 3 B w v xs) (hB : B ≤ w.heap.size) (hi : i ≤ xs.length) (hm : xs.length ≤ 1000) :
    Calls Try.prog 84 #[v, iv i, .slice (some ⟨w.heap.size, 0, none⟩) 1 1] (w.alloc (.cells #[iv x] 3)) fun e w' => ∃ v', e = .returned v' ∧ Own intE 3 B w' v' (insertAt xs i x) ∧ Below B w w' ∧
      (∀ b, b < w.heap.size → v.ownBlock ≠ some b → w'.heap[b]? = w.heap[b]?) := by
  have hv : ∀ j u, [iv x][j]? = some u → (w.alloc (.cells #[iv x] 3)).cell? ⟨w.heap.size, 0 + j, none⟩ = some u := fun j u h => by
    match j, h with
    | 0, h => simp at h; subst h; simp [go_sem]
  have h1 : ∀ u ∈ [iv x], u.oneCell' = true := by simp [Value.oneCell']
  have hW : Below B w (w.alloc (.cells #[iv x] 3)) := (Below.refl _ _).alloc hB _
  rcases own_block hown with ⟨rfl, rfl⟩ | ⟨g, cap, cur, rfl, hBg, hg, hnc, hcm, hcs, htk⟩
  · obtain rfl : i = 0 := by simpa using hi
    refine (Any2.slices_Insert_int_end_grow insLays none 0 0 w.heap.size 0 1 1 [] [iv x] (w.alloc (.cells #[iv x] 3)) (by omega) (by omega) (by omega) (by omega) rfl rfl (fun _ => rfl) (fun a h => by cases h) hv h1).mono ?_
    rintro e w' ⟨rfl, rfl⟩
    refine ⟨_, rfl, own_of_block (cur := _) (heap_alloc_new _ _) (by simp; omega) rfl (grownCap_ge _ _ _ _) (grownCap_le_maxLen _ _ _ _ (by simp [maxLen])) ?_ (by simp [insertAt]), hW.drew.alloc (by simp; omega) _, fun b hb _ => ?_⟩
    · have := grownCap_ge (w.alloc (.cells #[iv x] 3)) (0 + 1) 0 (insRen.t 3)
      simp [size_zeroCells, Value.cells] at this ⊢
      omega
    · exact (Below.heap_alloc _ _ b (by simp; omega)).trans (Below.heap_alloc w _ b hb)
  · have hgl : g < w.heap.size := hg.lt
    have hg' : Blk (w.alloc (.cells #[iv x] 3)) g 3 cur := hg.alloc _
    have hcl : (xs.map iv).length = xs.length := by simp
    have hct : cur.toList.length = cap := by rw [← hcs]; exact Array.length_toList
    have hcell : ∀ j v, (xs.map iv)[j]? = some v → (w.alloc (.cells #[iv x] 3)).cell? ⟨g, 0 + j, none⟩ = some v := fun j v h => by
      have hj : j < xs.length := by have := (List.getElem?_eq_some_iff.1 h).1; simpa using this
      rw [Nat.zero_add, hg'.cell j, ← h, ← htk, List.getElem?_take, if_pos hj, Array.getElem?_toList]
    have hlen : (insertAt xs i x).length = xs.length + 1 := by simp [insertAt]; omega
    have hmap : (insertAt xs i x).map iv = (xs.map iv).take i ++ iv x :: (xs.map iv).drop i := by simp [insertAt]
    have hkeep : ∀ b, b < w.heap.size → (Value.slice (some ⟨g, 0, none⟩) xs.length cap).ownBlock ≠ some b → b ≠ g := fun b _ h e => h (by rw [e]; rfl)
    by_cases hroom : xs.length + 1 ≤ cap
    · by_cases hin : i = xs.length
      · subst hin
        refine (Any2.slices_Insert_int_end_room insLays g 0 xs.length cap w.heap.size 0 1 1 [iv x] (w.alloc (.cells #[iv x] 3)) (by omega) hroom (by unfold maxLen at hcm; omega) rfl
          (fun j hj => by rw [hg'.cell]; simp; omega) (fun j _ => hg'.frozen _) hv h1).mono ?_
        rintro e w' ⟨rfl, rfl⟩
        refine ⟨_, rfl, own_of_block (blk_setCells [iv x] (0 + xs.length) _ _ hg' (by simp; omega)) hBg (by rw [hlen]) hroom hcm (by simp [splice]; omega) ?_, below_setCells hBg _ _ _ _ hW, fun b hb hv => (other_setCells (hkeep b hb hv) _ _ _).trans (Below.heap_alloc w _ b hb)⟩
        rw [hmap, ← htk]
        simp only [splice, Nat.zero_add, List.length_cons, List.length_nil]
        rw [← List.append_assoc, List.take_append_of_le_length (by simp; omega), List.take_of_length_le (by simp; omega)]
        simp [List.take_take]
      · have hlt : i < xs.length := by omega
        have hnew : Blk (w.alloc (.cells #[iv x] 3)) w.heap.size 3 #[iv x] := Blk.new _ _ _
        refine (Any2.slices_Insert_int_shift insLays g 0 xs.length cap i w.heap.size 0 1 1 (xs.map iv) [iv x] (w.alloc (.cells #[iv x] 3)) hlt (by omega) hroom (by unfold maxLen at hcm; omega) (by omega) hcl rfl
          hcell (fun j hj => by rw [hg'.cell]; simp; omega) (fun j _ => hg'.frozen _) hv (ints_oneCell _ _) h1 _ _ 1 cur.size hnew.shape hg'.shape (by omega) (hnew.frozen _) (hnew.frozen _)).mono ?_
        rintro e w' ⟨rfl, rfl⟩
        have hd : ((xs.map iv).drop i).length = xs.length - i := by simp
        have hb1 := blk_setCells ((xs.map iv).drop i) (0 + (i + 1)) _ _ (show Blk (w.alloc (.cells #[iv x] 3)).drew g 3 cur from hg') (by rw [hd]; omega)
        have hs1 := splice_length cur.toList (0 + (i + 1)) ((xs.map iv).drop i) (by rw [hd, hct]; omega)
        have hb2 := blk_setCells [iv x] (0 + i) _ _ hb1 (by rw [List.size_toArray, hs1, hct]; show 0 + i + 1 ≤ cap; omega)
        refine ⟨_, rfl, own_of_block hb2 hBg (by rw [hlen]) hroom hcm ?_ ?_, below_setCells hBg _ _ _ _ (below_setCells hBg _ _ _ _ hW.drew), fun b hb hv => (other_setCells (hkeep b hb hv) _ _ _).trans ((other_setCells (hkeep b hb hv) _ _ _).trans (Below.heap_alloc w _ b hb))⟩
        · rw [List.size_toArray, splice_length _ _ _ (by rw [hs1, hct]; show 0 + i + 1 ≤ cap; omega), hs1, hct]
        · rw [hmap]
          simp only [Nat.zero_add]
          exact shift_list cur.toList (xs.map iv) i xs.length (iv x) htk hcl hi (by rw [hct]; omega)
    · by_cases hin : i = xs.length
      · subst hin
        refine (Any2.slices_Insert_int_end_grow insLays (some ⟨g, 0, none⟩) xs.length cap w.heap.size 0 1 1 (xs.map iv) [iv x] (w.alloc (.cells #[iv x] 3)) (by omega) hnc (by omega) (by omega) hcl rfl (fun h => by cases h)
          (fun a ha j v h => by injection ha with ha; subst ha; have hadd : (⟨g, 0, none⟩ : Addr).add j = ⟨g, 0 + j, none⟩ := by { unfold Addr.add; split <;> simp_all }; rw [hadd]; exact hcell j v h) hv h1).mono ?_
        rintro e w' ⟨rfl, rfl⟩
        refine ⟨_, rfl, own_of_block (cur := _) (heap_alloc_new _ _) (by simp; omega) (by rw [hlen]) (grownCap_ge _ _ _ _) (grownCap_le_maxLen _ _ _ _ (by unfold maxLen; omega)) ?_ ?_, hW.drew.alloc (by simp; omega) _, fun b hb _ => (Below.heap_alloc _ _ b (by simp; omega)).trans (Below.heap_alloc w _ b hb)⟩
        · have := grownCap_ge (w.alloc (.cells #[iv x] 3)) (xs.length + 1) cap (insRen.t 3)
          simp [size_zeroCells, Value.cells] at this ⊢
          omega
        · rw [hmap]
          have e1 : (xs.map iv).drop xs.length = [] := List.drop_eq_nil_of_le (by simp)
          have e2 : (xs.map iv).take xs.length = xs.map iv := List.take_of_length_le (by simp)
          rw [e1, e2]
          simp only [Array.toList_append]
          rw [List.take_append_of_le_length (by simp), List.take_of_length_le (by simp)]
      · have hlt : i < xs.length := by omega
        refine (Any2.slices_Insert_int_grow insLays g 0 xs.length cap i w.heap.size 0 1 1 (xs.map iv) [iv x] (w.alloc (.cells #[iv x] 3)) hlt (by omega) hnc (by omega) (by omega) hcl rfl hcell hv (ints_oneCell _ _) h1).mono ?_
        rintro e w' ⟨rfl, rfl⟩
        have hge := grownCap_ge (w.alloc (.cells #[iv x] 3)) (xs.length + 1) cap (insRen.t 3)
        have hle := grownCap_le_maxLen (w.alloc (.cells #[iv x] 3)) (xs.length + 1) cap (insRen.t 3) (by unfold maxLen; omega)
        generalize grownCap (w.alloc (.cells #[iv x] 3)) (xs.length + 1) cap (insRen.t 3) = cap' at *
        have hd : ((xs.map iv).drop i).length = xs.length - i := by simp
        obtain ⟨L, hL⟩ : ∃ L : Array Value, L = (((xs.map iv).take i).toArray ++ Builtin.zeroCells (Value.int .i64 0).cells (xs.length + 1 - i) ++ Builtin.zeroCells (Value.int .i64 0).cells (cap' - (xs.length + 1))) := ⟨_, rfl⟩
        have hLs : L.size = cap' := by rw [hL]; simp [size_zeroCells, Value.cells]; omega
        have hLt : L.toList.take i = (xs.map iv).take i := by
          rw [hL]
          simp only [Array.toList_append, List.append_assoc]
          rw [List.take_append_of_le_length (by simp; omega), List.take_take, Nat.min_self]
        rw [← hL]
        have hb0 : Blk ((w.alloc (.cells #[iv x] 3)).alloc (.cells L (insRen.t 3))).drew (w.alloc (.cells #[iv x] 3)).heap.size 3 L := Blk.new _ _ _
        have hLl : L.toList.length = cap' := by rw [← hLs]; exact Array.length_toList
        have hs0 := splice_length L.toList i [iv x] (by rw [hLl]; show i + 1 ≤ cap'; omega)
        have hb1 := blk_setCells [iv x] i _ _ hb0 (by rw [hLs]; show i + 1 ≤ cap'; omega)
        have hs1 := splice_length (splice L.toList i [iv x]) (i + 1) ((xs.map iv).drop i) (by rw [hs0, hd, hLl]; omega)
        have hb1' : Blk (((w.alloc (.cells #[iv x] 3)).alloc (.cells L (insRen.t 3))).drew.setCells (w.alloc (.cells #[iv x] 3)).heap.size i [iv x]).drew (w.alloc (.cells #[iv x] 3)).heap.size 3 (splice L.toList i [iv x]).toArray := hb1
        have hb2 := blk_setCells ((xs.map iv).drop i) (i + 1) _ _ hb1' (by rw [List.size_toArray, hs0, hd, hLl]; omega)
        have hBn : B ≤ (w.alloc (.cells #[iv x] 3)).heap.size := by simp; omega
        have hne : ∀ b, b < w.heap.size → b ≠ (w.alloc (.cells #[iv x] 3)).heap.size := fun b hb => by simp; omega
        refine ⟨_, rfl, own_of_block hb2 hBn (by rw [hlen]) hge hle ?_ ?_, below_setCells hBn _ _ _ _ (Below.drew (below_setCells hBn _ _ _ _ (Below.drew (hW.alloc hBn _)))), fun b hb _ => (other_setCells (hne b hb) _ _ _).trans ((other_setCells (hne b hb) _ _ _).trans ((Below.heap_alloc _ _ b (by simp; omega)).trans (Below.heap_alloc w _ b hb)))⟩
        · rw [List.size_toArray, hs1, hs0, hLl]
        · rw [hmap]
          exact grow_list L.toList (xs.map iv) i xs.length (iv x) hLt hcl hi (by rw [hLl]; omega)
end Go.Proofs.Ytblmlpkjocbhpaa
