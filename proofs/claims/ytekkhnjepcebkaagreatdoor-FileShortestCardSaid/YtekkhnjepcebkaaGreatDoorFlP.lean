/- Package file: Bound. Conditions: lengths are below a great bound, and slices lie within their capacities. -/
import Derived.Test.YtekkhnjepcebkaaGreatDoorFlO
set_option linter.unusedVariables false
set_option linter.unusedSimpArgs false
namespace Go.Proofs.YtekkhnjepcebkaaGreatDoor
namespace File
def inr (n : Int) : Bool := decide (0 ≤ n) && decide (n ≤ 24)
/-- Whether a level stands where it can. -/
def cellOk (a b : List ByteArray) (xs : List (List Int)) (i j : Nat) (n : Int) : Bool :=
  (decide (n = 0) == decide (a[i]? ≠ b[j]?)) && (xs.take i).all fun row => !(decide (0 < n) && decide (n ≤ great (row.take j)))
def rowGo (a b : List ByteArray) (xs : List (List Int)) (i : Nat) : Nat → Int → List Int → Option Int
  | _, most, [] => some most
  | j, most, n :: r => if cellOk a b xs i j n then rowGo a b xs i (j + 1) (great [most, n]) r else none
def levelsGo (a b : List ByteArray) (xs : List (List Int)) : Nat → Int → List (List Int) → Int × Int
  | _, most, [] => (most, 0)
  | i, most, l :: r => match rowGo a b xs i 0 most l with
    | some m => levelsGo a b xs (i + 1) m r
    | none => (0, 8)
end File
namespace Fl
open Go.RowKit Go.ChangeShapes
set_option maxRecDepth 100000
/-- What Bound answers. -/
def boundOf (a b : List ByteArray) (xs : List (List Int)) : Int × Int :=
  if errOf a b = 0 then
    if xs.length = a.length ∧ (xs.all fun l => decide (l.length = b.length)) = true then
      if (xs.all fun l => l.all File.inr) = true then File.levelsGo a b xs 0 0 xs else (0, 3)
    else (0, 2)
  else (0, errOf a b)
/-- A row of a list of lists: where it lies, and what it holds. -/
structure Rw (α : Type) where
  A : Option Addr
  c : Nat
  xs : List α
def rwv {α : Type} (r : Rw α) : Value := .slice r.A r.xs.length r.c
def rwE (α : Type) : Enc (Rw α) := ⟨fun r => [rwv r], 1, fun _ => rfl, fun _ u h => by simp at h; subst h; rfl, by decide⟩
def RowsR {α : Type} (E : Enc α) (w : World) (rs : List (Rw α)) : Prop := ∀ r ∈ rs, Sl E w r.A r.xs ∧ r.xs.length ≤ r.c
theorem RowsR.below {α : Type} {E : Enc α} {w w' : World} {rs : List (Rw α)} (h : RowsR E w rs) (hb : Below w.heap.size w w') : RowsR E w' rs := fun r hr => ⟨(h r hr).1.below hb, (h r hr).2⟩
theorem Sl.atRw {α : Type} {w : World} {A : Option Addr} {rs : List (Rw α)} {k : Nat} (h : Sl (rwE α) w A rs) (hk : k < rs.length) :
    ∃ b off x, A = some ⟨b, off, none⟩ ∧ b < w.heap.size ∧ rs[k]? = some x ∧ w.cell? ⟨b, off + k, none⟩ = some (.slice x.A x.xs.length x.c) := by
  obtain ⟨b, off, x, hA, hb, hx, hc⟩ := h.at_ hk
  exact ⟨b, off, x, hA, hb, hx, by simpa [rwE, rwv] using hc 0 (rwv x) rfl⟩
set_option maxRecDepth 100000 in
theorem indexI (A : Option Addr) (l : List Int) (c : Nat) (K : Nat) (cap : Array Value) (p : Int → Bool) (w : World) (hm : l.length ≤ big) (hs : Sl intE w A l)
    (hf : IsPred Tryz.prog w K cap iv l p) :
    Calls Tryz.prog 192 #[.slice A l.length c, .func (.func K) #[] cap] w
    fun e w' => e = .returned (iv (findFrom p l 0)) ∧ Below w.heap.size w w' := by
  unfold big at hm
  obtain ⟨hK, hf⟩ := hf
  have HF := Lib.hid hf
  clear hf
  go_enter Tryz.func192, Tryz.ntmps192
  go_wp2
  go_loopw [5, 8] (fun u i wr => ∃ (k : Nat), k ≤ l.length ∧ i = iv k ∧ Hid (findFrom p (l.drop k) k = findFrom p l 0) ∧ Below w.heap.size w wr) (fun _ i _ => l.length - (intOf i).toNat)
  case atStart => exact ⟨0, by omega, rfl, rfl, Below.refl _ _⟩
  case round =>
    obtain ⟨k, hk, rfl, hr, hbw⟩ := hrel
    have hs1 := hs.below hbw
    by_cases hlt : k < l.length
    · obtain ⟨b, off, x, rfl, hb, hx, hc0⟩ := Sl.atI hs1 hlt
      have hd := hr.out
      rw [drop_at hx] at hd
      simp only [findFrom] at hd
      have HD := Lib.hid hd
      clear hd
      cases hp : p x
      · go_wp2_with fail
        refine (HF.out x (mem_at hx) wr hbw).mono ?_
        rintro e w1 ⟨rfl, hb1⟩
        rw [hp]
        go_wp2_with fail
        go_roundw
        case rel => exact ⟨k + 1, by omega, by go_num, by have := HD.out; rw [hp] at this; exact this, hbw.next hb1 (Nat.le_refl _)⟩
        case measure => simp [intOf]; omega
      · go_wp2_with fail
        refine (HF.out x (mem_at hx) wr hbw).mono ?_
        rintro e w1 ⟨rfl, hb1⟩
        rw [hp]
        go_wp2_with fail
        go_ret
        exact ⟨ret_eq (by have := HD.out; rw [hp] at this; rw [← this]; rfl), hbw.next hb1 (Nat.le_refl _)⟩
    · have hd := hr.out
      rw [drop_end hlt] at hd
      have HD := Lib.hid hd
      clear hd
      go_wp2
      go_ret
      exact ⟨ret_eq (by rw [← HD.out]; rfl), hbw⟩
theorem containsI (A : Option Addr) (l : List Int) (c : Nat) (K : Nat) (cap : Array Value) (p : Int → Bool) (w : World) (hm : l.length ≤ big) (hs : Sl intE w A l)
    (hf : IsPred Tryz.prog w K cap iv l p) :
    Calls Tryz.prog 171 #[.slice A l.length c, .func (.func K) #[] cap] w
    fun e w' => e = .returned (.bool (l.any p)) ∧ Below w.heap.size w w' := by
  have HF := Lib.hid hf
  clear hf
  go_enter Tryz.func171, Tryz.ntmps171
  go_wp2_with (go_at_call 192; refine (indexI A l c K cap p _ hm hs HF.out).mono ?_; rintro e w1 ⟨rfl, hb1⟩)
  go_ret
  exact ⟨ret_eq (by rw [← findFrom_nonneg p l 0 (by omega)]; rfl), hb1⟩
set_option maxRecDepth 100000 in
theorem notI (K : Nat) (cap : Array Value) (p : Int → Bool) (w0 w : World) (x : Int) (l : List Int) (g : Nat) (hx : x ∈ l) (hg : g < w.heap.size) (hc : w.cell? ⟨g, 0, none⟩ = some (.func (.func K) #[] cap)) (hb : Below w0.heap.size w0 w) (hf : IsPred Tryz.prog w0 K cap iv l p) :
    Calls Tryz.prog 172 #[iv x, .pointer (some ⟨g, 0, none⟩)] w fun e w' => e = .returned (.bool (!p x)) ∧ Below w.heap.size w w' := by
  obtain ⟨hK, hf⟩ := hf
  have HF := Lib.hid (fun w' (h : Below w.heap.size w w') => hf x hx w' (hb.next h (Nat.le_refl _)))
  clear hf hx
  skip
  go_enter Tryz.func172, Tryz.ntmps172
  go_wp2_with fail
  refine (HF.out _ (Below.refl _ _)).mono ?_
  rintro e w1 ⟨rfl, hb1⟩
  go_wp2_with fail
  go_ret
  exact ⟨rfl, hb1⟩
set_option maxRecDepth 100000 in
theorem everyI (A : Option Addr) (l : List Int) (c : Nat) (K : Nat) (cap : Array Value) (p : Int → Bool) (w : World) (hm : l.length ≤ big) (hs : Sl intE w A l)
    (hf : IsPred Tryz.prog w K cap iv l p) :
    Calls Tryz.prog 123 #[.slice A l.length c, .func (.func K) #[] cap] w
    fun e w' => e = .returned (.bool (l.all p)) ∧ Below w.heap.size w w' := by
  have HF := Lib.hid hf
  clear hf
  have hsf := fun (a : Addr) (c : Array Value) (w : World) => run_store Tryz.prog w a (.func (.func K) #[] c) .plain rfl
  have hmf : ∀ (fn : Fn) (first cap : Array Value) (w : World), (Instr.makeFunc fn first cap).run Tryz.prog w = .ok (.func fn first cap) w := fun _ _ _ _ => rfl
  go_enter Tryz.func123, Tryz.ntmps123
  go_wp2_with (go_at_call 171; refine (containsI A l c 172 #[.pointer (some ⟨w.heap.size, 0, none⟩)] (fun x => !p x) _ hm (hs.alloc _) ⟨callFunc_run (by kernel_rfl), fun x hx w' hw' => notI K cap p w w' x l w.heap.size hx (by have := hw'.size; simp at this; omega) ((hw'.cell (by simp)).trans (by simp [go_sem])) hw'.of_alloc HF.out⟩).mono ?_; rintro e w1 ⟨rfl, hb1⟩)
  go_ret
  exact ⟨ret_eq (by rw [List.not_any_eq_all_not]; simp), hb1.of_alloc⟩
set_option maxRecDepth 100000 in
theorem indexRw (A : Option Addr) (l : List (Rw Int)) (c : Nat) (K : Nat) (cap : Array Value) (p : (Rw Int) → Bool) (w : World) (hm : l.length ≤ big) (hs : Sl (rwE Int) w A l)
    (hf : IsPred Tryz.prog w K cap rwv l p) :
    Calls Tryz.prog 175 #[.slice A l.length c, .func (.func K) #[] cap] w
    fun e w' => e = .returned (iv (findFrom p l 0)) ∧ Below w.heap.size w w' := by
  unfold big at hm
  obtain ⟨hK, hf⟩ := hf
  have HF := Lib.hid hf
  clear hf
  go_enter Tryz.func175, Tryz.ntmps175
  go_wp2
  go_loopw [5, 8] (fun u i wr => ∃ (k : Nat), k ≤ l.length ∧ i = iv k ∧ Hid (findFrom p (l.drop k) k = findFrom p l 0) ∧ Below w.heap.size w wr) (fun _ i _ => l.length - (intOf i).toNat)
  case atStart => exact ⟨0, by omega, rfl, rfl, Below.refl _ _⟩
  case round =>
    obtain ⟨k, hk, rfl, hr, hbw⟩ := hrel
    have hs1 := hs.below hbw
    by_cases hlt : k < l.length
    · obtain ⟨b, off, x, rfl, hb, hx, hc0⟩ := Sl.atRw hs1 hlt
      have hd := hr.out
      rw [drop_at hx] at hd
      simp only [findFrom] at hd
      have HD := Lib.hid hd
      clear hd
      cases hp : p x
      · go_wp2_with fail
        refine (HF.out x (mem_at hx) wr hbw).mono ?_
        rintro e w1 ⟨rfl, hb1⟩
        rw [hp]
        go_wp2_with fail
        go_roundw
        case rel => exact ⟨k + 1, by omega, by go_num, by have := HD.out; rw [hp] at this; exact this, hbw.next hb1 (Nat.le_refl _)⟩
        case measure => simp [intOf]; omega
      · go_wp2_with fail
        refine (HF.out x (mem_at hx) wr hbw).mono ?_
        rintro e w1 ⟨rfl, hb1⟩
        rw [hp]
        go_wp2_with fail
        go_ret
        exact ⟨ret_eq (by have := HD.out; rw [hp] at this; rw [← this]; rfl), hbw.next hb1 (Nat.le_refl _)⟩
    · have hd := hr.out
      rw [drop_end hlt] at hd
      have HD := Lib.hid hd
      clear hd
      go_wp2
      go_ret
      exact ⟨ret_eq (by rw [← HD.out]; rfl), hbw⟩
theorem containsRw (A : Option Addr) (l : List (Rw Int)) (c : Nat) (K : Nat) (cap : Array Value) (p : (Rw Int) → Bool) (w : World) (hm : l.length ≤ big) (hs : Sl (rwE Int) w A l)
    (hf : IsPred Tryz.prog w K cap rwv l p) :
    Calls Tryz.prog 133 #[.slice A l.length c, .func (.func K) #[] cap] w
    fun e w' => e = .returned (.bool (l.any p)) ∧ Below w.heap.size w w' := by
  have HF := Lib.hid hf
  clear hf
  go_enter Tryz.func133, Tryz.ntmps133
  go_wp2_with (go_at_call 175; refine (indexRw A l c K cap p _ hm hs HF.out).mono ?_; rintro e w1 ⟨rfl, hb1⟩)
  go_ret
  exact ⟨ret_eq (by rw [← findFrom_nonneg p l 0 (by omega)]; rfl), hb1⟩
set_option maxRecDepth 100000 in
theorem notRw (K : Nat) (cap : Array Value) (p : (Rw Int) → Bool) (w0 w : World) (x : (Rw Int)) (l : List (Rw Int)) (g : Nat) (hx : x ∈ l) (hg : g < w.heap.size) (hc : w.cell? ⟨g, 0, none⟩ = some (.func (.func K) #[] cap)) (hb : Below w0.heap.size w0 w) (hf : IsPred Tryz.prog w0 K cap rwv l p) :
    Calls Tryz.prog 170 #[rwv x, .pointer (some ⟨g, 0, none⟩)] w fun e w' => e = .returned (.bool (!p x)) ∧ Below w.heap.size w w' := by
  obtain ⟨hK, hf⟩ := hf
  have HF := Lib.hid (fun w' (h : Below w.heap.size w w') => hf x hx w' (hb.next h (Nat.le_refl _)))
  clear hf hx
  skip
  go_enter Tryz.func170, Tryz.ntmps170
  go_wp2_with fail
  refine (HF.out _ (Below.refl _ _)).mono ?_
  rintro e w1 ⟨rfl, hb1⟩
  go_wp2_with fail
  go_ret
  exact ⟨rfl, hb1⟩
set_option maxRecDepth 100000 in
theorem everyRw (A : Option Addr) (l : List (Rw Int)) (c : Nat) (K : Nat) (cap : Array Value) (p : (Rw Int) → Bool) (w : World) (hm : l.length ≤ big) (hs : Sl (rwE Int) w A l)
    (hf : IsPred Tryz.prog w K cap rwv l p) :
    Calls Tryz.prog 120 #[.slice A l.length c, .func (.func K) #[] cap] w
    fun e w' => e = .returned (.bool (l.all p)) ∧ Below w.heap.size w w' := by
  have HF := Lib.hid hf
  clear hf
  have hsf := fun (a : Addr) (c : Array Value) (w : World) => run_store Tryz.prog w a (.func (.func K) #[] c) .plain rfl
  have hmf : ∀ (fn : Fn) (first cap : Array Value) (w : World), (Instr.makeFunc fn first cap).run Tryz.prog w = .ok (.func fn first cap) w := fun _ _ _ _ => rfl
  go_enter Tryz.func120, Tryz.ntmps120
  go_wp2_with (go_at_call 133; refine (containsRw A l c 170 #[.pointer (some ⟨w.heap.size, 0, none⟩)] (fun x => !p x) _ hm (hs.alloc _) ⟨callFunc_run (by kernel_rfl), fun x hx w' hw' => notRw K cap p w w' x l w.heap.size hx (by have := hw'.size; simp at this; omega) ((hw'.cell (by simp)).trans (by simp [go_sem])) hw'.of_alloc HF.out⟩).mono ?_; rintro e w1 ⟨rfl, hb1⟩)
  go_ret
  exact ⟨ret_eq (by rw [List.not_any_eq_all_not]; simp), hb1.of_alloc⟩
theorem in_spec (n : Int) (w : World) : Calls Tryz.prog 95 #[iv n, .int .i64 0, .int .i64 24] w fun e w' => e = .returned (.bool (File.inr n)) ∧ w = w' := by
  unfold File.inr
  by_cases h1 : (0 : Int) ≤ n <;> by_cases h2 : n ≤ 24
  all_goals
    go_enter Tryz.func95, Tryz.ntmps95
    go_wp2
    go_ret
    exact ⟨by simp [*], rfl⟩
theorem bound21_spec (n : Int) (w : World) : Calls Tryz.prog 124 #[iv n] w fun e w' => e = .returned (.bool (File.inr n)) ∧ w = w' := by
  have H := Lib.hid (in_spec n)
  go_enter Tryz.func124, Tryz.ntmps124
  go_wp2_with (go_at_call 95; refine (H.out _).mono ?_; rintro e w1 ⟨rfl, rfl⟩)
  go_ret
  exact ⟨rfl, rfl⟩
theorem inPred (w : World) (l : List Int) : IsPred Tryz.prog w 124 #[] iv l File.inr :=
  ⟨callFunc_run (by kernel_rfl), fun x _ w' _ => (bound21_spec x w').mono fun _ _ h => ⟨h.1, h.2 ▸ Below.refl _ _⟩⟩
theorem bound2_spec (r : Rw Int) (w : World) (hm : r.xs.length ≤ big) (hs : Sl intE w r.A r.xs) : Calls Tryz.prog 122 #[.slice r.A r.xs.length r.c] w fun e w' => e = .returned (.bool (r.xs.all File.inr)) ∧ Below w.heap.size w w' := by
  have H := Lib.hid (everyI r.A r.xs r.c 124 #[] File.inr w hm hs (inPred w r.xs))
  go_enter Tryz.func122, Tryz.ntmps122
  go_wp2_with (go_at_call 123; refine H.out.mono ?_; rintro e w1 ⟨rfl, hb⟩)
  go_ret
  exact ⟨rfl, hb⟩
theorem bound1_spec (r : Rw Int) (g : Nat) (A' : Option Addr) (m c' : Nat) (w : World) (hB : Blk w g 22 #[.slice A' m c']) : Calls Tryz.prog 121 #[.slice r.A r.xs.length r.c, .pointer (some ⟨g, 0, none⟩)] w fun e w' => e = .returned (.bool (decide (r.xs.length = m))) ∧ w = w' := by
  have h0 := hB.cell 0
  have h1 := hB.lt
  by_cases h : r.xs.length = m
  · rw [decide_eq_true h]
    have hq : ((r.xs.length : Int) == (m : Int)) = true := by simp; omega
    go_enter Tryz.func121, Tryz.ntmps121
    go_wp2
    go_ret
    exact ⟨ret_eq (by simp [h]), rfl⟩
  · rw [decide_eq_false h]
    have hq : ((r.xs.length : Int) == (m : Int)) = false := by simp; omega
    go_enter Tryz.func121, Tryz.ntmps121
    go_wp2
    go_ret
    exact ⟨ret_eq (by simp [h]), rfl⟩
theorem run_cutTo {α : Type} (E : Enc α) {t e : TypeId} (hT : SlTy Tryz.prog t e E.sz) (A : Option Addr) (n c x : Nat) (hx : x ≤ c) :
    ∀ W : World, (Instr.slice t (.slice A n c) none (some (iv (x : Int))) none).run Tryz.prog W = .ok (.slice A x c) W := by
  intro W
  obtain ⟨j, z, hj, hz, hsz, hby, hzc⟩ := hT.info
  have he : Tryz.prog.elem t = e := by simp [Program.elem, hT.ht]
  rw [run_slice_h W t A n c (by rw [he]; exact hT.ht) .i64 (x : Int) (by omega) (by omega)]
  have hs : (sizeOf (Tryz.prog.elem t)).run Tryz.prog W = .ok E.sz W := by rw [he]; simp [sizeOf, typeInfo, hj, hsz]
  rw [hs]
  have h0 : ∀ ad : Addr, ad.add 0 = ad := fun ad => by cases ad; unfold Addr.add; split <;> simp_all
  cases A <;> simp [sliced, h0]
theorem Sl.take {α : Type} {E : Enc α} {w : World} {A : Option Addr} {xs : List α} (h : Sl E w A xs) (j : Nat) : Sl E w A (xs.take j) := fun hx => by
  obtain ⟨b, off, hA, hb, hc⟩ := h (by intro e; rw [e] at hx; simp at hx)
  refine ⟨b, off, hA, hb, fun i x hi => hc i x ?_⟩
  rw [List.getElem?_take] at hi
  split at hi
  · exact hi
  · cases hi
theorem tyRows : SlTy Tryz.prog 91 33 1 := slTy_of (z := .slice none 0 0) (bytes := 24) Tryz.underlying91 (by kernel_rfl) rfl (by decide)
theorem all_rows {rs : List (Rw Int)} {p : List Int → Bool} : (rs.all fun r => p r.xs) = (rs.map Rw.xs).all p := by rw [List.all_map]; rfl
set_option maxHeartbeats 4000000 in
theorem Bound_spec (A : Option Addr) (a : List ByteArray) (c : Nat) (A' : Option Addr) (b : List ByteArray) (c' : Nat) (B : Option Addr) (rs : List (Rw Int)) (d : Nat) (w : World) (ha : a.length ≤ big) (hb : b.length ≤ big) (hm : rs.length ≤ big) (hms : ∀ r ∈ rs, r.xs.length ≤ big)
    (hca : a.length ≤ c) (hcb : b.length ≤ c') (hcd : rs.length ≤ d) (hsa : Sl strE w A a) (hsb : Sl strE w A' b) (hsr : Sl (rwE Int) w B rs) (hrr : RowsR intE w rs) :
    Calls Tryz.prog 50 #[.slice A a.length c, .slice A' b.length c', .slice B rs.length d] w fun e w' => e = .returned (.tuple #[iv (boundOf a b (rs.map Rw.xs)).1, iv (boundOf a b (rs.map Rw.xs)).2]) ∧ Below w.heap.size w w' := by
  have hb0 : Below w.heap.size w (w.alloc (.cells #[.slice A' b.length c'] 22)) := (Below.refl _ _).alloc (Nat.le_refl _) _
  have hB0 : Blk (w.alloc (.cells #[.slice A' b.length c'] 22)) w.heap.size 22 #[.slice A' b.length c'] := Blk.new _ _ _
  have HB := Lib.hid (both_spec A a c A' b c' (w.alloc (.cells #[.slice A' b.length c'] 22)) ha hb (hsa.below hb0) (hsb.below hb0))
  unfold boundOf
  by_cases h : errOf a b = 0
  · have h1 := err_good h
    have g1 := good_of_check h1.1
    have g2 := good_of_check h1.2
    have m1 := g1.many
    have m2 := g2.many
    rw [if_pos h]
    have HB2 := Lib.hid (err_zero h HB.out)
    clear HB h
    by_cases hl : rs.length = a.length
    · have hq : ((rs.length : Int) != (a.length : Int)) = false := by simp; omega
      have HE1 : Hid (∀ w1, Below w.heap.size w w1 → Blk w1 w.heap.size 22 #[.slice A' b.length c'] → Calls Tryz.prog 120 #[.slice B rs.length d, .func (.func 121) #[] #[.pointer (some ⟨w.heap.size, 0, none⟩)]] w1 fun e w' => e = .returned (.bool ((rs.map Rw.xs).all fun l => decide (l.length = b.length))) ∧ Below w1.heap.size w1 w') := Lib.hid fun w1 hw hB1 => by
        rw [← all_rows (p := fun l => decide (l.length = b.length))]
        exact everyRw B rs d 121 #[.pointer (some ⟨w.heap.size, 0, none⟩)] (fun r => decide (r.xs.length = b.length)) w1 hm (hsr.below hw)
          ⟨callFunc_run (by kernel_rfl), fun x _ w' hw' => (bound1_spec x w.heap.size A' b.length c' w' (hB1.under hw')).mono fun _ _ h => ⟨h.1, h.2 ▸ Below.refl _ _⟩⟩
      by_cases hall : ((rs.map Rw.xs).all fun l => decide (l.length = b.length)) = true
      · rw [if_pos ⟨by simpa using hl, hall⟩]
        have HE2 : Hid (∀ w1, Below w.heap.size w w1 → Calls Tryz.prog 120 #[.slice B rs.length d, .func (.func 122) #[] #[]] w1 fun e w' => e = .returned (.bool ((rs.map Rw.xs).all fun l => l.all File.inr)) ∧ Below w1.heap.size w1 w') := Lib.hid fun w1 hw => by
          rw [← all_rows (p := fun l => l.all File.inr)]
          exact everyRw B rs d 122 #[] (fun r => r.xs.all File.inr) w1 hm (hsr.below hw)
            ⟨callFunc_run (by kernel_rfl), fun x hx w' hw' => bound2_spec x w' (hms x hx) (((hrr x hx).1.below hw).below hw')⟩
        rw [hall] at HE1
        have HL := Lib.hid hl
        by_cases hin : ((rs.map Rw.xs).all fun l => l.all File.inr) = true
        · rw [if_pos hin]
          rw [hin] at HE2
          obtain ⟨XS, hXS⟩ : ∃ XS, XS = rs.map Rw.xs := ⟨_, rfl⟩
          rw [← hXS] at hall hin ⊢
          have HALL := Lib.hid hall
          have HIN := Lib.hid hin
          have HXS := Lib.hid hXS
          obtain ⟨R, hR⟩ : ∃ R, R = File.levelsGo a b XS 0 0 XS := ⟨_, rfl⟩
          rw [← hR]
          have HR := Lib.hid hR
          clear hl hall hin hXS hR
          go_enter Tryz.func50, Tryz.ntmps50
          go_wp2_with fail
          refine HB2.out.mono ?_
          rintro e w1 ⟨rfl, hb1⟩
          go_wp2_with fail
          refine (HE1.out _ (hb0.next hb1 (Nat.le_refl _)) (hB0.under hb1)).mono ?_
          rintro e w2 ⟨rfl, hb2⟩
          go_wp2_with fail
          refine (HE2.out _ ((hb0.next hb1 (Nat.le_refl _)).next hb2 (Nat.le_refl _))).mono ?_
          rintro e w3 ⟨rfl, hb3⟩
          go_wp2_with fail
          have hb03 : Below w.heap.size w w3 := ((hb0.next hb1 (Nat.le_refl _)).next hb2 (Nat.le_refl _)).next hb3 (Nat.le_refl _)
          have HB3 : Hid (Blk w3 w.heap.size 22 #[.slice A' b.length c']) := Lib.hid (((hB0.under hb1).under hb2).under hb3)
          clear HB2 HE1 HE2 hB0
          go_loopw [9, 40] (fun u q wr => ∃ (i : Nat) (m : Int), i ≤ rs.length ∧ u = iv m ∧ q = iv (i : Int) ∧ Hid (File.levelsGo a b XS i m (XS.drop i) = R) ∧ Below w3.heap.size w3 wr) (fun _ q _ => rs.length - (intOf q).toNat)
          case atStart => exact ⟨0, 0, Nat.zero_le _, rfl, rfl, by rw [HR.out]; rfl, Below.refl _ _⟩
          case round =>
            obtain ⟨i, m, hi, rfl, rfl, HG, hbr⟩ := hrel
            by_cases hlt : i < rs.length
            · obtain ⟨bx, ox, ⟨RA, RC, rx⟩, rfl, hbx, hr, hc⟩ := Sl.atRw (hsr.below (hb03.next hbr (Nat.le_refl _))) hlt
              dsimp only at hc
              have hrm := mem_at hr
              have hxi : XS[i]? = some rx := by rw [HXS.out, List.getElem?_map, hr]; rfl
              have hrl : rx.length = b.length := by
                have := List.all_eq_true.1 HALL.out rx (mem_at hxi)
                simpa using this
              have HRI : Hid (∀ n ∈ rx, 0 ≤ n ∧ n ≤ 24) := Lib.hid fun n hn => by
                have := List.all_eq_true.1 (List.all_eq_true.1 HIN.out rx (mem_at hxi)) n hn
                simpa [File.inr] using this
              have HG1 := HG.out
              rw [drop_at hxi, File.levelsGo] at HG1
              have HG2 := Lib.hid HG1
              have HRL := Lib.hid hrl
              have HRR : Hid (Sl intE w RA rx ∧ rx.length ≤ RC) := Lib.hid (hrr _ hrm)
              have hai : i < a.length := by rw [← HL.out]; exact hlt
              obtain ⟨ba, oa, sa, rfl, hba, hsa1, hca1⟩ := Sl.atS (hsa.below (hb03.next hbr (Nat.le_refl _))) hai
              have HAI := Lib.hid hsa1
              have hil : (i : Int) < (rs.length : Int) := by omega
              clear HG1 HG hsa1 hrl hxi hrm hr
              go_wp2_with fail
              go_loopw [9, 47] (fun u q wx => ∃ (j : Nat) (m : Int), j ≤ rx.length ∧ u = iv m ∧ q = iv (j : Int) ∧ Hid ((match File.rowGo a b XS i j m (rx.drop j) with | some m => File.levelsGo a b XS (i + 1) m (XS.drop (i + 1)) | none => (0, 8)) = R) ∧ Below w3.heap.size w3 wx) (fun _ q _ => rx.length - (intOf q).toNat)
              case atStart => exact ⟨0, m, Nat.zero_le _, rfl, rfl, HG2, hbr⟩
              case round =>
                clear HG2
                obtain ⟨j, m, hj, rfl, rfl, HG, hbx2⟩ := hrel
                by_cases hlt2 : j < rx.length
                · have hw3 := hb03.next hbx2 (Nat.le_refl _)
                  obtain ⟨br, or_, n, rfl, hbr2, hn, hcn⟩ := Sl.atI (HRR.out.1.below hw3) hlt2
                  have HN := Lib.hid (HRI.out n (mem_at hn))
                  have hbj : j < b.length := by rw [← HRL.out]; exact hlt2
                  obtain ⟨bb, ob, sb, rfl, hbb, hsb1, hcb1⟩ := Sl.atS (hsb.below hw3) hbj
                  obtain ⟨ba2, oa2, sa2, hA2, hba2, hsa2, hca2⟩ := Sl.atS (hsa.below hw3) hai
                  have hse : sa2 = sa := by have h5 := HAI.out; rw [hsa2] at h5; injection h5
                  injection hA2 with hA2
                  injection hA2 with e5 e6
                  subst e5 e6 hse
                  have HX := HG.out
                  rw [drop_at hn, File.rowGo] at HX
                  have HX2 := Lib.hid HX
                  have b0 := (HB3.out.under hbx2).cell 0
                  have HCK : Hid (File.cellOk a b XS i j n = ((decide (n = 0) == decide (sa2 ≠ sb)) && (XS.take i).all fun row => !(decide (0 < n) && decide (n ≤ File.great (row.take j))))) := Lib.hid (by unfold File.cellOk; rw [HAI.out, hsb1]; simp)
                  have hjl : (j : Int) < (rx.length : Int) := by omega
                  have hbjl : (j : Int) < (b.length : Int) := by omega
                  have hail : (i : Int) < (a.length : Int) := by omega
                  clear HX HG hn hsa2 hsb1 hca1
                  by_cases hn0 : n = 0
                  · subst hn0
                    by_cases hab : sa2 = sb
                    · have hst : (sa2.toList == sb.toList) = true := by rw [str_eq]; simpa using hab
                      have HBAD : Hid ((0, 8) = R) := Lib.hid (by have h5 := HX2.out; rw [HCK.out] at h5; simpa [hab] using h5)
                      clear hab HCK HX2
                      have RC := run_cutTo (rwE Int) tyRows (some ⟨bx, ox, none⟩) rs.length d i (Nat.le_trans hi hcd)
                      go_upto_region 15 with fail
                      go_quiet (fail)
                      have hqd : Below w3.heap.size w3 (wr.drewN nq) := ⟨hbx2.os, hbx2.tape, hbx2.output, hbx2.size, hbx2.block⟩
                      generalize wr.drewN nq = wq at *
                      go_wp2_with fail
                      go_ret2
                      exact ⟨by rw [← HBAD.out]; rfl, hb03.next hqd (Nat.le_refl _)⟩
                    · have hst : (sa2.toList == sb.toList) = false := by rw [str_eq]; simpa using hab
                      have HOK : Hid ((∀ row ∈ XS.take i, (0 : Int) < 0 → File.great (row.take j) < 0) → (match File.rowGo a b XS i (j + 1) (File.great [m, 0]) (rx.drop (j + 1)) with | some m => File.levelsGo a b XS (i + 1) m (XS.drop (i + 1)) | none => (0, 8)) = R) := Lib.hid fun h6 => by
                        have h5 := HX2.out
                        rw [HCK.out] at h5
                        simpa [hab] using h5
                      clear hab HCK HX2
                      have RC := run_cutTo (rwE Int) tyRows (some ⟨bx, ox, none⟩) rs.length d i (Nat.le_trans hi hcd)
                      go_upto_region 15 with fail
                      go_quiet (fail)
                      have hqd : Below w3.heap.size w3 (wr.drewN nq) := ⟨hbx2.os, hbx2.tape, hbx2.output, hbx2.size, hbx2.block⟩
                      generalize wr.drewN nq = wq at *
                      go_wp2_with fail
                      go_loopw [68] (fun q wz => ∃ (k : Nat), k ≤ i ∧ q = iv (k : Int) ∧ Below w3.heap.size w3 wz) (fun q _ => i - (intOf q).toNat)
                      case atStart => exact ⟨0, Nat.zero_le _, rfl, hqd⟩
                      case round =>
                        obtain ⟨k, hk, rfl, hbz⟩ := hrel
                        by_cases hlt3 : k < i
                        · have hki : (k : Int) < (i : Int) := by omega
                          obtain ⟨by_, oy, ⟨YA, YC, yx⟩, hBy, hby, hyr, hcy⟩ := Sl.atRw (hsr.below (hb03.next hbz (Nat.le_refl _))) (Nat.lt_trans hlt3 hlt)
                          dsimp only at hcy
                          injection hBy with hBy
                          injection hBy with e5 e6
                          subst e5 e6
                          clear hyr
                          go_wp2_with fail
                          go_roundw
                          case rel => exact ⟨k + 1, by omega, by go_num, hbz⟩
                          case measure => simp [intOf]; omega
                        · have HX3 := Lib.hid (HOK.out fun _ _ h7 => absurd h7 (by omega))
                          have hki : ¬ (k : Int) < (i : Int) := by omega
                          go_wp2_with (go_at_call 119; refine (greatest_spec (some ⟨_, 0, none⟩) [m, 0] 2 _ (by simp [big]) (Sl.fresh intE _ 3 #[iv m, iv 0] [m, 0] rfl (by simp [maxLen]))).mono ?_; rintro e w4 ⟨rfl, rfl⟩)
                          go_roundw
                          case rel => exact ⟨j + 1, File.great [m, 0], by omega, rfl, by go_num, HX3, hbz.alloc hbz.size _⟩
                          case measure => simp [intOf]; omega
                  · have hnp : 0 < n := by have h5 := HN.out; omega
                    by_cases hab : sa2 = sb
                    · have hst : (sa2.toList == sb.toList) = true := by rw [str_eq]; simpa using hab
                      have HOK : Hid ((∀ row ∈ XS.take i, File.great (row.take j) < n) → (match File.rowGo a b XS i (j + 1) (File.great [m, n]) (rx.drop (j + 1)) with | some m => File.levelsGo a b XS (i + 1) m (XS.drop (i + 1)) | none => (0, 8)) = R) := Lib.hid fun h6 => by
                        have h5 := HX2.out
                        rw [HCK.out] at h5
                        have h7 : ((XS.take i).all fun row => !(decide (0 < n) && decide (n ≤ File.great (row.take j)))) = true := by
                          rw [List.all_eq_true]
                          intro row hrow
                          have := h6 row hrow
                          simp
                          exact Or.inr this
                        rw [h7] at h5
                        simpa [hab, hn0] using h5
                      have HBAD : Hid (∀ row ∈ XS.take i, n ≤ File.great (row.take j) → (0, 8) = R) := Lib.hid fun row hrow h6 => by
                        have h5 := HX2.out
                        rw [HCK.out] at h5
                        have h7 : ((XS.take i).all fun row => !(decide (0 < n) && decide (n ≤ File.great (row.take j)))) = false := by
                          rw [List.all_eq_false]
                          exact ⟨row, hrow, by simp; exact ⟨hnp, h6⟩⟩
                        rw [h7] at h5
                        simpa using h5
                      have hn0q : (n == 0) = false := by simpa using hn0
                      clear hab HCK HX2
                      have RC := run_cutTo (rwE Int) tyRows (some ⟨bx, ox, none⟩) rs.length d i (Nat.le_trans hi hcd)
                      go_upto_region 15 with fail
                      go_quiet (fail)
                      have hqd : Below w3.heap.size w3 (wr.drewN nq) := ⟨hbx2.os, hbx2.tape, hbx2.output, hbx2.size, hbx2.block⟩
                      generalize wr.drewN nq = wq at *
                      go_wp2_with fail
                      go_loopw [68] (fun q wz => ∃ (k : Nat), k ≤ i ∧ q = iv (k : Int) ∧ Hid (∀ t, t < k → ∀ row, XS[t]? = some row → File.great (row.take j) < n) ∧ Below w3.heap.size w3 wz) (fun q _ => i - (intOf q).toNat)
                      case atStart => exact ⟨0, Nat.zero_le _, rfl, fun t h => absurd h (Nat.not_lt_zero t), hqd⟩
                      case round =>
                        obtain ⟨k, hk, rfl, HLT, hbz⟩ := hrel
                        by_cases hlt3 : k < i
                        · have hki : (k : Int) < (i : Int) := by omega
                          obtain ⟨by_, oy, ⟨YA, YC, yx⟩, hBy, hby, hyr, hcy⟩ := Sl.atRw (hsr.below (hb03.next hbz (Nat.le_refl _))) (Nat.lt_trans hlt3 hlt)
                          dsimp only at hcy
                          injection hBy with hBy
                          injection hBy with e5 e6
                          subst e5 e6
                          have hxk : XS[k]? = some yx := by rw [HXS.out, List.getElem?_map, hyr]; rfl
                          have hyl : yx.length = b.length := by
                            have := List.all_eq_true.1 HALL.out yx (mem_at hxk)
                            simpa using this
                          obtain ⟨hy1, hy2⟩ := hrr _ (mem_at hyr)
                          have RY := run_cutTo intE tyInts YA yx.length YC j (by dsimp only at hy2; omega)
                          have HGR : Hid (Calls Tryz.prog 119 #[.slice YA j YC] wr fun e w' => e = .returned (iv (File.great (yx.take j))) ∧ wr = w') := Lib.hid (by
                            have h6 : (yx.take j).length = j := by rw [List.length_take]; omega
                            have := greatest_spec YA (yx.take j) YC wr (by rw [h6]; unfold big; omega) (Sl.take (hy1.below (hb03.next hbz (Nat.le_refl _))) j)
                            rw [h6] at this
                            exact this)
                          obtain ⟨G, hG⟩ : ∃ G, G = File.great (yx.take j) := ⟨_, rfl⟩
                          rw [← hG] at HGR
                          have HG := Lib.hid hG
                          have HXK := Lib.hid hxk
                          clear hyr hxk hyl hy1 hy2 hG
                          by_cases hge : n ≤ G
                          · have HB2 : Hid ((0, 8) = R) := Lib.hid (HBAD.out yx (by rw [List.mem_take_iff_getElem]; obtain ⟨h7, h8⟩ := List.getElem?_eq_some_iff.1 HXK.out; exact ⟨k, by omega, h8⟩) (by rw [← HG.out]; exact hge))
                            go_wp2_with (go_at_call 119; refine HGR.out.mono ?_; rintro e w4 ⟨rfl, rfl⟩)
                            go_ret2
                            exact ⟨by rw [← HB2.out]; rfl, hb03.next hbz (Nat.le_refl _)⟩
                          · have HLT2 : Hid (∀ t, t < k + 1 → ∀ row, XS[t]? = some row → File.great (row.take j) < n) := Lib.hid fun t ht row hrow => by
                              by_cases h9 : t = k
                              · subst h9
                                rw [HXK.out] at hrow
                                injection hrow with hrow
                                rw [← hrow, ← HG.out]
                                omega
                              · exact HLT.out t (by omega) row hrow
                            go_wp2_with (go_at_call 119; refine HGR.out.mono ?_; rintro e w4 ⟨rfl, rfl⟩)
                            go_roundw
                            case rel => exact ⟨k + 1, by omega, by go_num, HLT2, hbz⟩
                            case measure => simp [intOf]; omega
                        · have HX3 := Lib.hid (HOK.out fun row hrow => by
                            obtain ⟨t, ht, he⟩ := List.mem_take_iff_getElem.1 hrow
                            exact HLT.out t (by omega) row (by rw [← he]; exact List.getElem?_eq_getElem (by omega)))
                          have hki : ¬ (k : Int) < (i : Int) := by omega
                          go_wp2_with (go_at_call 119; refine (greatest_spec (some ⟨_, 0, none⟩) [m, n] 2 _ (by simp [big]) (Sl.fresh intE _ 3 #[iv m, iv n] [m, n] rfl (by simp [maxLen]))).mono ?_; rintro e w4 ⟨rfl, rfl⟩)
                          go_roundw
                          case rel => exact ⟨j + 1, File.great [m, n], by omega, rfl, by go_num, HX3, hbz.alloc hbz.size _⟩
                          case measure => simp [intOf]; omega
                    · have hst : (sa2.toList == sb.toList) = false := by rw [str_eq]; simpa using hab
                      have HBAD : Hid ((0, 8) = R) := Lib.hid (by have h5 := HX2.out; rw [HCK.out] at h5; simpa [hab, hn0] using h5)
                      have hn0q : (n == 0) = false := by simpa using hn0
                      clear hab HCK HX2
                      have RC := run_cutTo (rwE Int) tyRows (some ⟨bx, ox, none⟩) rs.length d i (Nat.le_trans hi hcd)
                      go_upto_region 15 with fail
                      go_quiet (fail)
                      have hqd : Below w3.heap.size w3 (wr.drewN nq) := ⟨hbx2.os, hbx2.tape, hbx2.output, hbx2.size, hbx2.block⟩
                      generalize wr.drewN nq = wq at *
                      go_wp2_with fail
                      go_ret2
                      exact ⟨by rw [← HBAD.out]; rfl, hb03.next hqd (Nat.le_refl _)⟩
                · have hje : j = rx.length := by omega
                  have HG1 := HG.out
                  rw [hje, List.drop_length, File.rowGo] at HG1
                  have HG2 := Lib.hid HG1
                  clear HG1 HG hje
                  go_wp2_with fail
                  go_roundw
                  case rel => exact ⟨i + 1, m, by omega, rfl, by go_num, HG2, hbx2⟩
                  case measure => simp [intOf]; omega
            · have hie : i = rs.length := by omega
              have HG1 := HG.out
              rw [List.drop_eq_nil_of_le (by rw [HXS.out, List.length_map]; omega), File.levelsGo] at HG1
              have HG2 := Lib.hid HG1
              clear HG1 HG hie
              go_wp2_with fail
              go_ret2
              exact ⟨by rw [← HG2.out]; rfl, hb03.next hbr (Nat.le_refl _)⟩
        · rw [if_neg hin]
          rw [show ((rs.map Rw.xs).all fun l => l.all File.inr) = false by simpa using hin] at HE2
          clear hl
          go_enter Tryz.func50, Tryz.ntmps50
          go_wp2_with fail
          refine HB2.out.mono ?_
          rintro e w1 ⟨rfl, hb1⟩
          go_wp2_with fail
          refine (HE1.out _ (hb0.next hb1 (Nat.le_refl _)) (hB0.under hb1)).mono ?_
          rintro e w2 ⟨rfl, hb2⟩
          go_wp2_with fail
          refine (HE2.out _ ((hb0.next hb1 (Nat.le_refl _)).next hb2 (Nat.le_refl _))).mono ?_
          rintro e w3 ⟨rfl, hb3⟩
          go_wp2_with fail
          go_ret2
          exact ⟨rfl, ((hb0.next hb1 (Nat.le_refl _)).next hb2 (Nat.le_refl _)).next hb3 (Nat.le_refl _)⟩
      · rw [if_neg (fun e => hall e.2)]
        rw [show ((rs.map Rw.xs).all fun l => decide (l.length = b.length)) = false by simpa using hall] at HE1
        clear hl
        go_enter Tryz.func50, Tryz.ntmps50
        go_wp2_with fail
        refine HB2.out.mono ?_
        rintro e w1 ⟨rfl, hb1⟩
        go_wp2_with fail
        refine (HE1.out _ (hb0.next hb1 (Nat.le_refl _)) (hB0.under hb1)).mono ?_
        rintro e w2 ⟨rfl, hb2⟩
        go_wp2_with fail
        go_ret2
        exact ⟨rfl, (hb0.next hb1 (Nat.le_refl _)).next hb2 (Nat.le_refl _)⟩
    · rw [if_neg (fun e => hl (by simpa using e.1))]
      have hq : ((rs.length : Int) != (a.length : Int)) = true := by simp; omega
      go_enter Tryz.func50, Tryz.ntmps50
      go_wp2_with (go_at_call 81; refine HB2.out.mono ?_; rintro e w1 ⟨rfl, hb1⟩)
      go_ret2
      exact ⟨rfl, hb0.next hb1 (Nat.le_refl _)⟩
  · rw [if_neg h]
    have HB2 : Hid (Calls Tryz.prog 81 #[.slice A a.length c, .slice A' b.length c'] (w.alloc (.cells #[.slice A' b.length c'] 22)) fun e w' => e = .returned (iv (errOf a b)) ∧ Below (w.alloc (.cells #[.slice A' b.length c'] 22)).heap.size (w.alloc (.cells #[.slice A' b.length c'] 22)) w') := Lib.hid HB.out
    clear HB
    obtain ⟨r, hr⟩ : ∃ r, r = errOf a b := ⟨_, rfl⟩
    rw [← hr] at HB2 h
    rw [← hr]
    have hne : (r != 0) = true := by simpa using h
    clear hr h
    go_enter Tryz.func50, Tryz.ntmps50
    go_wp2_with (go_at_call 81; refine HB2.out.mono ?_; rintro e w1 ⟨rfl, hb1⟩)
    go_ret2
    exact ⟨rfl, hb0.next hb1 (Nat.le_refl _)⟩
end Fl
end Go.Proofs.YtekkhnjepcebkaaGreatDoor
