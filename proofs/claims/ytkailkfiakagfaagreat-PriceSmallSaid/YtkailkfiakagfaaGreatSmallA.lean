/- Words for PriceSmall: blocks of numbers, and the lists that they read as; what asks the statements. No condition. -/
import Derived.Test.YtkailkfiakagfaaGreatPriceV
import Derived.Test.YtkailkfiakagfaaGreatFree
import Derived.Test.YtkailkfiakagfaaGreatShortV
set_option linter.unusedVariables false
set_option linter.unusedSimpArgs false
namespace Go.Proofs.YtkailkfiakagfaaGreat
open Go.RowKit Go.Shelf
set_option maxRecDepth 100000
/-- Go's int holds the number. -/
def I64 (x : Int) : Prop := -9223372036854775808 ≤ x ∧ x ≤ 9223372036854775807
/-- Block g holds n numbers. -/
def Ints (w : World) (g : Nat) (t : TypeId) (n : Nat) : Prop := ∃ ns : List Int, ns.length = n ∧ (∀ x ∈ ns, I64 x) ∧ Blk w g t (ns.map iv).toArray
section
variable {w w' : World} {X : Nat} {t : TypeId} {n : Nat}
theorem Ints.lt (h : Ints w X t n) : X < w.heap.size := by obtain ⟨ns, _, _, hb⟩ := h; exact hb.lt
theorem Ints.under (h : Ints w X t n) (hb : Below w.heap.size w w') : Ints w' X t n := by obtain ⟨ns, h1, h2, h3⟩ := h; exact ⟨ns, h1, h2, h3.under hb⟩
theorem Ints.set (h : Ints w X t n) (g o : Nat) (v : Int) (hv : I64 v) : Ints (w.setCell ⟨g, o, none⟩ (iv v)) X t n := by
  obtain ⟨ns, hl, hi, hb⟩ := h
  by_cases e : X = g
  · subst e
    refine ⟨ns.set o v, by simpa using hl, fun x hx => ?_, by have := hb.set_ o (iv v); simpa [List.map_set] using this⟩
    rcases List.mem_or_eq_of_mem_set hx with hx | rfl
    · exact hi x hx
    · exact hv
  · exact ⟨ns, hl, hi, hb.far e _⟩
theorem Ints.cell (h : Ints w X t n) {o : Nat} (ho : o < n) : ∃ x, I64 x ∧ w.cell? ⟨X, o, none⟩ = some (iv x) := by
  obtain ⟨ns, hl, hi, hb⟩ := h
  have hol : o < ns.length := by omega
  refine ⟨ns[o], hi _ (List.getElem_mem hol), ?_⟩
  rw [hb.cell]
  simp [hol]
theorem Ints.frozen (h : Ints w X t n) (o : Nat) : w.frozen? ⟨X, o, none⟩ = false := by obtain ⟨ns, _, _, hb⟩ := h; exact hb.frozen o
end
theorem ints_rules : ∀ (k : Nat) (ns : List Int), ns.length = 4 * k → ∃ l : List Rule, l.length = k ∧ l.flatMap ruleE.cells = ns.map iv := by
  intro k
  induction k with
  | zero => intro ns h; obtain rfl := List.length_eq_zero_iff.1 (show ns.length = 0 by omega); exact ⟨[], rfl, rfl⟩
  | succ k ih =>
    intro ns h
    match ns, h with
    | a :: b :: c :: d :: ns, h =>
      obtain ⟨l, h1, h2⟩ := ih ns (by simp at h; omega)
      exact ⟨⟨a, b, c, d⟩ :: l, by simp [h1], by rw [List.flatMap_cons, h2]; rfl⟩
theorem ints_pieces : ∀ (k : Nat) (ns : List Int), ns.length = 3 * k → ∃ l : List Piece, l.length = k ∧ l.flatMap pieceE.cells = ns.map iv := by
  intro k
  induction k with
  | zero => intro ns h; obtain rfl := List.length_eq_zero_iff.1 (show ns.length = 0 by omega); exact ⟨[], rfl, rfl⟩
  | succ k ih =>
    intro ns h
    match ns, h with
    | a :: b :: c :: ns, h =>
      obtain ⟨l, h1, h2⟩ := ih ns (by simp at h; omega)
      exact ⟨⟨a, b, c⟩ :: l, by simp [h1], by rw [List.flatMap_cons, h2]; rfl⟩
theorem Ints.rules {w : World} {g k : Nat} {t : TypeId} (hk : k ≤ 1000) (h : Ints w g t (4 * k)) : ∃ l : List Rule, l.length = k ∧ Sl ruleE w (some ⟨g, 0, none⟩) l := by
  obtain ⟨ns, h1, _, h3⟩ := h
  obtain ⟨l, h4, h5⟩ := ints_rules k ns h1
  rw [← h5] at h3
  exact ⟨l, h4, (Own.ofBlk (B := 0) h3 (Nat.zero_le _) (by unfold maxLen; omega)).sl⟩
theorem Ints.pieces {w : World} {g k : Nat} {t : TypeId} (hk : k ≤ 1000) (h : Ints w g t (3 * k)) : ∃ l : List Piece, l.length = k ∧ Sl pieceE w (some ⟨g, 0, none⟩) l := by
  obtain ⟨ns, h1, _, h3⟩ := h
  obtain ⟨l, h4, h5⟩ := ints_pieces k ns h1
  rw [← h5] at h3
  exact ⟨l, h4, (Own.ofBlk (B := 0) h3 (Nat.zero_le _) (by unfold maxLen; omega)).sl⟩
theorem Ints.ints {w : World} {g k : Nat} {t : TypeId} (hk : k ≤ 1000) (h : Ints w g t k) : ∃ l : List Int, l.length = k ∧ Sl intE w (some ⟨g, 0, none⟩) l := by
  obtain ⟨ns, h1, _, h3⟩ := h
  rw [← flat_int] at h3
  exact ⟨ns, h1, (Own.ofBlk (B := 0) h3 (Nat.zero_le _) (by unfold maxLen; omega)).sl⟩
theorem i64_of {x : Int} (h : -9223372036854775808 ≤ x ∧ x ≤ 9223372036854775807) : I64 x := h
theorem Five_own (w : World) : Calls Tryz.prog 4 #[] w fun e w' => ∃ g, e = .returned (.slice (some ⟨g, 0, none⟩) 5 5) ∧ w.heap.size ≤ g ∧ Ints w' g 28 20 ∧ Below w.heap.size w w' := by
  go_enter Tryz.func4, Tryz.ntmps4
  go_wp2
  go_ret
  exact ⟨_, rfl, Nat.le_refl _, ⟨[-1, -1, -1, 10, 1, -1, -1, 12, -1, 2, -1, 15, 1, 2, -1, 14, -1, -1, 1, 12], rfl, by intro x hx; simp at hx; unfold I64; omega, Blk.new _ _ _⟩, (Below.refl _ _).alloc (Nat.le_refl _) _⟩
theorem Week_own (w : World) : Calls Tryz.prog 5 #[] w fun e w' => ∃ g g', e = .returned (.tuple #[saleV 10 (some ⟨g, 0, none⟩) 2 2, .slice (some ⟨g', 0, none⟩) 4 4]) ∧ w.heap.size ≤ g ∧ w.heap.size ≤ g' ∧ Ints w' g 3 2 ∧ Ints w' g' 26 12 ∧ Below w.heap.size w w' := by
  go_enter Tryz.func5, Tryz.ntmps5
  go_wp2
  have k0 := ((Blk.new w 30 #[.int .i64 10, .slice (some ⟨w.heap.size + 1, 0, none⟩) 2 2]).alloc (.cells #[.int .i64 1, .int .i64 2] 3)).alloc (.cells #[.int .i64 1, .int .i64 2, .int .i64 0, .int .i64 0, .int .i64 0, .int .i64 0, .int .i64 1, .int .i64 0, .int .i64 0, .int .i64 0, .int .i64 0, .int .i64 0] 26)
  have d0 := k0.cell
  refine bodyPost_ret (v := .tuple #[.agg #[.int .i64 10, .slice (some ⟨w.heap.size + 1, 0, none⟩) 2 2], .slice (some ⟨w.heap.size + 1 + 1, 0, none⟩) 4 4]) (by simp [results, Tryz.f5, go_sem, d0]) rfl ?_
  exact ⟨w.heap.size + 1, w.heap.size + 1 + 1, rfl, by omega, by omega, ⟨[1, 2], rfl, by intro x hx; simp at hx; unfold I64; omega, (Blk.new_ _ _ _ (by simp)).alloc _⟩, ⟨[1, 2, 0, 0, 0, 0, 1, 0, 0, 0, 0, 0], rfl, by intro x hx; simp at hx; unfold I64; omega, Blk.new_ _ _ _ (by simp)⟩, (((Below.refl _ w).alloc (Nat.le_refl _) _).alloc (by simp) _).alloc (by simp; omega) _⟩
theorem Ints.ne_blk {w : World} {X Y n : Nat} {t t' : TypeId} {cs : Array Value} (h : Ints w X t n) (hb : Blk w Y t' cs) (ht : t ≠ t') : X ≠ Y := fun e => by
  obtain ⟨ns, _, _, h3⟩ := h
  subst e
  unfold Blk at h3 hb
  rw [hb] at h3
  injection h3 with h3
  injection h3 with _ h4 _
  exact ht h4.symm
/-- A cell that a number can be stored to. -/
structure NumCell (B g10 : Nat) (x : World) (g o : Nat) : Prop where
  cell : ∃ y, x.cell? ⟨g, o, none⟩ = some (iv y)
  free : x.frozen? ⟨g, o, none⟩ = false
  base : B ≤ g
  lt : g < x.heap.size
  head : g = g10 → o = 0
theorem Ints.num {B g10 : Nat} {x : World} {g n o : Nat} {t t' : TypeId} {cs : Array Value} (h : Ints x g t n) (hB : B ≤ g) (ho : o < n) (hS : Blk x g10 t' cs) (ht : t ≠ t') : NumCell B g10 x g o := by
  obtain ⟨y, _, hy⟩ := h.cell ho
  exact ⟨⟨y, hy⟩, h.frozen o, hB, h.lt, fun e => absurd e (h.ne_blk hS ht)⟩
/-- A sale whose fall is a number, and what it buys. -/
def SaleAt (x : World) (g gb : Nat) : Prop := ∃ f, Blk x g 30 #[iv f, .slice (some ⟨gb, 0, none⟩) 2 2]
theorem SaleAt.set {x : World} {G gb g o B : Nat} (h : SaleAt x G gb) (hn : NumCell B G x g o) (v : Int) : SaleAt (x.setCell ⟨g, o, none⟩ (iv v)) G gb := by
  obtain ⟨f, hb⟩ := h
  by_cases e : g = G
  · have := hn.head e
    subst this e
    exact ⟨v, hb.set_ 0 _⟩
  · exact ⟨f, hb.far (Ne.symm e) _⟩
/-- Where an operation's run stores. -/
theorem stepF_skip {P : Program} {ops : Array Oper} {o : Oper} {a : Act} {w w' : World} {K : Value → World → Prop} (hw : Region.wanted o (yielded ops a.tmps) = true) (hr : (execOp a.eval o).run P w = .ok .skip w') (hK : K undef w') : StepF P ops o a w K := by
  refine ⟨?_⟩; unfold StepG; rw [hw, if_pos rfl, hr]; exact hK
/-- All blocks of numbers are so still. -/
def IntsKeep (w w' : World) : Prop := w.heap.size ≤ w'.heap.size ∧ ∀ g t n, Ints w g t n → Ints w' g t n
theorem IntsKeep.refl (w : World) : IntsKeep w w := ⟨Nat.le_refl _, fun _ _ _ h => h⟩
theorem IntsKeep.below {w w' : World} (h : Below w.heap.size w w') : IntsKeep w w' := ⟨h.size, fun _ _ _ hi => hi.under h⟩
theorem IntsKeep.trans {a b c : World} (h : IntsKeep a b) (k : IntsKeep b c) : IntsKeep a c := ⟨Nat.le_trans h.1 k.1, fun g t n hi => k.2 g t n (h.2 g t n hi)⟩
theorem IntsKeep.set (w : World) (g o : Nat) (v : Int) (hv : I64 v) : IntsKeep w (w.setCell ⟨g, o, none⟩ (iv v)) := ⟨((Below.refl 0 w).setCell (p := ⟨g, o, none⟩) (Nat.zero_le _) (iv v)).size, fun _ _ _ hi => hi.set g o v hv⟩
/-- A slice, a pointer, at a new block of numbers. -/
def SlInts (B off k : Nat) (t : TypeId) (n : Nat) (u : Value) (x : World) : Prop := ∃ g, u = .slice (some ⟨g, off, none⟩) k k ∧ B ≤ g ∧ Ints x g t n
def PtInts (B : Nat) (t : TypeId) (n : Nat) (u : Value) (x : World) : Prop := ∃ g, u = .pointer (some ⟨g, 0, none⟩) ∧ B ≤ g ∧ Ints x g t n
theorem SlInts.keep {B off k : Nat} {t : TypeId} {n : Nat} {u : Value} {x x' : World} (h : SlInts B off k t n u x) (hk : IntsKeep x x') : SlInts B off k t n u x' := by
  obtain ⟨g, h1, h2, h3⟩ := h; exact ⟨g, h1, h2, hk.2 _ _ _ h3⟩
theorem PtInts.keep {B : Nat} {t : TypeId} {n : Nat} {u : Value} {x x' : World} (h : PtInts B t n u x) (hk : IntsKeep x x') : PtInts B t n u x' := by
  obtain ⟨g, h1, h2, h3⟩ := h; exact ⟨g, h1, h2, hk.2 _ _ _ h3⟩
theorem Price.shortOf_length (l : List Rule) : (Price.shortOf l).1.length ≤ l.length := by
  by_cases h0 : Price.check l = 0
  · obtain ⟨x, hx, hfx⟩ := Price.short_some l
    have := Price.rises_len hfx.rises (by omega)
    unfold Price.shortOf
    rw [if_pos h0, hx]
    simp only [Option.getD_some]
    omega
  · unfold Price.shortOf
    rw [if_neg h0]
    simp
/-- A rule's price is set in a slice of the call's own. -/
theorem Own.setPrice {e : TypeId} {B : Nat} {w : World} {g cap : Nat} {x : Rule} {xs : List Rule} {n : Nat} (h : Own ruleE e B w (.slice (some ⟨g, 0, none⟩) n cap) (x :: xs)) (p : Int) :
    w.frozen? ⟨g, 3, none⟩ = false ∧ B ≤ g ∧ g < w.heap.size ∧ w.cell? ⟨g, 3, none⟩ = some (iv x.p) ∧ Own ruleE e B (w.setCell ⟨g, 3, none⟩ (iv p)) (.slice (some ⟨g, 0, none⟩) n cap) (⟨x.b, x.s, x.e, p⟩ :: xs) := by
  have h0 := h
  obtain ⟨A, c, hv, _, _⟩ := h.form
  injection hv with hA hn hc
  subst hn
  have h' : w.ownsRow B e 4 (.slice (some ⟨g, 0, none⟩) (x :: xs).length cap) (x :: xs).length ((x :: xs).flatMap ruleE.cells) := h
  have hlt := h0.lt g rfl
  have hfl : ((x :: xs).flatMap ruleE.cells)[3]? = some (iv x.p) := by simp [ruleE]
  refine ⟨h'.frozenAt 3, hlt.1, hlt.2, ?_, ?_⟩
  · have := h'.cells (g := g) rfl _ _ hfl
    rw [Addr.add_lit] at this
    simpa using this
  · have hs := h'.stored 3 (iv p)
    unfold Own
    have he : ((⟨x.b, x.s, x.e, p⟩ : Rule) :: xs).flatMap ruleE.cells = ((x :: xs).flatMap ruleE.cells).set 3 (iv p) := by simp [ruleE]
    rw [he, show ((⟨x.b, x.s, x.e, p⟩ : Rule) :: xs).length = (x :: xs).length from rfl]
    exact hs.1
theorem makeI_exec {a : Act} {o : Oper} (l c : Operand) (ho : o.op = .makeSlice 22 l c) (n : Nat) (hl : a.eval l = iv n) (hc : a.eval c = iv n) (hn : n ≤ big) (x : World) :
    ∃ x', (execOp a.eval o).run Tryz.prog x = .ok (.value (.slice (some ⟨x.heap.size, 0, none⟩) n n)) x' ∧ Own intE 3 x.heap.size x' (.slice (some ⟨x.heap.size, 0, none⟩) n n) (List.replicate n 0) ∧ Below x.heap.size x x' := by
  obtain ⟨i, z, hi, hz, hsz, hby, hzc⟩ := tyInts.info
  obtain ⟨i', z', hi', hz', hc'⟩ : ∃ i z, (Tryz.prog).info? 3 = some i ∧ i.zero = some z ∧ z.cells.toList = intE.cells 0 := ⟨_, _, rfl, rfl, rfl⟩
  rw [hi] at hi'; injection hi' with hi'; subst hi'
  rw [hz] at hz'; injection hz' with hz'; subst hz'
  unfold big at hn
  obtain ⟨w', hrun, r1, r2⟩ := run_make_full (P := Tryz.prog) x x.heap.size 22 3 i z intE.sz tyInts.ht hi hz hsz .i64 .i64 n (by have := Nat.mul_le_mul hby hn; omega) (by unfold maxLen; omega) (Nat.le_refl _)
  refine ⟨w', ?_, ?_, (Below.refl _ x).grown r2 (Nat.le_refl _) (by simp)⟩
  · simp [execOp, ho, hl, hc, hrun, Result.andThen]
  · unfold Own
    rw [List.length_replicate, ← madeCells_flat intE 0 z.cells hc']
    exact r1
theorem stepF_make {ops : Array Oper} {o : Oper} {a : Act} {x : World} {K : Value → World → Prop} (hw : Region.wanted o (yielded ops a.tmps) = true) (l c : Operand) (ho : o.op = .makeSlice 22 l c) (n : Nat) (hl : a.eval l = iv n) (hc : a.eval c = iv n) (hn : n ≤ big)
    (hK : ∀ x', Own intE 3 x.heap.size x' (.slice (some ⟨x.heap.size, 0, none⟩) n n) (List.replicate n 0) → Below x.heap.size x x' → K (.slice (some ⟨x.heap.size, 0, none⟩) n n) x') : StepF Tryz.prog ops o a x K := by
  obtain ⟨x', hr, h1, h2⟩ := makeI_exec l c ho n hl hc hn x
  exact stepF_new hw hr (hK x' h1 h2)
namespace Price
/-- n rules that name nothing. -/
def manyR (n : Nat) : List Rule := (List.range n).map fun (i : Nat) => (⟨-1, -1, -1, (i : Int)⟩ : Rule)
theorem manyR_snoc (n : Nat) : manyR (n + 1) = manyR n ++ [⟨-1, -1, -1, (n : Int)⟩] := by unfold manyR; rw [List.range_succ, List.map_append]; rfl
theorem manyR_length (n : Nat) : (manyR n).length = n := by unfold manyR; simp
theorem manyR_check : ∀ n, n < 13 → (check (manyR n) == 0) = decide (n < 9) := by decide +kernel
theorem manyR_sale : ∀ n : Nat, n < 13 → (checkSale 0 (List.replicate n 0) == 0) = (decide (0 < n) && decide (n < 9)) := by decide +kernel
end Price
end Go.Proofs.YtkailkfiakagfaaGreat
