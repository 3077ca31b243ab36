/- awake: the examples of the chapter. No condition. -/
import Derived.Test.YtkailkfiakagfaaGreatPriceS
set_option linter.unusedVariables false
set_option linter.unusedSimpArgs false
namespace Go.Proofs.YtkailkfiakagfaaGreat
open Go.RowKit Go.Shelf
set_option maxRecDepth 100000

theorem ex1 : Price.price Price.five ⟨1, 2, 1⟩ = (14, 0) := by decide +kernel
theorem ex2 : Price.erringOf Price.five 7 = ([⟨0, 2, 1⟩, ⟨2, 2, 1⟩, ⟨3, 2, 1⟩], 0) := by decide +kernel
theorem ex3 : Price.witnessOf Price.five 4 = (⟨0, 0, 1⟩, 0) := by decide +kernel
theorem ex4 : Price.differOf Price.five Price.five = (⟨0, 0, 0⟩, 6) := by decide +kernel
theorem ex5 : Price.bestOf Price.five 10 [1, 2] Price.weekStock = ([0, -1, 1, 1], 3380, 0) ∨ (Price.bestOf Price.five 10 [1, 2] Price.weekStock).2 = (3380, 0) := by decide +kernel
theorem ex6 : Price.exchangeOf Price.five 10 [1, 2] Price.weekStock [1, 1, 0, -1] = (0, 2, 0) := by decide +kernel
theorem ex7 : Price.moveOf Price.five 10 [1, 2] Price.weekStock [0, -1, 1, -1] = (1, 1, 0) := by decide +kernel
set_option maxHeartbeats 8000000 in
theorem awake_spec (w : World) : Calls Tryz.prog 14 #[] w fun e w' => e = .returned (.bool true) ∧ Below w.heap.size w w' := by
  go_enter Tryz.func14, Tryz.ntmps14
  go_wp2_with fail
  refine (Five_spec w).mono ?_
  rintro e w1 ⟨A1, rfl, s1, hb1⟩
  go_wp2_with fail
  refine (price_spec A1 Price.five 5 ⟨1, 2, 1⟩ w1 (by decide) (by decide) s1).mono ?_
  rintro e w2 ⟨rfl, hb2⟩
  rw [ex1]
  go_wp2_with fail
  refine (Five_spec w2).mono ?_
  rintro e w3 ⟨A3, rfl, s3, hb3⟩
  go_wp2_with fail
  refine (Torn_spec A3 Price.five 5 w3 (by decide) (by decide) s3).mono ?_
  rintro e w4 ⟨v4, rfl, o4, hb4⟩
  rw [ex2] at o4 ⊢
  obtain ⟨A4, c4, rfl, _, _⟩ := o4.form
  have hb04 : Below w.heap.size w w4 := ((hb1.next hb2 (Nat.le_refl _)).next hb3 (Nat.le_refl _)).next hb4 (Nat.le_refl _)
  have s4 := o4.sl
  clear hb1 hb2 hb3 hb4 s1 s3 o4
  go_wp2_with fail
  refine (Five_spec w4).mono ?_
  rintro e w5 ⟨A5, rfl, s5, hb5⟩
  go_wp2_with fail
  refine (Witness_spec A5 Price.five 5 4 w5 (by decide) (by decide) s5 (by decide)).mono ?_
  rintro e w6 ⟨rfl, hb6⟩
  rw [ex3]
  have hb46 : Below w4.heap.size w4 w6 := hb5.next hb6 (Nat.le_refl _)
  clear hb5 hb6 s5
  go_wp2_with fail
  have hb47 := hb46.alloc hb46.size (.cells #[.int .i64 0, .int .i64 0, .int .i64 1] 26)
  have p5 : Blk (w6.alloc (.cells #[.int .i64 0, .int .i64 0, .int .i64 1] 26)) w6.heap.size 26 #[.int .i64 0, .int .i64 0, .int .i64 1] := Blk.new _ _ _
  have hb07 := hb04.next hb47 (Nat.le_refl _)
  have s7 := s4.below hb47
  clear hb46 hb47 s4 hb04
  generalize hg5 : w6.heap.size = g5 at *
  generalize w6.alloc (.cells #[.int .i64 0, .int .i64 0, .int .i64 1] 26) = w7 at *
  refine (Five_spec w7).mono ?_
  rintro e w8 ⟨A8, rfl, s8, hb8⟩
  go_wp2_with fail
  refine (Five_spec w8).mono ?_
  rintro e w9 ⟨A9, rfl, s9, hb9⟩
  go_wp2_with fail
  refine (Differ_spec A8 Price.five 5 A9 Price.five 5 w9 (by decide) (by decide) (s8.below hb9) (by decide) (by decide) s9).mono ?_
  rintro e w10 ⟨rfl, hb10⟩
  rw [ex4]
  have hb710 := (hb8.next hb9 (Nat.le_refl _)).next hb10 (Nat.le_refl _)
  clear hb8 hb9 hb10 s8 s9
  go_wp2_with fail
  have hb711 := hb710.alloc hb710.size (.cells #[.int .i64 0, .int .i64 0, .int .i64 0] 26)
  clear hb710
  generalize w10.alloc (.cells #[.int .i64 0, .int .i64 0, .int .i64 0] 26) = w11 at *
  refine (Week_spec w11).mono ?_
  rintro e w12 ⟨Ab, As, rfl, sb, ss, hb12⟩
  have hb712 := hb711.next hb12 (Nat.le_refl _)
  clear hb711 hb12
  go_wp2_with fail
  have hb13 := hb712.alloc hb712.size (.cells #[iv 10, .slice Ab 2 2] 30)
  have p9 : Blk (w12.alloc (.cells #[iv 10, .slice Ab 2 2] 30)) w12.heap.size 30 #[iv 10, .slice Ab 2 2] := Blk.new _ _ _
  have sb3 := sb.alloc (.cells #[iv 10, .slice Ab 2 2] 30)
  have ss3 := ss.alloc (.cells #[iv 10, .slice Ab 2 2] 30)
  have hb013 := hb07.next hb13 (Nat.le_refl _)
  have p53 := p5.below hb13 p5.lt
  have s73 := s7.below hb13
  generalize hg9 : w12.heap.size = g9 at *
  generalize w12.alloc (.cells #[iv 10, .slice Ab 2 2] 30) = w13 at *
  clear hb712 sb ss hb07 hb13 p5 s7 hg5 hg9
  have HB : Hid (∀ W A, Below w13.heap.size w13 W → Sl ruleE W A Price.five → Calls Tryz.prog 55 #[.slice A Price.five.length 5, .agg #[iv 10, .slice Ab 2 2], .slice As Price.weekStock.length 4] W fun e w' => ∃ v, e = .returned (.tuple #[v, iv 3380, iv 0]) ∧ Below W.heap.size W w') := fun W A hW hA =>
    (Best_spec A Price.five 5 10 Ab [1, 2] 2 As Price.weekStock 4 W (by decide) (by decide) hA (by decide) (sb3.below hW) (by decide) (ss3.below hW)).mono fun e w' ⟨v, he, _, hb⟩ => ⟨v, by rw [he, ex5.elim (fun h => by rw [h]) (fun h => h)], hb⟩
  have HF : Hid (∀ W, Below w13.heap.size w13 W → W.cell? ⟨g9, 0, none⟩ = some (iv 10) ∧ W.cell? ⟨g9, 1, none⟩ = some (.slice Ab 2 2)) := fun W hW => ⟨(p9.under hW).cell 0, (p9.under hW).cell 1⟩
  have HP9 := Lib.hid p9
  clear p9
  have HK : Hid (∀ a wx : World, Below w13.heap.size w13 a → Below a.heap.size a wx → Below w13.heap.size w13 wx ∧ (wx.cell? ⟨g9, 0, none⟩ = some (iv 10) ∧ wx.cell? ⟨g9, 1, none⟩ = some (.slice Ab 2 2))) := fun a wx h hab => ⟨h.next hab (Nat.le_refl _), HF.out wx (h.next hab (Nat.le_refl _))⟩
  have HK0 : Hid (Below w13.heap.size w13 w13.drew ∧ (w13.drew.cell? ⟨g9, 0, none⟩ = some (iv 10) ∧ w13.drew.cell? ⟨g9, 1, none⟩ = some (.slice Ab 2 2))) := ⟨(Below.refl _ _).drew, HF.out w13.drew (Below.refl _ _).drew⟩
  go_region_held3 (fun a => Below w13.heap.size w13 a ∧ (a.cell? ⟨g9, 0, none⟩ = some (iv 10) ∧ a.cell? ⟨g9, 1, none⟩ = some (.slice Ab 2 2))) (first | exact HK0.out | exact HK.out _ _ (And.left ‹Below w13.heap.size w13 _ ∧ _›) (by assumption))
    (first
      | (go_at_call 4; refine (Five_spec _).mono ?_; rintro e w' ⟨A, rfl, sA, hbx⟩)
      | (go_at_call 55; refine (HB.out _ _ (And.left ‹Below w13.heap.size w13 _ ∧ _›) (by assumption)).mono ?_; rintro e w' ⟨v, rfl, hbx⟩))
  have hS := (And.left ‹Below w13.heap.size w13 w' ∧ _›)
  clear HB HK HK0
  obtain ⟨w14, rfl⟩ : ∃ w14 : World, w14 = w' := ⟨_, rfl⟩
  have HX : Hid (∀ W A A2, Below w14.heap.size w14 W → Sl ruleE W A Price.five → Sl intE W A2 [1, 1, 0, -1] → Calls Tryz.prog 52 #[.slice A Price.five.length 5, .agg #[iv 10, .slice Ab 2 2], .slice As Price.weekStock.length 4, .slice A2 4 4] W fun e w' => e = .returned (.tuple #[iv 0, iv 2, iv 0]) ∧ Below W.heap.size W w') := fun W A A2 hW hA h2 =>
    (Exchange_spec A Price.five 5 10 Ab [1, 2] 2 As Price.weekStock 4 W (by decide) (by decide) hA (by decide) (sb3.below (hS.next hW (Nat.le_refl _))) (by decide) (ss3.below (hS.next hW (Nat.le_refl _))) A2 [1, 1, 0, -1] 4 (by decide) h2).mono fun e w' ⟨he, hb⟩ => ⟨by rw [he, ex6], hb⟩
  have HK : Hid (∀ a wx : World, Below w14.heap.size w14 a → Below a.heap.size a wx → Below w14.heap.size w14 wx ∧ (wx.cell? ⟨g9, 0, none⟩ = some (iv 10) ∧ wx.cell? ⟨g9, 1, none⟩ = some (.slice Ab 2 2))) := fun a wx h hab => ⟨h.next hab (Nat.le_refl _), HF.out wx (hS.next (h.next hab (Nat.le_refl _)) (Nat.le_refl _))⟩
  have HK0 : Hid (Below w14.heap.size w14 w14.drew ∧ (w14.drew.cell? ⟨g9, 0, none⟩ = some (iv 10) ∧ w14.drew.cell? ⟨g9, 1, none⟩ = some (.slice Ab 2 2))) := ⟨(Below.refl _ _).drew, HF.out w14.drew hS.drew⟩
  go_wp2_with fail
  go_region_held3 (fun a => Below w14.heap.size w14 a ∧ (a.cell? ⟨g9, 0, none⟩ = some (iv 10) ∧ a.cell? ⟨g9, 1, none⟩ = some (.slice Ab 2 2))) (first | exact HK0.out | exact HK.out _ _ (And.left ‹Below w14.heap.size w14 _ ∧ _›) (by first | assumption | exact (Below.refl _ _).alloc (Nat.le_refl _) _))
    (first
      | (go_at_call 4; refine (Five_spec _).mono ?_; rintro e w' ⟨A, rfl, sA, hbx⟩)
      | (go_at_call 52; refine (HX.out _ _ _ (And.left ‹Below w14.heap.size w14 _ ∧ _›) (by first | assumption | exact Sl.alloc (by assumption) _) (by first | exact Sl.fresh intE _ 3 #[.int .i64 1, .int .i64 1, .int .i64 0, .int .i64 (-1)] [1, 1, 0, -1] rfl (by decide) | exact (Sl.fresh intE w14.drew 3 #[.int .i64 1, .int .i64 1, .int .i64 0, .int .i64 (-1)] [1, 1, 0, -1] rfl (by decide)).below (by assumption))).mono ?_; rintro e w' ⟨rfl, hbx⟩))
  all_goals
    have hS2 := (And.left ‹Below w14.heap.size w14 w' ∧ _›)
    clear HX HK HK0
    have hS13 := hS.next hS2 (Nat.le_refl _)
    clear hS hS2
    obtain ⟨w15, rfl⟩ : ∃ w15 : World, w15 = w' := ⟨_, rfl⟩
    have HX : Hid (∀ W A A2, Below w15.heap.size w15 W → Sl ruleE W A Price.five → Sl intE W A2 [0, -1, 1, -1] → Calls Tryz.prog 53 #[.slice A Price.five.length 5, .agg #[iv 10, .slice Ab 2 2], .slice As Price.weekStock.length 4, .slice A2 4 4] W fun e w' => e = .returned (.tuple #[iv 1, iv 1, iv 0]) ∧ Below W.heap.size W w') := fun W A A2 hW hA h2 =>
      (Move_spec A Price.five 5 10 Ab [1, 2] 2 As Price.weekStock 4 W (by decide) (by decide) hA (by decide) (sb3.below (hS13.next hW (Nat.le_refl _))) (by decide) (ss3.below (hS13.next hW (Nat.le_refl _))) A2 [0, -1, 1, -1] 4 (by decide) h2).mono fun e w' ⟨he, hb⟩ => ⟨by rw [he, ex7], hb⟩
    have HK : Hid (∀ a wx : World, Below w15.heap.size w15 a → Below a.heap.size a wx → Below w15.heap.size w15 wx ∧ (wx.cell? ⟨g9, 0, none⟩ = some (iv 10) ∧ wx.cell? ⟨g9, 1, none⟩ = some (.slice Ab 2 2))) := fun a wx h hab => ⟨h.next hab (Nat.le_refl _), HF.out wx (hS13.next (h.next hab (Nat.le_refl _)) (Nat.le_refl _))⟩
    have HK0 : Hid (Below w15.heap.size w15 w15.drew ∧ (w15.drew.cell? ⟨g9, 0, none⟩ = some (iv 10) ∧ w15.drew.cell? ⟨g9, 1, none⟩ = some (.slice Ab 2 2))) := ⟨(Below.refl _ _).drew, HF.out w15.drew hS13.drew⟩
    go_wp2_with fail
    go_region_held3 (fun a => Below w15.heap.size w15 a ∧ (a.cell? ⟨g9, 0, none⟩ = some (iv 10) ∧ a.cell? ⟨g9, 1, none⟩ = some (.slice Ab 2 2))) (first | exact HK0.out | exact HK.out _ _ (And.left ‹Below w15.heap.size w15 _ ∧ _›) (by first | assumption | exact (Below.refl _ _).alloc (Nat.le_refl _) _))
      (first
        | (go_at_call 4; refine (Five_spec _).mono ?_; rintro e w' ⟨A, rfl, sA, hbx⟩)
        | (go_at_call 53; refine (HX.out _ _ _ (And.left ‹Below w15.heap.size w15 _ ∧ _›) (by first | assumption | exact Sl.alloc (by assumption) _) (by first | exact Sl.fresh intE _ 3 #[.int .i64 0, .int .i64 (-1), .int .i64 1, .int .i64 (-1)] [0, -1, 1, -1] rfl (by decide) | exact (Sl.fresh intE w15.drew 3 #[.int .i64 0, .int .i64 (-1), .int .i64 1, .int .i64 (-1)] [0, -1, 1, -1] rfl (by decide)).below (by assumption))).mono ?_; rintro e w' ⟨rfl, hbx⟩))
    all_goals
      have hS2 := (And.left ‹Below w15.heap.size w15 w' ∧ _›)
      clear HX HK HK0
      have hT := hS13.next hS2 (Nat.le_refl _)
      obtain ⟨w16, rfl⟩ : ∃ w16 : World, w16 = w' := ⟨_, rfl⟩
      clear hS13 hS2
      have s16 := s73.below hT
      have p16 := (p53.below hT (Nat.lt_of_lt_of_le p53.lt (Nat.le_refl _)))
      have c16 := p16.cell
      have hz16 := p16.lt
      go_wp2_with fail
      refine (eqP A4 [⟨0, 2, 1⟩, ⟨2, 2, 1⟩, ⟨3, 2, 1⟩] c4 (some ⟨w16.heap.size, 0, none⟩) [⟨0, 2, 1⟩, ⟨2, 2, 1⟩, ⟨3, 2, 1⟩] 3 _ (by decide) (s16.alloc _) (by decide) (Sl.fresh pieceE w16 _ _ _ rfl (by decide))).mono ?_
      rintro e w17 ⟨rfl, hb17⟩
      rw [decide_eq_true rfl]
      have p17 := (p16.alloc _).under hb17
      have c17 := p17.cell
      have hb17' := hb17.of_alloc
      have heq : ∀ w, (Op.equalIn 10000 26 (.agg #[.int .i64 0, .int .i64 0, .int .i64 1]) (.agg #[.int .i64 0, .int .i64 0, .int .i64 1])).run Tryz.prog w = .ok true w := fun w => eqPiece 0 0 1 0 0 1 w
      clear c16 p16 s16 p53 s73 sb3 ss3
      go_wp2_with fail
      go_ret
      exact ⟨rfl, (hb013.next hT (Nat.le_refl _)).next hb17' (Nat.le_refl _)⟩
end Go.Proofs.YtkailkfiakagfaaGreat
-- The kit's spool: each number is from 0 to 65535.
namespace Go.Proofs.YtkailkfiakagfaaGreat
open Go.RowKit Go.Shelf
set_option maxRecDepth 100000

theorem bits_mask (x : Int) : ∃ r : Nat, bits .and .i64 x 65535 = (r : Int) ∧ r ≤ 65535 := by
  have h : (BitVec.ofInt 64 x &&& BitVec.ofInt 64 65535).toNat ≤ 65535 := by
    rw [BitVec.toNat_and]
    exact Nat.le_trans Nat.and_le_right (by decide)
  refine ⟨(BitVec.ofInt 64 x &&& BitVec.ofInt 64 65535).toNat, ?_, h⟩
  show IntKind.i64.wrap (((BitVec.ofInt 64 x &&& BitVec.ofInt 64 65535).toNat : Nat) : Int) = _
  exact IntWalk.i64_in _ (by omega)
/-- Block g alone has turned. -/
structure Only (g : Nat) (w w' : World) : Prop where
  below : Below g w w'
  other : ∀ b, b < w.heap.size → b ≠ g → w'.heap[b]? = w.heap[b]?
theorem Only.refl (g : Nat) (w : World) : Only g w w := ⟨Below.refl _ _, fun _ _ _ => rfl⟩
theorem Only.trans {g : Nat} {a b c : World} (h : Only g a b) (k : Only g b c) : Only g a c := ⟨h.below.trans k.below, fun i hi hg => (k.other i (Nat.lt_of_lt_of_le hi h.below.size) hg).trans (h.other i hi hg)⟩
theorem Only.set_ (g o : Nat) (w : World) (v : Value) : Only g w (w.setCell ⟨g, o, none⟩ v) := ⟨(Below.refl g w).setCell (p := ⟨g, o, none⟩) (Nat.le_refl _) v, fun b _ hb => Below.heap_setCell w ⟨g, o, none⟩ v b hb⟩
theorem Only.drew {g : Nat} {w w' : World} (h : Only g w w') : Only g w w'.drew := ⟨h.below.drew, h.other⟩
def byteE : Enc Int := ⟨fun x => [.int .u8 x], 1, fun _ => rfl, fun _ u h => by simp at h; subst h; rfl, by decide⟩
theorem Only.setCell {g : Nat} {w w' : World} (h : Only g w w') {p : Addr} (hg : g ≤ p.block) (hp : w.heap.size ≤ p.block) (v : Value) : Only g w (w'.setCell p v) :=
  ⟨h.below.setCell hg v, fun b hb hne => (Below.heap_setCell w' p v b (by omega)).trans (h.other b hb hne)⟩
theorem Only.next {g B : Nat} {w w1 w2 : World} (h : Only g w w1) (hb : Below B w1 w2) (hg : g ≤ B) (hB : w.heap.size ≤ B) : Only g w w2 :=
  ⟨h.below.trans (hb.mono hg), fun b hl hne => (hb.block b (by omega)).trans (h.other b hl hne)⟩
end Go.Proofs.YtkailkfiakagfaaGreat
-- The kit's spool: Upto, From, Once. Conditions: fewer than 2^62 numbers, limits below 2^40.
namespace Go.Proofs.YtkailkfiakagfaaGreat
open Go.RowKit Go.Shelf
set_option maxRecDepth 100000

end Go.Proofs.YtkailkfiakagfaaGreat
