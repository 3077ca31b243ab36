/- awake: the examples of the chapter. No condition. -/
import Derived.Test.YtblmlpkjocbhpaaPriceS
set_option linter.unusedVariables false
set_option linter.unusedSimpArgs false
namespace Go.Proofs.Ytblmlpkjocbhpaa
open Go.RowKit Go.Shelf
set_option maxRecDepth 100000

theorem ex1 : Price.price Price.five ⟨1, 2, 1⟩ = (14, 0) := by decide +kernel
theorem ex2 : Price.erringOf Price.five 7 = ([⟨0, 2, 1⟩, ⟨2, 2, 1⟩, ⟨3, 2, 1⟩], 0) := by decide +kernel
theorem ex3 : Price.witnessOf Price.five 4 = (⟨0, 0, 1⟩, 0) := by decide +kernel
theorem ex4 : Price.differOf Price.five Price.five = (⟨0, 0, 0⟩, 6) := by decide +kernel
theorem ex5 : Price.bestOf Price.five 10 [1, 2] Price.weekStock = ([0, -1, 1, 1], 3380, 0) ∨ (Price.bestOf Price.five 10 [1, 2] Price.weekStock).2 = (3380, 0) := by decide +kernel
theorem ex6 : Price.exchangeOf Price.five 10 [1, 2] Price.weekStock [1, 1, 0, -1] = (0, 2, 0) := by decide +kernel
theorem ex7 : Price.moveOf Price.five 10 [1, 2] Price.weekStock [0, -1, 1, -1] = (1, 1, 0) := by decide +kernel
set_option maxHeartbeats 8000000 in
theorem awake_spec (w : World) : Calls Try.prog 20 #[] w fun e w' => e = .returned (.bool true) ∧ Below w.heap.size w w' := by
  go_enter Try.func20, Try.ntmps20
  go_wp2_with fail
  refine (Five_spec w).mono ?_
  rintro e w1 ⟨A1, rfl, s1, hb1⟩
  go_wp2_with fail
  refine (price_spec A1 Price.five 5 ⟨1, 2, 1⟩ w1 (by decide) (by decide) s1).mono ?_
  rintro e w2 ⟨rfl, hb2⟩
  rw [ex1]
  go_wp2_with fail
  refine (Five_spec w2).mono ?_
  rintro e w3 ⟨A3, rfl, s3, hb3⟩
  go_wp2_with fail
  refine (Torn_spec A3 Price.five 5 w3 (by decide) (by decide) s3).mono ?_
  rintro e w4 ⟨v4, rfl, o4, hb4⟩
  rw [ex2] at o4 ⊢
  obtain ⟨A4, c4, rfl, _, _⟩ := o4.form
  have hb04 : Below w.heap.size w w4 := ((hb1.next hb2 (Nat.le_refl _)).next hb3 (Nat.le_refl _)).next hb4 (Nat.le_refl _)
  have s4 := o4.sl
  clear hb1 hb2 hb3 hb4 s1 s3 o4
  go_wp2_with fail
  refine (Five_spec w4).mono ?_
  rintro e w5 ⟨A5, rfl, s5, hb5⟩
  go_wp2_with fail
  refine (Witness_spec A5 Price.five 5 4 w5 (by decide) (by decide) s5 (by decide)).mono ?_
  rintro e w6 ⟨rfl, hb6⟩
  rw [ex3]
  have hb46 : Below w4.heap.size w4 w6 := hb5.next hb6 (Nat.le_refl _)
  clear hb5 hb6 s5
  go_wp2_with fail
  have hb47 := hb46.alloc hb46.size (.cells #[.int .i64 0, .int .i64 0, .int .i64 1] 42)
  have p5 : Blk (w6.alloc (.cells #[.int .i64 0, .int .i64 0, .int .i64 1] 42)) w6.heap.size 42 #[.int .i64 0, .int .i64 0, .int .i64 1] := Blk.new _ _ _
  have hb07 := hb04.next hb47 (Nat.le_refl _)
  have s7 := s4.below hb47
  clear hb46 hb47 s4 hb04
  generalize hg5 : w6.heap.size = g5 at *
  generalize w6.alloc (.cells #[.int .i64 0, .int .i64 0, .int .i64 1] 42) = w7 at *
  refine (Five_spec w7).mono ?_
  rintro e w8 ⟨A8, rfl, s8, hb8⟩
  go_wp2_with fail
  refine (Five_spec w8).mono ?_
  rintro e w9 ⟨A9, rfl, s9, hb9⟩
  go_wp2_with fail
  refine (Differ_spec A8 Price.five 5 A9 Price.five 5 w9 (by decide) (by decide) (s8.below hb9) (by decide) (by decide) s9).mono ?_
  rintro e w10 ⟨rfl, hb10⟩
  rw [ex4]
  have hb710 := (hb8.next hb9 (Nat.le_refl _)).next hb10 (Nat.le_refl _)
  clear hb8 hb9 hb10 s8 s9
  go_wp2_with fail
  have hb711 := hb710.alloc hb710.size (.cells #[.int .i64 0, .int .i64 0, .int .i64 0] 42)
  clear hb710
  generalize w10.alloc (.cells #[.int .i64 0, .int .i64 0, .int .i64 0] 42) = w11 at *
  refine (Week_spec w11).mono ?_
  rintro e w12 ⟨Ab, As, rfl, sb, ss, hb12⟩
  have hb712 := hb711.next hb12 (Nat.le_refl _)
  clear hb711 hb12
  go_wp2_with fail
  have hb13 := hb712.alloc hb712.size (.cells #[iv 10, .slice Ab 2 2] 31)
  have p9 : Blk (w12.alloc (.cells #[iv 10, .slice Ab 2 2] 31)) w12.heap.size 31 #[iv 10, .slice Ab 2 2] := Blk.new _ _ _
  have sb3 := sb.alloc (.cells #[iv 10, .slice Ab 2 2] 31)
  have ss3 := ss.alloc (.cells #[iv 10, .slice Ab 2 2] 31)
  have hb013 := hb07.next hb13 (Nat.le_refl _)
  have p53 := p5.below hb13 p5.lt
  have s73 := s7.below hb13
  generalize hg9 : w12.heap.size = g9 at *
  generalize w12.alloc (.cells #[iv 10, .slice Ab 2 2] 31) = w13 at *
  clear hb712 sb ss hb07 hb13 p5 s7 hg5 hg9
  have HB : Hid (∀ W A, Below w13.heap.size w13 W → Sl ruleE W A Price.five → Calls Try.prog 18 #[.slice A Price.five.length 5, .agg #[iv 10, .slice Ab 2 2], .slice As Price.weekStock.length 4] W fun e w' => ∃ v, e = .returned (.tuple #[v, iv 3380, iv 0]) ∧ Below W.heap.size W w') := fun W A hW hA =>
    (Best_spec A Price.five 5 10 Ab [1, 2] 2 As Price.weekStock 4 W (by decide) (by decide) hA (by decide) (sb3.below hW) (by decide) (ss3.below hW)).mono fun e w' ⟨v, he, _, hb⟩ => ⟨v, by rw [he, ex5.elim (fun h => by rw [h]) (fun h => h)], hb⟩
  have HF : Hid (∀ W, Below w13.heap.size w13 W → W.cell? ⟨g9, 0, none⟩ = some (iv 10) ∧ W.cell? ⟨g9, 1, none⟩ = some (.slice Ab 2 2)) := fun W hW => ⟨(p9.under hW).cell 0, (p9.under hW).cell 1⟩
  have HP9 := Lib.hid p9
  clear p9
  have HK : Hid (∀ a wx : World, Below w13.heap.size w13 a → Below a.heap.size a wx → Below w13.heap.size w13 wx ∧ (wx.cell? ⟨g9, 0, none⟩ = some (iv 10) ∧ wx.cell? ⟨g9, 1, none⟩ = some (.slice Ab 2 2))) := fun a wx h hab => ⟨h.next hab (Nat.le_refl _), HF.out wx (h.next hab (Nat.le_refl _))⟩
  have HK0 : Hid (Below w13.heap.size w13 w13.drew ∧ (w13.drew.cell? ⟨g9, 0, none⟩ = some (iv 10) ∧ w13.drew.cell? ⟨g9, 1, none⟩ = some (.slice Ab 2 2))) := ⟨(Below.refl _ _).drew, HF.out w13.drew (Below.refl _ _).drew⟩
  go_region_held3 (fun a => Below w13.heap.size w13 a ∧ (a.cell? ⟨g9, 0, none⟩ = some (iv 10) ∧ a.cell? ⟨g9, 1, none⟩ = some (.slice Ab 2 2))) (first | exact HK0.out | exact HK.out _ _ (And.left ‹Below w13.heap.size w13 _ ∧ _›) (by assumption))
    (first
      | (go_at_call 87; refine (Five_spec _).mono ?_; rintro e w' ⟨A, rfl, sA, hbx⟩)
      | (go_at_call 18; refine (HB.out _ _ (And.left ‹Below w13.heap.size w13 _ ∧ _›) (by assumption)).mono ?_; rintro e w' ⟨v, rfl, hbx⟩))
  have hS := (And.left ‹Below w13.heap.size w13 w' ∧ _›)
  clear HB HK HK0
  obtain ⟨w14, rfl⟩ : ∃ w14 : World, w14 = w' := ⟨_, rfl⟩
  have HX : Hid (∀ W A A2, Below w14.heap.size w14 W → Sl ruleE W A Price.five → Sl intE W A2 [1, 1, 0, -1] → Calls Try.prog 43 #[.slice A Price.five.length 5, .agg #[iv 10, .slice Ab 2 2], .slice As Price.weekStock.length 4, .slice A2 4 4] W fun e w' => e = .returned (.tuple #[iv 0, iv 2, iv 0]) ∧ Below W.heap.size W w') := fun W A A2 hW hA h2 =>
    (Exchange_spec A Price.five 5 10 Ab [1, 2] 2 As Price.weekStock 4 W (by decide) (by decide) hA (by decide) (sb3.below (hS.next hW (Nat.le_refl _))) (by decide) (ss3.below (hS.next hW (Nat.le_refl _))) A2 [1, 1, 0, -1] 4 (by decide) h2).mono fun e w' ⟨he, hb⟩ => ⟨by rw [he, ex6], hb⟩
  have HK : Hid (∀ a wx : World, Below w14.heap.size w14 a → Below a.heap.size a wx → Below w14.heap.size w14 wx ∧ (wx.cell? ⟨g9, 0, none⟩ = some (iv 10) ∧ wx.cell? ⟨g9, 1, none⟩ = some (.slice Ab 2 2))) := fun a wx h hab => ⟨h.next hab (Nat.le_refl _), HF.out wx (hS.next (h.next hab (Nat.le_refl _)) (Nat.le_refl _))⟩
  have HK0 : Hid (Below w14.heap.size w14 w14.drew ∧ (w14.drew.cell? ⟨g9, 0, none⟩ = some (iv 10) ∧ w14.drew.cell? ⟨g9, 1, none⟩ = some (.slice Ab 2 2))) := ⟨(Below.refl _ _).drew, HF.out w14.drew hS.drew⟩
  go_wp2_with fail
  go_region_held3 (fun a => Below w14.heap.size w14 a ∧ (a.cell? ⟨g9, 0, none⟩ = some (iv 10) ∧ a.cell? ⟨g9, 1, none⟩ = some (.slice Ab 2 2))) (first | exact HK0.out | exact HK.out _ _ (And.left ‹Below w14.heap.size w14 _ ∧ _›) (by first | assumption | exact (Below.refl _ _).alloc (Nat.le_refl _) _))
    (first
      | (go_at_call 87; refine (Five_spec _).mono ?_; rintro e w' ⟨A, rfl, sA, hbx⟩)
      | (go_at_call 43; refine (HX.out _ _ _ (And.left ‹Below w14.heap.size w14 _ ∧ _›) (by first | assumption | exact Sl.alloc (by assumption) _) (by first | exact Sl.fresh intE _ 3 #[.int .i64 1, .int .i64 1, .int .i64 0, .int .i64 (-1)] [1, 1, 0, -1] rfl (by decide) | exact (Sl.fresh intE w14.drew 3 #[.int .i64 1, .int .i64 1, .int .i64 0, .int .i64 (-1)] [1, 1, 0, -1] rfl (by decide)).below (by assumption))).mono ?_; rintro e w' ⟨rfl, hbx⟩))
  all_goals
    have hS2 := (And.left ‹Below w14.heap.size w14 w' ∧ _›)
    clear HX HK HK0
    have hS13 := hS.next hS2 (Nat.le_refl _)
    clear hS hS2
    obtain ⟨w15, rfl⟩ : ∃ w15 : World, w15 = w' := ⟨_, rfl⟩
    have HX : Hid (∀ W A A2, Below w15.heap.size w15 W → Sl ruleE W A Price.five → Sl intE W A2 [0, -1, 1, -1] → Calls Try.prog 44 #[.slice A Price.five.length 5, .agg #[iv 10, .slice Ab 2 2], .slice As Price.weekStock.length 4, .slice A2 4 4] W fun e w' => e = .returned (.tuple #[iv 1, iv 1, iv 0]) ∧ Below W.heap.size W w') := fun W A A2 hW hA h2 =>
      (Move_spec A Price.five 5 10 Ab [1, 2] 2 As Price.weekStock 4 W (by decide) (by decide) hA (by decide) (sb3.below (hS13.next hW (Nat.le_refl _))) (by decide) (ss3.below (hS13.next hW (Nat.le_refl _))) A2 [0, -1, 1, -1] 4 (by decide) h2).mono fun e w' ⟨he, hb⟩ => ⟨by rw [he, ex7], hb⟩
    have HK : Hid (∀ a wx : World, Below w15.heap.size w15 a → Below a.heap.size a wx → Below w15.heap.size w15 wx ∧ (wx.cell? ⟨g9, 0, none⟩ = some (iv 10) ∧ wx.cell? ⟨g9, 1, none⟩ = some (.slice Ab 2 2))) := fun a wx h hab => ⟨h.next hab (Nat.le_refl _), HF.out wx (hS13.next (h.next hab (Nat.le_refl _)) (Nat.le_refl _))⟩
    have HK0 : Hid (Below w15.heap.size w15 w15.drew ∧ (w15.drew.cell? ⟨g9, 0, none⟩ = some (iv 10) ∧ w15.drew.cell? ⟨g9, 1, none⟩ = some (.slice Ab 2 2))) := ⟨(Below.refl _ _).drew, HF.out w15.drew hS13.drew⟩
    go_wp2_with fail
    go_region_held3 (fun a => Below w15.heap.size w15 a ∧ (a.cell? ⟨g9, 0, none⟩ = some (iv 10) ∧ a.cell? ⟨g9, 1, none⟩ = some (.slice Ab 2 2))) (first | exact HK0.out | exact HK.out _ _ (And.left ‹Below w15.heap.size w15 _ ∧ _›) (by first | assumption | exact (Below.refl _ _).alloc (Nat.le_refl _) _))
      (first
        | (go_at_call 87; refine (Five_spec _).mono ?_; rintro e w' ⟨A, rfl, sA, hbx⟩)
        | (go_at_call 44; refine (HX.out _ _ _ (And.left ‹Below w15.heap.size w15 _ ∧ _›) (by first | assumption | exact Sl.alloc (by assumption) _) (by first | exact Sl.fresh intE _ 3 #[.int .i64 0, .int .i64 (-1), .int .i64 1, .int .i64 (-1)] [0, -1, 1, -1] rfl (by decide) | exact (Sl.fresh intE w15.drew 3 #[.int .i64 0, .int .i64 (-1), .int .i64 1, .int .i64 (-1)] [0, -1, 1, -1] rfl (by decide)).below (by assumption))).mono ?_; rintro e w' ⟨rfl, hbx⟩))
    all_goals
      have hS2 := (And.left ‹Below w15.heap.size w15 w' ∧ _›)
      clear HX HK HK0
      have hT := hS13.next hS2 (Nat.le_refl _)
      obtain ⟨w16, rfl⟩ : ∃ w16 : World, w16 = w' := ⟨_, rfl⟩
      clear hS13 hS2
      have s16 := s73.below hT
      have p16 := (p53.below hT (Nat.lt_of_lt_of_le p53.lt (Nat.le_refl _)))
      have c16 := p16.cell
      have hz16 := p16.lt
      go_wp2_with fail
      refine (eqP A4 [⟨0, 2, 1⟩, ⟨2, 2, 1⟩, ⟨3, 2, 1⟩] c4 (some ⟨w16.heap.size, 0, none⟩) [⟨0, 2, 1⟩, ⟨2, 2, 1⟩, ⟨3, 2, 1⟩] 3 _ (by decide) (s16.alloc _) (by decide) (Sl.fresh pieceE w16 _ _ _ rfl (by decide))).mono ?_
      rintro e w17 ⟨rfl, hb17⟩
      rw [decide_eq_true rfl]
      have p17 := (p16.alloc _).under hb17
      have c17 := p17.cell
      have hb17' := hb17.of_alloc
      have heq : ∀ w, (Op.equalIn 10000 42 (.agg #[.int .i64 0, .int .i64 0, .int .i64 1]) (.agg #[.int .i64 0, .int .i64 0, .int .i64 1])).run Try.prog w = .ok true w := fun w => eqPiece 0 0 1 0 0 1 w
      clear c16 p16 s16 p53 s73 sb3 ss3
      go_wp2_with fail
      go_ret
      exact ⟨rfl, (hb013.next hT (Nat.le_refl _)).next hb17' (Nat.le_refl _)⟩
end Go.Proofs.Ytblmlpkjocbhpaa
-- The kit's spool: each number is from 0 to 65535.
namespace Go.Proofs.Ytblmlpkjocbhpaa
open Go.RowKit Go.Shelf
set_option maxRecDepth 100000

theorem bits_mask (x : Int) : ∃ r : Nat, bits .and .i64 x 65535 = (r : Int) ∧ r ≤ 65535 := by
  have h : (BitVec.ofInt 64 x &&& BitVec.ofInt 64 65535).toNat ≤ 65535 := by
    rw [BitVec.toNat_and]
    exact Nat.le_trans Nat.and_le_right (by decide)
  refine ⟨(BitVec.ofInt 64 x &&& BitVec.ofInt 64 65535).toNat, ?_, h⟩
  show IntKind.i64.wrap (((BitVec.ofInt 64 x &&& BitVec.ofInt 64 65535).toNat : Nat) : Int) = _
  exact IntWalk.i64_in _ (by omega)
/-- Block g alone has turned. -/
structure Only (g : Nat) (w w' : World) : Prop where
  below : Below g w w'
  other : ∀ b, b < w.heap.size → b ≠ g → w'.heap[b]? = w.heap[b]?
theorem Only.refl (g : Nat) (w : World) : Only g w w := ⟨Below.refl _ _, fun _ _ _ => rfl⟩
theorem Only.trans {g : Nat} {a b c : World} (h : Only g a b) (k : Only g b c) : Only g a c := ⟨h.below.trans k.below, fun i hi hg => (k.other i (Nat.lt_of_lt_of_le hi h.below.size) hg).trans (h.other i hi hg)⟩
theorem Only.set_ (g o : Nat) (w : World) (v : Value) : Only g w (w.setCell ⟨g, o, none⟩ v) := ⟨(Below.refl g w).setCell (p := ⟨g, o, none⟩) (Nat.le_refl _) v, fun b _ hb => Below.heap_setCell w ⟨g, o, none⟩ v b hb⟩
theorem Only.drew {g : Nat} {w w' : World} (h : Only g w w') : Only g w w'.drew := ⟨h.below.drew, h.other⟩
theorem turn_nil (w : World) (g : Nat) (A : Option Addr) (c k : Nat) (st : Int) (h : Blk w g 133 #[.slice A 0 c, iv k, .int .u64 st]) (hk : k < 4611686018427387904) :
    Calls Try.prog 80 #[.pointer (some ⟨g, 0, none⟩)] w fun e w' => ∃ (r : Nat) (st' : Int), e = .returned (iv r) ∧ r ≤ 65535 ∧ Blk w' g 133 #[.slice A 0 c, iv (k + 1 : Nat), .int .u64 st'] ∧ Only g w w' := by
  have h0 := h.cell 0
  have h1 := h.cell 1
  have h2 := h.cell 2
  have f1 := h.frozen
  have hk1 : IntKind.i64.wrap ((k : Int) + 1) = ((k + 1 : Nat) : Int) := IntWalk.i64_in _ (by omega)
  have hk3 : (0 : Int) < (k : Int) + 1 := by omega
  have HH := Lib.hid h
  clear h
  go_enter Try.func80, Try.ntmps80
  go_wp2
  go_region
  go_wp2
  go_region
  go_wp2
  obtain ⟨r, hr, hr2⟩ := bits_mask (wrap64 (bits .xor .u64 (IntKind.u64.wrap (IntKind.u64.wrap (st * 1103515245) + 12345) / 8) (IntKind.u64.wrap (IntKind.u64.wrap (st * 1103515245) + 12345) / 524288)))
  rw [hr]
  go_ret
  refine ⟨r, _, rfl, hr2, (HH.out.set_ 1 (.int .i64 ((k : Int) + 1))).set_ 2 (.int .u64 (IntKind.u64.wrap (IntKind.u64.wrap (st * 1103515245) + 12345))), ((Only.set_ g 1 w _).trans (Only.set_ g 2 _ _)).drew.drew⟩
def byteE : Enc Int := ⟨fun x => [.int .u8 x], 1, fun _ => rfl, fun _ u h => by simp at h; subst h; rfl, by decide⟩
theorem turn_cons (w : World) (g : Nat) (b off n c k : Nat) (y st : Int) (h : Blk w g 133 #[.slice (some ⟨b, off, none⟩) n c, iv k, .int .u64 st]) (hk : k < 4611686018427387904) (hn : 0 < n) (hy : w.cell? ⟨b, off + k % n, none⟩ = some (.int .u8 y)) (hbg : b ≠ g) :
    Calls Try.prog 80 #[.pointer (some ⟨g, 0, none⟩)] w fun e w' => ∃ (r : Nat) (st' : Int), e = .returned (iv r) ∧ r ≤ 65535 ∧ Blk w' g 133 #[.slice (some ⟨b, off, none⟩) n c, iv (k + 1 : Nat), .int .u64 st'] ∧ Only g w w' := by
  have h0 := h.cell 0
  have h1 := h.cell 1
  have h2 := h.cell 2
  have f1 := h.frozen
  have hk1 : IntKind.i64.wrap ((k : Int) + 1) = ((k + 1 : Nat) : Int) := IntWalk.i64_in _ (by omega)
  have hn' : (0 : Int) < (n : Int) := by omega
  have hn0 : ¬ (n : Int) = 0 := by omega
  have hm : (k : Int).tmod (n : Int) = ((k % n : Nat) : Int) := by rw [Int.tmod_eq_emod_of_nonneg (by omega)]; rfl
  have hlt : k % n < n := Nat.mod_lt _ hn
  have hgb : ¬ g = b := fun e => hbg e.symm
  have HH := Lib.hid h
  clear h
  by_cases hkn : (n : Int) < (k : Int) + 1
  · go_enter Try.func80, Try.ntmps80
    go_wp2
    go_region
    go_wp2
    go_region
    go_wp2
    go_region
    go_wp2
    go_ret
    refine ⟨(bits_mask _).choose, IntKind.u64.wrap (IntKind.u64.wrap (IntKind.u64.wrap (st + IntKind.u64.wrap (IntKind.u64.wrap y * 977)) * 1103515245) + 12345), ret_eq (congrArg (Value.int .i64) (bits_mask _).choose_spec.1), (bits_mask _).choose_spec.2, ?b, ?o⟩
    case b => exact ((HH.out.set_ 2 (.int .u64 (IntKind.u64.wrap (st + IntKind.u64.wrap (IntKind.u64.wrap y * 977))))).set_ 1 (.int .i64 ((k : Int) + 1))).set_ 2 (.int .u64 (IntKind.u64.wrap (IntKind.u64.wrap (IntKind.u64.wrap (st + IntKind.u64.wrap (IntKind.u64.wrap y * 977)) * 1103515245) + 12345)))
    case o => exact (((Only.set_ g 2 w _).trans (Only.set_ g 1 _ _)).trans (Only.set_ g 2 _ _)).drew.drew.drew
  · have hkm : ¬ (n : Int) < ((k + 1 : Nat) : Int) := by omega
    go_enter Try.func80, Try.ntmps80
    go_wp2
    go_region
    go_wp2
    go_region
    go_wp2
    go_region
    go_wp2
    go_ret
    refine ⟨(bits_mask _).choose, IntKind.u64.wrap (st + IntKind.u64.wrap (IntKind.u64.wrap y * 977)), ret_eq (congrArg (Value.int .i64) (bits_mask _).choose_spec.1), (bits_mask _).choose_spec.2, ?b, ?o⟩
    case b => exact (HH.out.set_ 2 (.int .u64 (IntKind.u64.wrap (st + IntKind.u64.wrap (IntKind.u64.wrap y * 977))))).set_ 1 (.int .i64 ((k : Int) + 1))
    case o => exact ((Only.set_ g 2 w _).trans (Only.set_ g 1 _ _)).drew.drew.drew
/-- Block g is a spool that has given k numbers; it and its bytes lie below B. -/
def IsSpool (B : Nat) (w : World) (g k : Nat) : Prop := g < B ∧ B ≤ w.heap.size ∧ ∃ A n c st, Blk w g 133 #[.slice A n c, iv k, .int .u64 st] ∧ (0 < n → ∃ b off, A = some ⟨b, off, none⟩ ∧ b ≠ g ∧ b < B ∧ ∀ i, i < n → ∃ y, w.cell? ⟨b, off + i, none⟩ = some (.int .u8 y))
theorem IsSpool.keep {B : Nat} {w w' : World} {g k : Nat} (h : IsSpool B w g k) (hz : w.heap.size ≤ w'.heap.size) (hk : ∀ b, b < B → w'.heap[b]? = w.heap[b]?) : IsSpool B w' g k := by
  obtain ⟨hg, hB, A, n, c, st, hb, hs⟩ := h
  refine ⟨hg, Nat.le_trans hB hz, A, n, c, st, (hk g hg).trans hb, fun hn => ?_⟩
  obtain ⟨b, off, hA, hbg, hbl, hc⟩ := hs hn
  refine ⟨b, off, hA, hbg, hbl, fun i hi => ?_⟩
  obtain ⟨y, hy⟩ := hc i hi
  exact ⟨y, by rw [World.cell?_of_block (w := w) (hk b hbl)]; exact hy⟩
theorem IsSpool.below {B B' : Nat} {w w' : World} {g k : Nat} (h : IsSpool B w g k) (hb : Below B' w w') (hB : B ≤ B') : IsSpool B w' g k := h.keep hb.size fun b hl => hb.block b (by omega)
theorem Only.setCell {g : Nat} {w w' : World} (h : Only g w w') {p : Addr} (hg : g ≤ p.block) (hp : w.heap.size ≤ p.block) (v : Value) : Only g w (w'.setCell p v) :=
  ⟨h.below.setCell hg v, fun b hb hne => (Below.heap_setCell w' p v b (by omega)).trans (h.other b hb hne)⟩
theorem Only.next {g B : Nat} {w w1 w2 : World} (h : Only g w w1) (hb : Below B w1 w2) (hg : g ≤ B) (hB : w.heap.size ≤ B) : Only g w w2 :=
  ⟨h.below.trans (hb.mono hg), fun b hl hne => (hb.block b (by omega)).trans (h.other b hl hne)⟩
theorem turn_spec (B : Nat) (w : World) (g k : Nat) (h : IsSpool B w g k) (hk : k < 4611686018427387904) :
    Calls Try.prog 80 #[.pointer (some ⟨g, 0, none⟩)] w fun e w' => ∃ r : Nat, e = .returned (iv r) ∧ r ≤ 65535 ∧ IsSpool B w' g (k + 1) ∧ Only g w w' := by
  obtain ⟨hg, hB, A, n, c, st, hb, hs⟩ := h
  by_cases hn : n = 0
  · subst hn
    refine (turn_nil w g A c k st hb hk).mono ?_
    rintro e w' ⟨r, st', rfl, hr, hb', ho⟩
    exact ⟨r, rfl, hr, ⟨hg, Nat.le_trans hB ho.below.size, A, 0, c, st', hb', fun h => absurd h (by omega)⟩, ho⟩
  · have hn0 : 0 < n := Nat.pos_of_ne_zero hn
    obtain ⟨b, off, rfl, hbg, hbl, hc⟩ := hs hn0
    obtain ⟨y, hy⟩ := hc (k % n) (Nat.mod_lt _ hn0)
    refine (turn_cons w g b off n c k y st hb hk hn0 hy hbg).mono ?_
    rintro e w' ⟨r, st', rfl, hr, hb', ho⟩
    refine ⟨r, rfl, hr, ⟨hg, Nat.le_trans hB ho.below.size, _, n, c, st', hb', fun _ => ⟨b, off, rfl, hbg, hbl, fun i hi => ?_⟩⟩, ho⟩
    obtain ⟨y', hy'⟩ := hc i hi
    exact ⟨y', by rw [World.cell?_of_block (w := w) (ho.other b (by omega) hbg)]; exact hy'⟩
end Go.Proofs.Ytblmlpkjocbhpaa
-- The kit's spool: Upto, From, Once. Conditions: fewer than 2^62 numbers, limits below 2^40.
namespace Go.Proofs.Ytblmlpkjocbhpaa
open Go.RowKit Go.Shelf
set_option maxRecDepth 100000

theorem upto_spec (B : Nat) (w : World) (g k : Nat) (n : Nat) (h : IsSpool B w g k) (hk : k < 4611686018427387904) (hn : n ≤ 1000000) :
    Calls Try.prog 16 #[.pointer (some ⟨g, 0, none⟩), iv n] w fun e w' => ∃ r : Nat, e = .returned (iv r) ∧ r ≤ n ∧ IsSpool B w' g (k + 1) ∧ Only g w w' := by
  have hn1 : IntKind.i64.wrap ((n : Int) + 1) = ((n + 1 : Nat) : Int) := IntWalk.i64_in _ (by omega)
  have hmx : max (1 : Int) ((n : Int) + 1) = ((n + 1 : Nat) : Int) := by omega
  have HT := Lib.hid (turn_spec B w g k h hk)
  go_enter Try.func16, Try.ntmps16
  go_wp2_with (go_at_call 80; refine HT.out.mono ?_; rintro e w1 ⟨r, rfl, hr, hsp, ho⟩; have hne : ¬ (n : Int) + 1 = 0 := by omega)
  go_ret
  have hm : (r : Int) % ((n : Int) + 1) = ((r % (n + 1) : Nat) : Int) := by push_cast; rfl
  exact ⟨r % (n + 1), ret_eq (congrArg (Value.int .i64) hm), by have := Nat.mod_lt r (show 0 < n + 1 by omega); omega, hsp, ho⟩
theorem from_spec (B : Nat) (w : World) (g k lo hi : Nat) (h : IsSpool B w g k) (hk : k < 4611686018427387904) (hl : lo ≤ hi) (hn : hi ≤ 1000000) :
    Calls Try.prog 51 #[.pointer (some ⟨g, 0, none⟩), iv lo, iv hi] w fun e w' => ∃ r : Nat, e = .returned (iv r) ∧ lo ≤ r ∧ r ≤ hi ∧ IsSpool B w' g (k + 1) ∧ Only g w w' := by
  have HU := Lib.hid (upto_spec B w g k (hi - lo) h hk (by omega))
  have hs : (hi : Int) - (lo : Int) = ((hi - lo : Nat) : Int) := by omega
  have hs1 : IntKind.i64.wrap ((hi : Int) - (lo : Int)) = ((hi - lo : Nat) : Int) := by rw [hs]; exact IntWalk.i64_in _ (by omega)
  go_enter Try.func51, Try.ntmps51
  go_wp2_with (go_at_call 16; (try rw [hs]); refine HU.out.mono ?_; rintro e w1 ⟨r, rfl, hr, hsp, ho⟩; have hs2 : IntKind.i64.wrap ((lo : Int) + (r : Int)) = ((lo + r : Nat) : Int) := IntWalk.i64_in _ (by omega))
  go_ret
  exact ⟨lo + r, by first | rfl | (push_cast; rfl), by omega, by omega, hsp, ho⟩
theorem once_spec (B : Nat) (w : World) (g k n : Nat) (h : IsSpool B w g k) (hk : k < 4611686018427387904) (hl : 1 ≤ n) (hn : n ≤ 1000000) :
    Calls Try.prog 75 #[.pointer (some ⟨g, 0, none⟩), iv n] w fun e w' => ∃ b : Bool, e = .returned (.bool b) ∧ IsSpool B w' g (k + 1) ∧ Only g w w' := by
  have HU := Lib.hid (upto_spec B w g k (n - 1) h hk (by omega))
  have hs : (n : Int) - 1 = ((n - 1 : Nat) : Int) := by omega
  go_enter Try.func75, Try.ntmps75
  go_wp2_with (go_at_call 16; (try rw [hs]); refine HU.out.mono ?_; rintro e w1 ⟨r, rfl, hr, hsp, ho⟩)
  go_ret
  exact ⟨_, rfl, hsp, ho⟩
theorem wound_spec (A : Option Addr) (bs : List Int) (c : Nat) (w : World) (hs : Sl byteE w A bs) :
    Calls Try.prog 15 #[.slice A bs.length c] w fun e w' => ∃ g, e = .returned (.pointer (some ⟨g, 0, none⟩)) ∧ g = w.heap.size ∧ IsSpool (g + 1) w' g 0 ∧ Below w.heap.size w w' := by
  go_enter Try.func15, Try.ntmps15
  go_wp2
  go_ret
  refine ⟨w.heap.size, rfl, rfl, ⟨by omega, by simp, A, bs.length, c, IntKind.u64.wrap bs.length, Blk.new _ _ _, fun hn => ?_⟩, (Below.refl _ _).alloc (Nat.le_refl _) _⟩
  have hne : bs ≠ [] := fun e => by rw [e] at hn; simp at hn
  obtain ⟨b, off, rfl, hb, hc⟩ := hs hne
  refine ⟨b, off, rfl, by omega, by omega, fun i hi => ⟨bs[i], ?_⟩⟩
  have := hc i bs[i] (List.getElem?_eq_getElem hi) 0 (.int .u8 bs[i]) rfl
  rw [World.cell?_of_block (w := w) (Below.heap_alloc w _ b hb)]
  simpa [byteE] using this
end Go.Proofs.Ytblmlpkjocbhpaa
