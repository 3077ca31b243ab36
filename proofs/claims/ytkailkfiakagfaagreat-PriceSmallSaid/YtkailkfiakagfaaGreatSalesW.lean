/- PriceSales returns true: the walk. Conditions: lengths are those of slices. -/
import Derived.Test.YtkailkfiakagfaaGreatRefH
import Derived.Test.YtkailkfiakagfaaGreatRefM
import Derived.Test.YtkailkfiakagfaaGreatPlanA
import Derived.Test.YtkailkfiakagfaaGreatPriceV
import Derived.Test.YtkailkfiakagfaaGreatEqR
import Derived.Test.YtkailkfiakagfaaGreatFree
import Derived.Deep.DeepCutAuto
set_option linter.unusedVariables false
set_option linter.unusedSimpArgs false
namespace Go.Proofs.YtkailkfiakagfaaGreat
open Go.RowKit Go.Shelf
set_option maxRecDepth 100000
theorem Own.ne_blk2 {α : Type} {E : Enc α} {e t : TypeId} {B : Nat} {w : World} {v : Value} {xs : List α} {g : Nat} {cs : Array Value} (h : Own E e B w v xs) (hb : Blk w g t cs) (ht : t ≠ e) : v.ownBlock ≠ some g := fun hv => by
  rcases h.2 with ⟨rfl, _⟩ | ⟨g', cap, cur, rfl, _, hg, _⟩
  · cases hv
  · have hg' : g' = g := by simpa [Value.ownBlock] using hv
    unfold Blk at hb
    rw [hg', hb] at hg
    injection hg with hg
    injection hg with _ h2 _
    exact ht h2
/-- Two numbers that were found, and the error. -/
def Price.mv3 : Option (Nat × Nat) → Int × Int × Int
  | some (i, k) => ((i : Int), (k : Int), 0)
  | none => (0, 0, 6)
/-- A slice value that reads as a list. -/
def SlV {α : Type} (E : Enc α) (xs : List α) (u : Value) (x : World) : Prop := ∃ A c, u = .slice A xs.length c ∧ xs.length ≤ c ∧ Sl E x A xs
theorem SlV.below {α : Type} {E : Enc α} {xs : List α} {u : Value} {x x' : World} (h : SlV E xs u x) (hb : Below x.heap.size x x') : SlV E xs u x' := by
  obtain ⟨A, c, h1, h2, h3⟩ := h
  exact ⟨A, c, h1, h2, h3.below hb⟩
theorem Own.slv {α : Type} {E : Enc α} {e : TypeId} {B : Nat} {w : World} {v : Value} {xs : List α} (h : Own E e B w v xs) : SlV E xs v w := by
  obtain ⟨A, c, rfl, h1, _⟩ := h.form
  exact ⟨A, c, rfl, h1, h.sl⟩
def SaleI (fall : Int) (bought : List Int) (u : Value) (x : World) : Prop := ∃ A c, u = saleV fall A bought.length c ∧ Sl intE x A bought
theorem SaleI.below {fall : Int} {bought : List Int} {u : Value} {x x' : World} (h : SaleI fall bought u x) (hb : Below x.heap.size x x') : SaleI fall bought u x' := by
  obtain ⟨A, c, h1, h3⟩ := h
  exact ⟨A, c, h1, h3.below hb⟩
def TupI (prices : List Int) (err : Int) (u : Value) (x : World) : Prop := ∃ v, u = .tuple #[v, iv err] ∧ SlV intE prices v x
theorem TupI.below {prices : List Int} {err : Int} {u : Value} {x x' : World} (h : TupI prices err u x) (hb : Below x.heap.size x x') : TupI prices err u x' := by
  obtain ⟨v, h1, h3⟩ := h
  exact ⟨v, h1, h3.below hb⟩
set_option maxHeartbeats 4000000 in
theorem sales_walk (A : Option Addr) (l : List Rule) (c : Nat) (fall : Int) (Ab : Option Addr) (bought : List Int) (cb : Nat) (As : Option Addr) (stock : List Piece) (cs : Nat) (Ap : Option Addr) (plan : List Int) (cp : Nat) (w : World) (hs : Sl ruleE w A l) (hsb : Sl intE w Ab bought) (hss : Sl pieceE w As stock) (hsp : Sl intE w Ap plan)
    (hg1 : l.length ≤ 12) (hg2 : bought.length ≤ 12) (hg3 : stock.length ≤ 14) (hg4 : plan.length ≤ 14) :
    Calls Tryz.prog 11 #[.slice A l.length c, saleV fall Ab bought.length cb, .slice As stock.length cs, .slice Ap plan.length cp] w fun e w' => e = .returned (.bool true) ∧ Below w.heap.size w w' := by
  have t1 : ¬ (12 : Int) < (l.length : Int) := by omega
  have t2 : ¬ (12 : Int) < (bought.length : Int) := by omega
  have t3 : ¬ (14 : Int) < (stock.length : Int) := by omega
  have t4 : ¬ (14 : Int) < (plan.length : Int) := by omega
  go_enter Tryz.func11, Tryz.ntmps11
  go_upto_region 3 with fail
  have hb1 : Below w.heap.size w (w.alloc (.cells #[iv fall, .slice Ab bought.length cb] 30)) := (Below.refl _ _).alloc (Nat.le_refl _) _
  have hB1 : Blk (w.alloc (.cells #[iv fall, .slice Ab bought.length cb] 30)) w.heap.size 30 #[iv fall, .slice Ab bought.length cb] := Blk.new _ _ _
  have hz1 : (w.alloc (.cells #[iv fall, .slice Ab bought.length cb] 30)).heap.size = w.heap.size + 1 := by simp
  generalize w.alloc (.cells #[iv fall, .slice Ab bought.length cb] 30) = w1 at *
  have hs1 := hs.below hb1
  have hsb1 := hsb.below hb1
  have hss1 := hss.below hb1
  have hsp1 := hsp.below hb1
  go_cut [9, 10, 11, 12] from 60 to 72 (fun v9 v10 v11 v12 wx => SlV ruleE l v9 wx ∧ SlV pieceE stock v11 wx ∧ SlV intE plan v12 wx ∧ Below w1.heap.size w1 wx ∧ ∃ g v, v10 = .pointer (some ⟨g, 0, none⟩) ∧ Blk wx g 30 #[iv fall, v] ∧ SlV intE bought v wx)
  case first =>
    have HFF : Hid (∀ a : World, Below w1.heap.size w1 a → a.cell? ⟨w.heap.size, 0, none⟩ = some (iv fall) ∧ a.cell? ⟨w.heap.size, 1, none⟩ = some (.slice Ab bought.length cb)) := fun a h => ⟨(hB1.under h).cell 0, (hB1.under h).cell 1⟩
    refine wp_free_lit (by kernel_rfl) 14 (by kernel_rfl) (by kernel_rfl) (by decide) (fun _ x => Below w1.heap.size w1 x) (fun x x' => Below x.heap.size x x')
      [fun _ u _ => u = .slice A l.length c,
       fun _ u x => Own ruleE 28 0 x u l,
       fun _ u _ => u = .pointer (some ⟨w.heap.size, 0, none⟩),
       fun _ u _ => u = iv fall,
       fun _ u _ => u = .pointer (some ⟨w.heap.size, 1, none⟩),
       fun _ u _ => u = .slice Ab bought.length cb,
       fun _ u x => Own intE 3 0 x u bought,
       fun _ u x => ∃ v, u = .agg #[iv fall, v] ∧ Own intE 3 0 x v bought,
       fun _ u _ => u = .slice As stock.length cs,
       fun _ u x => Own pieceE 26 0 x u stock,
       fun _ u _ => u = .slice Ap plan.length cp,
       fun _ u x => Own intE 3 0 x u plan,
       fun _ u x => ∃ g, u = .pointer (some ⟨g, 0, none⟩) ∧ w1.heap.size ≤ g ∧ Blk x g 30 #[iv 0, .slice none 0 0],
       fun _ u x => Own ruleE 28 0 x u l]
      (Below.refl _ w1).drew ?_ ?_
    · simp only [List.take_succ_cons, List.take_zero, HopL]
      refine ⟨?_, ?_, ?_, ?_, ?_, ?_, ?_, ?_, ?_, ?_, ?_, ?_, ?_, ?_, trivial⟩
      · refine ⟨fun _ _ _ _ _ h => h, fun _ _ _ _ h _ => h, fun v n x hn hR hk => ?_⟩
        have F := HFF.out x hR
        skip
        simp only [List.take_succ_cons, List.take_zero, frameF, Act.put, List.setIfInBounds_toArray, List.set_cons_zero, List.set_cons_succ]
        exact stepF_val (by rfl) (by go_simp) ⟨rfl, Below.refl _ _, hR⟩
      · refine ⟨fun _ _ _ _ _ h => h, fun _ _ _ _ h hS => h.below hS, fun v n x hn hR hk => ?_⟩
        have h0 : v 0 = .slice A l.length c := hk 0 (by kernel_rfl)
        simp only [List.take_succ_cons, List.take_zero, frameF, Act.put, List.setIfInBounds_toArray, List.set_cons_zero, List.set_cons_succ]
        refine stepF_call (by rfl) (by go_simp) (dupR A l c x (by unfold big; omega) (hs1.below hR)) ?_
        rintro e x' ⟨v', rfl, ho, hb'⟩
        exact ⟨_, rfl, ho.base (Nat.zero_le _), hb', hR.next hb' (Nat.le_refl _)⟩
      · refine ⟨fun _ _ _ _ _ h => h, fun _ _ _ _ h _ => h, fun v n x hn hR hk => ?_⟩
        have F := HFF.out x hR
        skip
        simp only [List.take_succ_cons, List.take_zero, frameF, Act.put, List.setIfInBounds_toArray, List.set_cons_zero, List.set_cons_succ]
        exact stepF_val (by rfl) (by go_simp) ⟨rfl, Below.refl _ _, hR⟩
      · refine ⟨fun _ _ _ _ _ h => h, fun _ _ _ _ h _ => h, fun v n x hn hR hk => ?_⟩
        have F := HFF.out x hR
        have h0 : v 2 = .pointer (some ⟨w.heap.size, 0, none⟩) := hk 2 (by kernel_rfl)
        simp only [List.take_succ_cons, List.take_zero, frameF, Act.put, List.setIfInBounds_toArray, List.set_cons_zero, List.set_cons_succ]
        exact stepF_val (by rfl) (by go_simp) ⟨rfl, Below.refl _ _, hR⟩
      · refine ⟨fun _ _ _ _ _ h => h, fun _ _ _ _ h _ => h, fun v n x hn hR hk => ?_⟩
        have F := HFF.out x hR
        skip
        simp only [List.take_succ_cons, List.take_zero, frameF, Act.put, List.setIfInBounds_toArray, List.set_cons_zero, List.set_cons_succ]
        exact stepF_val (by rfl) (by go_simp) ⟨rfl, Below.refl _ _, hR⟩
      · refine ⟨fun _ _ _ _ _ h => h, fun _ _ _ _ h _ => h, fun v n x hn hR hk => ?_⟩
        have F := HFF.out x hR
        have h0 : v 4 = .pointer (some ⟨w.heap.size, 1, none⟩) := hk 4 (by kernel_rfl)
        simp only [List.take_succ_cons, List.take_zero, frameF, Act.put, List.setIfInBounds_toArray, List.set_cons_zero, List.set_cons_succ]
        exact stepF_val (by rfl) (by go_simp) ⟨rfl, Below.refl _ _, hR⟩
      · refine ⟨fun _ _ _ _ _ h => h, fun _ _ _ _ h hS => h.below hS, fun v n x hn hR hk => ?_⟩
        have h0 : v 5 = .slice Ab bought.length cb := hk 5 (by kernel_rfl)
        simp only [List.take_succ_cons, List.take_zero, frameF, Act.put, List.setIfInBounds_toArray, List.set_cons_zero, List.set_cons_succ]
        refine stepF_call (by rfl) (by go_simp) (dupI Ab bought cb x (by unfold big; omega) (hsb1.below hR)) ?_
        rintro e x' ⟨v', rfl, ho, hb'⟩
        exact ⟨_, rfl, ho.base (Nat.zero_le _), hb', hR.next hb' (Nat.le_refl _)⟩
      · refine ⟨fun _ _ _ _ _ h => h, fun _ _ _ _ h hS => ?_, fun v n x hn hR hk => ?_⟩
        · obtain ⟨v', h1, h2⟩ := h
          exact ⟨v', h1, h2.below hS⟩
        · have h3 : v 3 = iv fall := hk 3 (by kernel_rfl)
          have h6 : Own intE 3 0 x (v 6) bought := hk 6 (by kernel_rfl)
          obtain ⟨A6, c6, e6, _, _⟩ := h6.form
          simp only [List.take_succ_cons, List.take_zero, frameF, Act.put, List.setIfInBounds_toArray, List.set_cons_zero, List.set_cons_succ]
          exact stepF_val (u := .agg #[iv fall, .slice A6 bought.length c6]) (by rfl) (by go_simp) ⟨⟨_, rfl, e6 ▸ h6⟩, Below.refl _ _, hR⟩
      · refine ⟨fun _ _ _ _ _ h => h, fun _ _ _ _ h _ => h, fun v n x hn hR hk => ?_⟩
        have F := HFF.out x hR
        skip
        simp only [List.take_succ_cons, List.take_zero, frameF, Act.put, List.setIfInBounds_toArray, List.set_cons_zero, List.set_cons_succ]
        exact stepF_val (by rfl) (by go_simp) ⟨rfl, Below.refl _ _, hR⟩
      · refine ⟨fun _ _ _ _ _ h => h, fun _ _ _ _ h hS => h.below hS, fun v n x hn hR hk => ?_⟩
        have h0 : v 8 = .slice As stock.length cs := hk 8 (by kernel_rfl)
        simp only [List.take_succ_cons, List.take_zero, frameF, Act.put, List.setIfInBounds_toArray, List.set_cons_zero, List.set_cons_succ]
        refine stepF_call (by rfl) (by go_simp) (dupP As stock cs x (by unfold big; omega) (hss1.below hR)) ?_
        rintro e x' ⟨v', rfl, ho, hb'⟩
        exact ⟨_, rfl, ho.base (Nat.zero_le _), hb', hR.next hb' (Nat.le_refl _)⟩
      · refine ⟨fun _ _ _ _ _ h => h, fun _ _ _ _ h _ => h, fun v n x hn hR hk => ?_⟩
        have F := HFF.out x hR
        skip
        simp only [List.take_succ_cons, List.take_zero, frameF, Act.put, List.setIfInBounds_toArray, List.set_cons_zero, List.set_cons_succ]
        exact stepF_val (by rfl) (by go_simp) ⟨rfl, Below.refl _ _, hR⟩
      · refine ⟨fun _ _ _ _ _ h => h, fun _ _ _ _ h hS => h.below hS, fun v n x hn hR hk => ?_⟩
        have h0 : v 10 = .slice Ap plan.length cp := hk 10 (by kernel_rfl)
        simp only [List.take_succ_cons, List.take_zero, frameF, Act.put, List.setIfInBounds_toArray, List.set_cons_zero, List.set_cons_succ]
        refine stepF_call (by rfl) (by go_simp) (dupI Ap plan cp x (by unfold big; omega) (hsp1.below hR)) ?_
        rintro e x' ⟨v', rfl, ho, hb'⟩
        exact ⟨_, rfl, ho.base (Nat.zero_le _), hb', hR.next hb' (Nat.le_refl _)⟩
      · refine ⟨fun _ _ _ _ _ h => h, fun _ _ _ _ h hS => ?_, fun v n x hn hR hk => ?_⟩
        · obtain ⟨g, h1, h2, h3⟩ := h
          exact ⟨g, h1, h2, h3.under hS⟩
        · simp only [List.take_succ_cons, List.take_zero, frameF, Act.put, List.setIfInBounds_toArray, List.set_cons_zero, List.set_cons_succ]
          exact stepF_new (u := .pointer (some ⟨x.heap.size, 0, none⟩)) (w' := x.alloc (.cells #[iv 0, .slice none 0 0] 30)) (by rfl) (by go_simp) ⟨⟨x.heap.size, rfl, hR.size, Blk.new _ _ _⟩, (Below.refl _ _).alloc (Nat.le_refl _) _, hR.alloc hR.size _⟩
      · refine ⟨fun _ _ _ _ _ h => h, fun _ _ _ _ h hS => h.below hS, fun v n x hn hR hk => ?_⟩
        have h1 : Own ruleE 28 0 x (v 1) l := hk 1 (by kernel_rfl)
        obtain ⟨A1, c1, e1, _, _⟩ := h1.form
        simp only [List.take_succ_cons, List.take_zero, frameF, Act.put, List.setIfInBounds_toArray, List.set_cons_zero, List.set_cons_succ]
        exact stepF_val (u := .slice A1 l.length c1) (by rfl) (by go_simp) ⟨e1 ▸ h1, Below.refl _ _, hR⟩
    · intro v n x hn hR hall
      have h7 : ∃ v', v 7 = .agg #[iv fall, v'] ∧ Own intE 3 0 x v' bought := hall 7 (by decide)
      have h9 : Own pieceE 26 0 x (v 9) stock := hall 9 (by decide)
      have h11 : Own intE 3 0 x (v 11) plan := hall 11 (by decide)
      have h12 : ∃ g, v 12 = .pointer (some ⟨g, 0, none⟩) ∧ w1.heap.size ≤ g ∧ Blk x g 30 #[iv 0, .slice none 0 0] := hall 12 (by decide)
      have h13 : Own ruleE 28 0 x (v 13) l := hall 13 (by decide)
      obtain ⟨v7, e7, h7⟩ := h7
      obtain ⟨A7, c7, rfl, h71, _⟩ := h7.form
      obtain ⟨A9, c9, e9, h91, _⟩ := h9.form
      obtain ⟨A11, c11, e11, h111, _⟩ := h11.form
      obtain ⟨g, e12, hg, hBx⟩ := h12
      obtain ⟨A13, c13, e13, h131, _⟩ := h13.form
      rw [e9] at h9
      rw [e11] at h11
      rw [e13] at h13
      have n0 := hBx.cell
      have n1 := hBx.frozen
      have n2 := hBx.lt
      have HRx := Lib.hid hR
      have HB := Lib.hid hBx
      have K7 := Lib.hid ((h7.keep (w' := (x.setCell ⟨g, 0, none⟩ (iv fall)).setCell ⟨g, 1, none⟩ (.slice A7 bought.length c7)) (by simp [World.setCell]) fun b hb => by rw [Below.heap_setCell _ _ _ b (fun e => h7.ne_blk2 hBx (by decide) (by rw [hb, e])), Below.heap_setCell _ _ _ b (fun e => h7.ne_blk2 hBx (by decide) (by rw [hb, e]))]).slv)
      have K9 := Lib.hid ((h9.keep (w' := (x.setCell ⟨g, 0, none⟩ (iv fall)).setCell ⟨g, 1, none⟩ (.slice A7 bought.length c7)) (by simp [World.setCell]) fun b hb => by rw [Below.heap_setCell _ _ _ b (fun e => h9.ne_blk2 hBx (by decide) (by rw [hb, e])), Below.heap_setCell _ _ _ b (fun e => h9.ne_blk2 hBx (by decide) (by rw [hb, e]))]).slv)
      have K11 := Lib.hid ((h11.keep (w' := (x.setCell ⟨g, 0, none⟩ (iv fall)).setCell ⟨g, 1, none⟩ (.slice A7 bought.length c7)) (by simp [World.setCell]) fun b hb => by rw [Below.heap_setCell _ _ _ b (fun e => h11.ne_blk2 hBx (by decide) (by rw [hb, e])), Below.heap_setCell _ _ _ b (fun e => h11.ne_blk2 hBx (by decide) (by rw [hb, e]))]).slv)
      have K13 := Lib.hid ((h13.keep (w' := (x.setCell ⟨g, 0, none⟩ (iv fall)).setCell ⟨g, 1, none⟩ (.slice A7 bought.length c7)) (by simp [World.setCell]) fun b hb => by rw [Below.heap_setCell _ _ _ b (fun e => h13.ne_blk2 hBx (by decide) (by rw [hb, e])), Below.heap_setCell _ _ _ b (fun e => h13.ne_blk2 hBx (by decide) (by rw [hb, e]))]).slv)
      clear hall hR hB1 HFF h7 h9 h11 h13 hBx
      simp only [List.drop_succ_cons, List.drop_zero, List.take_succ_cons, List.take_zero, frameF, Act.put, List.setIfInBounds_toArray, List.set_cons_zero, List.set_cons_succ]
      go_wp2_with fail
      go_meet
      exact ⟨K13.out, K9.out, K11.out, (HRx.out.setCell (by exact hg) _).setCell (by exact hg) _, g, _, rfl, (HB.out.set_ 0 _).set_ 1 _, K7.out⟩
  case rest =>
    obtain ⟨hl2, hst2, hpl2, hb12, g, vb, rfl, hBs, hbo2⟩ := hcut
    obtain ⟨Al2, cl2, rfl, hcl2, hsl2⟩ := hl2
    obtain ⟨As2, cs2, rfl, hcs2, hss2⟩ := hst2
    obtain ⟨Ap2, cp2, rfl, hcp2, hsp2⟩ := hpl2
    obtain ⟨Ab2, cb2, rfl, hcb2, hsb2⟩ := hbo2
    have hB2 := hB1.under hb12
    have hs2 := hs1.below hb12
    have hsa2 := hsb1.below hb12
    have hsk2 := hss1.below hb12
    have hsq2 := hsp1.below hb12
    have hb02 := hb1.next hb12 (Nat.le_refl _)
    obtain ⟨er, her⟩ : ∃ er, er = Price.openErr l fall bought stock := ⟨_, rfl⟩
    obtain ⟨ps, hps⟩ : ∃ ps, ps = (Price.stockedOf l fall bought stock).1 := ⟨_, rfl⟩
    have hse : (Price.stockedOf l fall bought stock).2 = er := by
      rw [her]; unfold Price.stockedOf; split
      · rename_i h; exact h.symm
      · rfl
    have HER := Lib.hid her
    have HPS := Lib.hid hps
    have HSE := Lib.hid hse
    clear hB1 hs hsb hss hsp hs1 hsb1 hss1 hsp1 hb1 hb12 her hps hse
    go_upto_region 4 with fail
    generalize wc = w2 at *
    go_cut [13, 14] from 72 to 82 (fun v13 v14 wx => SlV intE ps v13 wx ∧ v14 = iv er ∧ Below w2.heap.size w2 wx)
    case first =>
      have HFF : Hid (∀ a : World, Below w2.heap.size w2 a → a.cell? ⟨w.heap.size, 0, none⟩ = some (iv fall) ∧ a.cell? ⟨w.heap.size, 1, none⟩ = some (.slice Ab bought.length cb)) := fun a h => ⟨(hB2.under h).cell 0, (hB2.under h).cell 1⟩
      refine wp_free_lit (by kernel_rfl) 11 (by kernel_rfl) (by kernel_rfl) (by decide) (fun _ x => Below w2.heap.size w2 x) (fun x x' => Below x.heap.size x x')
        [fun _ u _ => u = .slice A l.length c,
         fun _ u x => SlV ruleE l u x,
         fun _ u _ => u = saleV fall Ab bought.length cb,
         fun _ u _ => u = saleV fall Ab bought.length cb,
         fun _ u _ => u = .slice As stock.length cs,
         fun _ u x => SlV pieceE stock u x,
         fun _ u x => TupI ps er u x,
         fun _ u x => TupI ps er u x,
         fun _ u x => SlV intE ps u x,
         fun _ u _ => u = iv er,
         fun _ u x => SlV intE ps u x]
        (Below.refl _ w2).drew ?_ ?_
      · simp only [List.take_succ_cons, List.take_zero, HopL]
        refine ⟨?_, ?_, ?_, ?_, ?_, ?_, ?_, ?_, ?_, ?_, ?_, trivial⟩
        · refine ⟨fun _ _ _ _ _ h => h, fun _ _ _ _ h _ => h, fun v n x hn hR hk => ?_⟩
          have F := HFF.out x hR
          skip
          simp only [List.take_succ_cons, List.take_zero, frameF, Act.put, List.setIfInBounds_toArray, List.set_cons_zero, List.set_cons_succ]
          exact stepF_val (by rfl) (by go_simp) ⟨rfl, Below.refl _ _, hR⟩
        · refine ⟨fun _ _ _ _ _ h => h, fun _ _ _ _ h hS => h.below hS, fun v n x hn hR hk => ?_⟩
          have h0 : v 0 = .slice A l.length c := hk 0 (by kernel_rfl)
          simp only [List.take_succ_cons, List.take_zero, frameF, Act.put, List.setIfInBounds_toArray, List.set_cons_zero, List.set_cons_succ]
          refine stepF_call (by rfl) (by go_simp) (theirs_spec A l c x (by omega) (hs2.below hR)) ?_
          rintro e x' ⟨v', rfl, ho, hb'⟩
          exact ⟨_, rfl, ho.slv, hb', hR.next hb' (Nat.le_refl _)⟩
        · refine ⟨fun _ _ _ _ _ h => h, fun _ _ _ _ h _ => h, fun v n x hn hR hk => ?_⟩
          have F := HFF.out x hR
          skip
          simp only [List.take_succ_cons, List.take_zero, frameF, Act.put, List.setIfInBounds_toArray, List.set_cons_zero, List.set_cons_succ]
          exact stepF_val (by rfl) (by go_simp) ⟨rfl, Below.refl _ _, hR⟩
        · refine ⟨fun _ _ _ _ _ h => h, fun _ _ _ _ h _ => h, fun v n x hn hR hk => ?_⟩
          have h0 : v 2 = saleV fall Ab bought.length cb := hk 2 (by kernel_rfl)
          simp only [List.take_succ_cons, List.take_zero, frameF, Act.put, List.setIfInBounds_toArray, List.set_cons_zero, List.set_cons_succ]
          refine stepF_call (by rfl) (by go_simp) (sold_at fall Ab bought.length cb x) ?_
          rintro e x' ⟨rfl, hb'⟩
          exact ⟨_, rfl, rfl, hb', hR.next hb' (Nat.le_refl _)⟩
        · refine ⟨fun _ _ _ _ _ h => h, fun _ _ _ _ h _ => h, fun v n x hn hR hk => ?_⟩
          have F := HFF.out x hR
          skip
          simp only [List.take_succ_cons, List.take_zero, frameF, Act.put, List.setIfInBounds_toArray, List.set_cons_zero, List.set_cons_succ]
          exact stepF_val (by rfl) (by go_simp) ⟨rfl, Below.refl _ _, hR⟩
        · refine ⟨fun _ _ _ _ _ h => h, fun _ _ _ _ h hS => h.below hS, fun v n x hn hR hk => ?_⟩
          have h0 : v 4 = .slice As stock.length cs := hk 4 (by kernel_rfl)
          simp only [List.take_succ_cons, List.take_zero, frameF, Act.put, List.setIfInBounds_toArray, List.set_cons_zero, List.set_cons_succ]
          refine stepF_call (by rfl) (by go_simp) (pieces3_spec As stock cs x (by omega) (hsk2.below hR)) ?_
          rintro e x' ⟨v', rfl, ho, hb'⟩
          exact ⟨_, rfl, ho.slv, hb', hR.next hb' (Nat.le_refl _)⟩
        · refine ⟨fun _ _ _ _ _ h => h, fun _ _ _ _ h hS => h.below hS, fun v n x hn hR hk => ?_⟩
          have h1 : SlV ruleE l (v 1) x := hk 1 (by kernel_rfl)
          have h3 : v 3 = saleV fall Ab bought.length cb := hk 3 (by kernel_rfl)
          have h5 : SlV pieceE stock (v 5) x := hk 5 (by kernel_rfl)
          obtain ⟨A1, c1, e1, h11, h12⟩ := h1
          obtain ⟨A5, c5, e5, h51, h52⟩ := h5
          have HC := stocked2_spec A1 l c1 fall Ab bought cb A5 stock c5 x (by unfold big; omega) h12 (by unfold big; omega) (hsa2.below hR) (by unfold big; omega) h52
          rw [HSE.out, ← HPS.out] at HC
          simp only [List.take_succ_cons, List.take_zero, frameF, Act.put, List.setIfInBounds_toArray, List.set_cons_zero, List.set_cons_succ]
          refine stepF_call (by rfl) (by go_simp) HC ?_
          rintro e x' ⟨v', rfl, ho, hb'⟩
          exact ⟨_, rfl, ⟨v', rfl, ho.slv⟩, hb', hR.next hb' (Nat.le_refl _)⟩
        · refine ⟨fun _ _ _ _ _ h => h, fun _ _ _ _ h hS => h.below hS, fun v n x hn hR hk => ?_⟩
          have h6 : TupI ps er (v 6) x := hk 6 (by kernel_rfl)
          obtain ⟨v', e6, h6⟩ := h6
          simp only [List.take_succ_cons, List.take_zero, frameF, Act.put, List.setIfInBounds_toArray, List.set_cons_zero, List.set_cons_succ]
          exact stepF_val (u := .tuple #[v', iv er]) (by rfl) (by go_simp) ⟨⟨v', rfl, h6⟩, Below.refl _ _, hR⟩
        · refine ⟨fun _ _ _ _ _ h => h, fun _ _ _ _ h hS => h.below hS, fun v n x hn hR hk => ?_⟩
          have h6 : TupI ps er (v 7) x := hk 7 (by kernel_rfl)
          obtain ⟨v', e6, h6⟩ := h6
          simp only [List.take_succ_cons, List.take_zero, frameF, Act.put, List.setIfInBounds_toArray, List.set_cons_zero, List.set_cons_succ]
          exact stepF_val (u := v') (by rfl) (by go_simp) ⟨h6, Below.refl _ _, hR⟩
        · refine ⟨fun _ _ _ _ _ h => h, fun _ _ _ _ h _ => h, fun v n x hn hR hk => ?_⟩
          have h6 : TupI ps er (v 7) x := hk 7 (by kernel_rfl)
          obtain ⟨v', e6, h6⟩ := h6
          simp only [List.take_succ_cons, List.take_zero, frameF, Act.put, List.setIfInBounds_toArray, List.set_cons_zero, List.set_cons_succ]
          exact stepF_val (u := iv er) (by rfl) (by go_simp) ⟨rfl, Below.refl _ _, hR⟩
        · refine ⟨fun _ _ _ _ _ h => h, fun _ _ _ _ h hS => h.below hS, fun v n x hn hR hk => ?_⟩
          have h6 : SlV intE ps (v 8) x := hk 8 (by kernel_rfl)
          obtain ⟨A8, c8, e8, h61, h62⟩ := h6
          simp only [List.take_succ_cons, List.take_zero, frameF, Act.put, List.setIfInBounds_toArray, List.set_cons_zero, List.set_cons_succ]
          exact stepF_val (u := .slice A8 ps.length c8) (by rfl) (by go_simp) ⟨⟨A8, c8, rfl, h61, h62⟩, Below.refl _ _, hR⟩
      · intro v n x hn hR hall
        have h8 : SlV intE ps (v 10) x := hall 10 (by decide)
        have h9 : v 9 = iv er := hall 9 (by decide)
        clear hall
        simp only [List.drop_succ_cons, List.drop_zero, List.take_succ_cons, List.take_zero, frameF, Act.put, List.setIfInBounds_toArray, List.set_cons_zero, List.set_cons_succ]
        go_wp2_with fail
        go_meet
        exact ⟨h8, (by first | exact h9 | rfl), hR⟩
    case rest =>
      obtain ⟨⟨A13, c13, rfl, hc13, hs13⟩, rfl, hb23⟩ := hcut
      generalize wc = w3 at *
      have hB3 := hB2.under hb23
      have hB3s := hBs.under hb23
      have hb03 := hb02.next hb23 (Nat.le_refl _)
      obtain ⟨pe, hpe⟩ : ∃ pe, pe = Price.planErr l fall bought stock plan := ⟨_, rfl⟩
      obtain ⟨xa, xb, xc, hx⟩ : ∃ xa xb xc, (xa, xb, xc) = Price.exchangeOf l fall bought stock plan := ⟨_, _, _, rfl⟩
      obtain ⟨ma, mb, mc, hm⟩ : ∃ ma mb mc, (ma, mb, mc) = Price.moveOf l fall bought stock plan := ⟨_, _, _, rfl⟩
      obtain ⟨ea, hea⟩ : ∃ ea, (ea, pe) = Price.earnsOf l fall bought stock plan := by
        refine ⟨(Price.earnsOf l fall bought stock plan).1, ?_⟩
        rw [hpe]; unfold Price.earnsOf
        split
        · rename_i h; rw [h]
        · rfl
      have HPE := Lib.hid hpe
      have HX := Lib.hid hx
      have HM := Lib.hid hm
      have HEA := Lib.hid hea
      have HSO : Hid (∀ W, Calls Tryz.prog 45 #[saleV fall Ab bought.length cb] W fun e w' => e = .returned (saleV fall Ab bought.length cb) ∧ Below W.heap.size W w') := fun W => sold_at fall Ab bought.length cb W
      clear hpe hx hm hea hB2 hBs hb02
      go_upto_if 86 with fail
      go_cut [15, 16, 17, 18, 19, 20, 21, 22, 23] from 85 to 124 (fun v15 v16 v17 v18 v19 v20 v21 v22 _ wx => v15 = iv pe ∧ v16 = iv xc ∧ v17 = iv mc ∧ v18 = iv ea ∧ v19 = iv xa ∧ v20 = iv xb ∧ v21 = iv ma ∧ v22 = iv mb ∧ Below w3.heap.size w3 wx)
      case first =>
        by_cases h0 : er = 0
        · have hop : Price.openErr l fall bought stock = 0 := by rw [← HER.out]; exact h0
          have hok := Price.openErr_ok hop
          have hsh := Price.shop_of hop
          have hpsE : ps = (Price.stocked l stock).1 := by rw [HPS.out]; unfold Price.stockedOf; rw [if_pos hop]
          rw [← hpsE] at hsh
          have hpe2 := Price.planErr_2 plan hop
          rw [← HPE.out] at hpe2
          have HPE2 := Lib.hid hpe2
          have HSH := Lib.hid hsh
          have HOK := Lib.hid hok
          have HOP := Lib.hid hop
          have HPP := Lib.hid hpsE
          have h0' : (er == 0) = true := by simpa using h0
          have H0 := Lib.hid h0
          have HPL : Hid (∀ W, Below w3.heap.size w3 W → Calls Tryz.prog 47 #[saleV fall Ab bought.length cb, iv stock.length, .slice Ap plan.length cp] W fun e w' => e = .returned (iv pe) ∧ Below W.heap.size W w') := fun W h => by
            have := planned2_spec fall Ab bought cb stock.length Ap plan cp W (by omega) (by unfold big; omega) ((hsa2.below hb23).below h) ((hsq2.below hb23).below h) HOK.out.hbought
            rw [← HPE2.out] at this
            exact this
          have f0 := hB3.cell 0
          have f1 := hB3.cell 1
          have f2 := hB3.lt
          clear h0 hop hok hsh hpsE hpe2
          go_wp2_with fail
          refine (HSO.out w3).mono ?_
          rintro e x1 ⟨rfl, hbx1⟩
          have HPL1 := Lib.hid (HPL.out x1 hbx1)
          go_wp2_with fail
          refine HPL1.out.mono ?_
          rintro e x2 ⟨rfl, hbx2⟩
          have hb32 := hbx1.next hbx2 (Nat.le_refl _)
          have hBx2 := hB3.under hb32
          have g0 := hBx2.cell 0
          have g1 := hBx2.cell 1
          have g2 := hBx2.lt
          clear HPL1 HPL f0 f1 f2 hbx1 hbx2 hBx2
          by_cases hp0 : pe = 0
          · have hp0' : (pe == 0) = true := by simpa using hp0
            have hpo := Price.planErr_ok (HPE.out.symm.trans hp0)
            have hpl : plan.length = stock.length := hpo.hplan
            have hpw : ∀ x ∈ plan, -1 ≤ x ∧ x < bought.length := fun x hx => by have := hpo.hplanweeks x hx; omega
            have hpw' : ∀ x ∈ plan, -1 ≤ x ∧ x ≤ 100 := fun x hx => by have := hpw x hx; omega
            have hlen : plan.length = ps.length := by rw [hpl, HSH.out.len]
            have hea2 : ea = Price.earns fall ps plan := by
              have := HEA.out
              unfold Price.earnsOf at this
              rw [if_pos (HPE.out.symm.trans hp0), ← HPP.out] at this
              injection this
            have hx2 : (xa, xb, xc) = Price.mv3 (Price.searchIK (Price.better2 fall ps plan) plan.length 0 plan.length) := by
              rw [HX.out, hpl, ← HSH.out.search2 hpl]
              unfold Price.exchangeOf
              rw [if_pos (HPE.out.symm.trans hp0), ← HPP.out]
              unfold Price.mv3
              split <;> rename_i h <;> rw [h]
            have hm2 : (ma, mb, mc) = Price.mv3 (Price.searchIW (Price.betterMove fall bought ps plan) bought.length 0 plan.length) := by
              rw [HM.out, hpl]
              unfold Price.moveOf
              rw [if_pos (HPE.out.symm.trans hp0), ← HPP.out]
              unfold Price.mv3
              split <;> rename_i h <;> rw [h]
            have HE2 : Hid (∀ W, Below w3.heap.size w3 W → Calls Tryz.prog 48 #[saleV fall Ab bought.length cb, .slice A13 ps.length c13, .slice Ap plan.length cp] W fun e w' => e = .returned (iv ea) ∧ Below W.heap.size W w') := fun W h => by
              rw [hea2]
              exact earns2_spec fall Ab bought.length cb A13 ps c13 Ap plan cp W (hs13.below h) ((hsq2.below hb23).below h) hlen (by omega) HOK.out.hfall0 HOK.out.hfall1 HSH.out.bnd hpw'
            obtain ⟨o, ho⟩ : ∃ o, o = Price.searchIK (Price.better2 fall ps plan) plan.length 0 plan.length := ⟨_, rfl⟩
            obtain ⟨o2, ho2⟩ : ∃ o, o = Price.searchIW (Price.betterMove fall bought ps plan) bought.length 0 plan.length := ⟨_, rfl⟩
            rw [← ho] at hx2
            rw [← ho2] at hm2
            have HX2 : Hid (∀ W, Below w3.heap.size w3 W → Calls Tryz.prog 49 #[saleV fall Ab bought.length cb, .slice A13 ps.length c13, .slice Ap plan.length cp] W fun e w' => e = .returned (.tuple #[iv (Price.mv2 o).1, iv (Price.mv2 o).2.1, .bool (Price.mv2 o).2.2]) ∧ Below W.heap.size W w') := fun W h =>
              exchange2_spec fall Ab bought.length cb A13 ps c13 Ap plan cp W (hs13.below h) ((hsq2.below hb23).below h) hlen (by omega) HOK.out.hfall0 HOK.out.hfall1 HSH.out.bnd hpw' o ho
            have HM2 : Hid (∀ W, Below w3.heap.size w3 W → Calls Tryz.prog 50 #[saleV fall Ab bought.length cb, .slice A13 ps.length c13, .slice Ap plan.length cp] W fun e w' => e = .returned (.tuple #[iv (Price.mv2 o2).1, iv (Price.mv2 o2).2.1, .bool (Price.mv2 o2).2.2]) ∧ Below W.heap.size W w') := fun W h =>
              move2_spec fall Ab bought cb A13 ps c13 Ap plan cp W ((hsa2.below hb23).below h) (by omega) HOK.out.hbought (hs13.below h) ((hsq2.below hb23).below h) hlen (by omega) HOK.out.hfall0 HOK.out.hfall1 HSH.out.bnd hpw o2 ho2
            have HP0 := Lib.hid hp0
            have HQX := Lib.hid hx2
            have HQM := Lib.hid hm2
            clear hp0 hpo hpl hpw hpw' hlen hea2 hx2 hm2 ho ho2
            go_wp2_with fail
            refine (HSO.out x2).mono ?_
            rintro e x3 ⟨rfl, hbx3⟩
            have hb33 := hb32.next hbx3 (Nat.le_refl _)
            have HEr := Lib.hid (HE2.out x3 hb33)
            go_wp2_with fail
            refine HEr.out.mono ?_
            rintro e x4 ⟨rfl, hbx4⟩
            have hb34 := hb33.next hbx4 (Nat.le_refl _)
            have hBx4 := hB3.under hb34
            have f0 := hBx4.cell 0
            have f1 := hBx4.cell 1
            have f2 := hBx4.lt
            clear g0 g1 g2 HEr HE2 hbx3 hbx4 hb33 hBx4
            go_wp2_with fail
            refine (HSO.out x4).mono ?_
            rintro e x5 ⟨rfl, hbx5⟩
            have hb35 := hb34.next hbx5 (Nat.le_refl _)
            have HXr := Lib.hid (HX2.out x5 hb35)
            go_wp2_with fail
            refine HXr.out.mono ?_
            rintro e x6 ⟨rfl, hbx6⟩
            have hb36 := hb35.next hbx6 (Nat.le_refl _)
            have hBx6 := hB3.under hb36
            have g0 := hBx6.cell 0
            have g1 := hBx6.cell 1
            have g2 := hBx6.lt
            clear f0 f1 f2 HXr HX2 hbx5 hbx6 hb35 hBx6
            have HMr : Hid (∀ W, Below x6.heap.size x6 W → Calls Tryz.prog 50 #[saleV fall Ab bought.length cb, .slice A13 ps.length c13, .slice Ap plan.length cp] W fun e w' => e = .returned (.tuple #[iv (Price.mv2 o2).1, iv (Price.mv2 o2).2.1, .bool (Price.mv2 o2).2.2]) ∧ Below W.heap.size W w') := fun W h => HM2.out W (hb36.next h (Nat.le_refl _))
            clear HM2
            cases o with
            | some ik =>
              obtain ⟨i, k⟩ := ik
              rw [show Price.mv3 (some (i, k)) = ((i : Int), (k : Int), 0) from rfl] at HQX
              cases o2 with
              | some jk =>
                obtain ⟨i2, k2⟩ := jk
                rw [show Price.mv3 (some (i2, k2)) = ((i2 : Int), (k2 : Int), 0) from rfl] at HQM
                rw [show Price.mv2 (some (i2, k2)) = ((i2 : Int), (k2 : Int), true) from rfl] at HMr
                go_wp2_with fail
                refine (HSO.out x6).mono ?_
                rintro e x7 ⟨rfl, hbx7⟩
                have HMs := Lib.hid (HMr.out x7 hbx7)
                go_wp2_with fail
                refine HMs.out.mono ?_
                rintro e x8 ⟨rfl, hbx8⟩
                go_wp2_with fail
                go_meet
                have hq1 := HQX.out
                have hq2 := HQM.out
                injection hq1 with q10 q11
                injection q11 with q11 q12
                injection hq2 with q20 q21
                injection q21 with q21 q22
                exact ⟨rfl, (by first | (rw [q12]; done) | rw [q12, HP0.out]), (by first | (rw [q22]; done) | rw [q22, HP0.out]), rfl, by rw [q10]; rfl, by rw [q11]; rfl, by rw [q20], by rw [q21], hb36.next (hbx7.next hbx8 (Nat.le_refl _)) (Nat.le_refl _)⟩
              | none =>
                rw [show Price.mv3 none = ((0 : Int), (0 : Int), 6) from rfl] at HQM
                rw [show Price.mv2 none = ((0 : Int), (0 : Int), false) from rfl] at HMr
                go_wp2_with fail
                refine (HSO.out x6).mono ?_
                rintro e x7 ⟨rfl, hbx7⟩
                have HMs := Lib.hid (HMr.out x7 hbx7)
                go_wp2_with fail
                refine HMs.out.mono ?_
                rintro e x8 ⟨rfl, hbx8⟩
                go_wp2_with fail
                go_meet
                have hq1 := HQX.out
                have hq2 := HQM.out
                injection hq1 with q10 q11
                injection q11 with q11 q12
                injection hq2 with q20 q21
                injection q21 with q21 q22
                exact ⟨rfl, (by first | (rw [q12]; done) | rw [q12, HP0.out]), (by first | (rw [q22]; done) | rw [q22, HP0.out]), rfl, by rw [q10]; rfl, by rw [q11]; rfl, by rw [q20], by rw [q21], hb36.next (hbx7.next hbx8 (Nat.le_refl _)) (Nat.le_refl _)⟩
            | none =>
              rw [show Price.mv3 none = ((0 : Int), (0 : Int), 6) from rfl] at HQX
              cases o2 with
              | some jk =>
                obtain ⟨i2, k2⟩ := jk
                rw [show Price.mv3 (some (i2, k2)) = ((i2 : Int), (k2 : Int), 0) from rfl] at HQM
                rw [show Price.mv2 (some (i2, k2)) = ((i2 : Int), (k2 : Int), true) from rfl] at HMr
                go_wp2_with fail
                refine (HSO.out x6).mono ?_
                rintro e x7 ⟨rfl, hbx7⟩
                have HMs := Lib.hid (HMr.out x7 hbx7)
                go_wp2_with fail
                refine HMs.out.mono ?_
                rintro e x8 ⟨rfl, hbx8⟩
                go_wp2_with fail
                go_meet
                have hq1 := HQX.out
                have hq2 := HQM.out
                injection hq1 with q10 q11
                injection q11 with q11 q12
                injection hq2 with q20 q21
                injection q21 with q21 q22
                exact ⟨rfl, (by first | (rw [q12]; done) | rw [q12, HP0.out]), (by first | (rw [q22]; done) | rw [q22, HP0.out]), rfl, by rw [q10]; rfl, by rw [q11]; rfl, by rw [q20], by rw [q21], hb36.next (hbx7.next hbx8 (Nat.le_refl _)) (Nat.le_refl _)⟩
              | none =>
                rw [show Price.mv3 none = ((0 : Int), (0 : Int), 6) from rfl] at HQM
                rw [show Price.mv2 none = ((0 : Int), (0 : Int), false) from rfl] at HMr
                go_wp2_with fail
                refine (HSO.out x6).mono ?_
                rintro e x7 ⟨rfl, hbx7⟩
                have HMs := Lib.hid (HMr.out x7 hbx7)
                go_wp2_with fail
                refine HMs.out.mono ?_
                rintro e x8 ⟨rfl, hbx8⟩
                go_wp2_with fail
                go_meet
                have hq1 := HQX.out
                have hq2 := HQM.out
                injection hq1 with q10 q11
                injection q11 with q11 q12
                injection hq2 with q20 q21
                injection q21 with q21 q22
                exact ⟨rfl, (by first | (rw [q12]; done) | rw [q12, HP0.out]), (by first | (rw [q22]; done) | rw [q22, HP0.out]), rfl, by rw [q10]; rfl, by rw [q11]; rfl, by rw [q20], by rw [q21], hb36.next (hbx7.next hbx8 (Nat.le_refl _)) (Nat.le_refl _)⟩
          · have hp0' : (pe == 0) = false := by simpa using hp0
            have hpz : ¬ Price.planErr l fall bought stock plan = 0 := by rw [← HPE.out]; exact hp0
            have q1 : (xa, xb, xc) = (0, 0, pe) := by rw [HX.out]; unfold Price.exchangeOf; rw [if_neg hpz, HPE.out]
            have q2 : (ma, mb, mc) = (0, 0, pe) := by rw [HM.out]; unfold Price.moveOf; rw [if_neg hpz, HPE.out]
            have q3 : (ea, pe) = (0, pe) := by rw [HEA.out]; unfold Price.earnsOf; rw [if_neg hpz, HPE.out]
            injection q1 with q10 q11
            injection q11 with q11 q12
            injection q2 with q20 q21
            injection q21 with q21 q22
            injection q3 with q30 _
            have HQ := Lib.hid (And.intro q10 (And.intro q11 (And.intro q12 (And.intro q20 (And.intro q21 (And.intro q22 q30))))))
            clear q10 q11 q12 q20 q21 q22 q30 hp0 hpz
            go_wp2_with fail
            go_meet
            obtain ⟨q10, q11, q12, q20, q21, q22, q30⟩ := HQ.out
            exact ⟨rfl, by rw [q12], by rw [q22], by rw [q30], by rw [q10], by rw [q11], by rw [q20], by rw [q21], hb32⟩
        · have h0' : (er == 0) = false := by simpa using h0
          have hpz : Price.planErr l fall bought stock plan = er := by unfold Price.planErr; rw [if_neg (by rw [← HER.out]; exact h0), HER.out]
          have hpz' : ¬ Price.planErr l fall bought stock plan = 0 := by rw [hpz]; exact h0
          have q0 : pe = er := by rw [HPE.out, hpz]
          have q1 : (xa, xb, xc) = (0, 0, er) := by rw [HX.out]; unfold Price.exchangeOf; rw [if_neg hpz', hpz]
          have q2 : (ma, mb, mc) = (0, 0, er) := by rw [HM.out]; unfold Price.moveOf; rw [if_neg hpz', hpz]
          have q3 : (ea, pe) = (0, er) := by rw [HEA.out]; unfold Price.earnsOf; rw [if_neg hpz', hpz]
          injection q1 with q10 q11
          injection q11 with q11 q12
          injection q2 with q20 q21
          injection q21 with q21 q22
          injection q3 with q30 _
          have HQ := Lib.hid (And.intro q0 (And.intro q10 (And.intro q11 (And.intro q12 (And.intro q20 (And.intro q21 (And.intro q22 q30)))))))
          clear q0 q10 q11 q12 q20 q21 q22 q30 h0 hpz hpz'
          go_wp2_with fail
          go_meet
          obtain ⟨q0, q10, q11, q12, q20, q21, q22, q30⟩ := HQ.out
          exact ⟨by rw [q0], by rw [q12], by rw [q22], by rw [q30], by rw [q10], by rw [q11], by rw [q20], by rw [q21], Below.refl _ _⟩
      case rest =>
        obtain ⟨rfl, rfl, rfl, rfl, rfl, rfl, rfl, rfl, hb34⟩ := hcut
        generalize wc = w4 at *
        have hb24 := hb23.next hb34 (Nat.le_refl _)
        have hb04 := hb03.next hb34 (Nat.le_refl _)
        have hB4 := hB3.under hb34
        have hB4s := hB3s.under hb34
        have ARG : Hid (Sl ruleE w4 Al2 l ∧ Sl intE w4 Ab2 bought ∧ Sl pieceE w4 As2 stock ∧ Sl intE w4 Ap2 plan) := ⟨hsl2.below hb24, hsb2.below hb24, hss2.below hb24, hsp2.below hb24⟩
        have ORG : Hid (Sl ruleE w4 A l ∧ Sl intE w4 Ab bought ∧ Sl pieceE w4 As stock ∧ Sl intE w4 Ap plan ∧ Sl intE w4 A13 ps) := ⟨hs2.below hb24, hsa2.below hb24, hsk2.below hb24, hsq2.below hb24, hs13.below hb34⟩
        clear hsl2 hsb2 hss2 hsp2 hs2 hsa2 hsk2 hsq2 hs13 hb24 hb34 hb23 hb03 hB3 hB3s
        have HE : Hid (∀ W, Below w4.heap.size w4 W → Calls Tryz.prog 51 #[.slice Al2 l.length cl2, saleV fall Ab2 bought.length cb2, .slice As2 stock.length cs2, .slice Ap2 plan.length cp2] W fun e w' => e = .returned (.tuple #[iv ea, iv pe]) ∧ Below W.heap.size W w') := fun W h => by
          have := Earns_spec Al2 l cl2 fall Ab2 bought cb2 As2 stock cs2 W (by unfold big; omega) hcl2 (ARG.out.1.below h) (by unfold big; omega) (ARG.out.2.1.below h) (by unfold big; omega) (ARG.out.2.2.1.below h) Ap2 plan cp2 (by unfold big; omega) (ARG.out.2.2.2.below h)
          rw [← HEA.out] at this
          exact this
        have HXC : Hid (∀ W, Below w4.heap.size w4 W → Calls Tryz.prog 52 #[.slice Al2 l.length cl2, saleV fall Ab2 bought.length cb2, .slice As2 stock.length cs2, .slice Ap2 plan.length cp2] W fun e w' => e = .returned (.tuple #[iv xa, iv xb, iv xc]) ∧ Below W.heap.size W w') := fun W h => by
          have := Exchange_spec Al2 l cl2 fall Ab2 bought cb2 As2 stock cs2 W (by unfold big; omega) hcl2 (ARG.out.1.below h) (by unfold big; omega) (ARG.out.2.1.below h) (by unfold big; omega) (ARG.out.2.2.1.below h) Ap2 plan cp2 (by unfold big; omega) (ARG.out.2.2.2.below h)
          rw [← HX.out] at this
          exact this
        have HMC : Hid (∀ W, Below w4.heap.size w4 W → Calls Tryz.prog 53 #[.slice Al2 l.length cl2, saleV fall Ab2 bought.length cb2, .slice As2 stock.length cs2, .slice Ap2 plan.length cp2] W fun e w' => e = .returned (.tuple #[iv ma, iv mb, iv mc]) ∧ Below W.heap.size W w') := fun W h => by
          have := Move_spec Al2 l cl2 fall Ab2 bought cb2 As2 stock cs2 W (by unfold big; omega) hcl2 (ARG.out.1.below h) (by unfold big; omega) (ARG.out.2.1.below h) (by unfold big; omega) (ARG.out.2.2.1.below h) Ap2 plan cp2 (by unfold big; omega) (ARG.out.2.2.2.below h)
          rw [← HM.out] at this
          exact this
        have f0 := hB4s.cell 0
        have f1 := hB4s.cell 1
        have f2 := hB4s.lt
        have HE1 := Lib.hid (HE.out w4 (Below.refl _ _))
        go_wp2_with fail
        refine HE1.out.mono ?_
        rintro e x1 ⟨rfl, hb1'⟩
        have hBx1 := hB4s.under hb1'
        have g0 := hBx1.cell 0
        have g1 := hBx1.cell 1
        have g2 := hBx1.lt
        have HX1 := Lib.hid (HXC.out x1 hb1')
        clear f0 f1 f2 hBx1 HE1 HE HXC
        go_wp2_with fail
        refine HX1.out.mono ?_
        rintro e x2 ⟨rfl, hbx2⟩
        have hb2' := hb1'.next hbx2 (Nat.le_refl _)
        have hBx2 := hB4s.under hb2'
        have f0 := hBx2.cell 0
        have f1 := hBx2.cell 1
        have f2 := hBx2.lt
        have HM1 := Lib.hid (HMC.out x2 hb2')
        clear g0 g1 g2 hBx2 HX1 HMC hb1' hbx2
        go_wp2_with fail
        refine HM1.out.mono ?_
        rintro e x3 ⟨rfl, hbx3⟩
        have hb3' := hb2'.next hbx3 (Nat.le_refl _)
        have hBx3 := hB4s.under hb3'
        have hBy3 := hB4.under hb3'
        clear f0 f1 f2 HM1 hb2' hbx3
        have HFF : Hid (∀ a : World, Below x3.heap.size x3 a → (a.cell? ⟨g, 0, none⟩ = some (iv fall) ∧ a.cell? ⟨g, 1, none⟩ = some (.slice Ab2 bought.length cb2)) ∧ a.cell? ⟨w.heap.size, 0, none⟩ = some (iv fall) ∧ a.cell? ⟨w.heap.size, 1, none⟩ = some (.slice Ab bought.length cb)) := fun a h => ⟨⟨(hBx3.under h).cell 0, (hBx3.under h).cell 1⟩, (hBy3.under h).cell 0, (hBy3.under h).cell 1⟩
        obtain ⟨cs0, hcs0⟩ : ∃ x, x = Price.checkSale fall bought := ⟨_, rfl⟩
        have HK1 : Hid (∀ a : World, Below x3.heap.size x3 a → Calls Tryz.prog 13 #[saleV fall Ab2 bought.length cb2] a fun e w' => e = .returned (iv cs0) ∧ Below a.heap.size a w') := fun a h => by rw [hcs0]; exact checkSale_spec fall Ab2 bought cb2 a (by unfold big; omega) (ARG.out.2.1.below (hb3'.next h (Nat.le_refl _)))
        have HK2 : Hid (∀ a : World, Below x3.heap.size x3 a → Calls Tryz.prog 54 #[saleV fall Ab bought.length cb] a fun e w' => e = .returned (iv cs0) ∧ Below a.heap.size a w') := fun a h => by rw [hcs0]; exact checkSale2_spec fall Ab bought cb a (by unfold big; omega) (ORG.out.2.1.below (hb3'.next h (Nat.le_refl _)))
        clear hcs0 hBx3 hBy3
        go_wp2_with fail
        refine wp_havoc_lit (by kernel_rfl) (by kernel_rfl) ?_
        repeat (first
          | (refine hv_skip (by rfl) ?_; simp only [Act.put, List.setIfInBounds_toArray, List.set_cons_zero, List.set_cons_succ])
          | (apply hv_val (by rfl); (intro w hw; have F := HFF.out w hw; go_simp; exact rfl); simp only [Act.put, List.setIfInBounds_toArray, List.set_cons_zero, List.set_cons_succ])
          | (apply hv_call (by rfl); (intro w hw; have F := HFF.out w hw; go_simp; exact ⟨rfl, rfl⟩); (intro w hw; have F := HFF.out w hw; with_reducible exact HSO.out w); simp only [Act.put, List.setIfInBounds_toArray, List.set_cons_zero, List.set_cons_succ])
          | (apply hv_call (by rfl); (intro w hw; have F := HFF.out w hw; go_simp; exact ⟨rfl, rfl⟩); (intro w hw; have F := HFF.out w hw; with_reducible exact HK1.out w hw); simp only [Act.put, List.setIfInBounds_toArray, List.set_cons_zero, List.set_cons_succ])
          | (apply hv_call (by rfl); (intro w hw; have F := HFF.out w hw; go_simp; exact ⟨rfl, rfl⟩); (intro w hw; have F := HFF.out w hw; with_reducible exact HK2.out w hw); simp only [Act.put, List.setIfInBounds_toArray, List.set_cons_zero, List.set_cons_succ]))
        refine hv_nil ?_
        rintro x4 hbx4
        have hb4' := hb3'.next hbx4 (Nat.le_refl _)
        have hb05 := hb04.next hb4' (Nat.le_refl _)
        have hB5 := hB4.under hb4'
        have hB5s := hB4s.under hb4'
        have ARG5 : Hid (Sl ruleE x4 Al2 l ∧ Sl intE x4 Ab2 bought ∧ Sl pieceE x4 As2 stock ∧ Sl intE x4 Ap2 plan) := ⟨ARG.out.1.below hb4', ARG.out.2.1.below hb4', ARG.out.2.2.1.below hb4', ARG.out.2.2.2.below hb4'⟩
        have ORG5 : Hid (Sl ruleE x4 A l ∧ Sl intE x4 Ab bought ∧ Sl pieceE x4 As stock ∧ Sl intE x4 Ap plan ∧ Sl intE x4 A13 ps) := ⟨ORG.out.1.below hb4', ORG.out.2.1.below hb4', ORG.out.2.2.1.below hb4', ORG.out.2.2.2.1.below hb4', ORG.out.2.2.2.2.below hb4'⟩
        obtain ⟨M, hM⟩ : ∃ M, M = (Price.bestOf l fall bought stock).2.1 := ⟨_, rfl⟩
        obtain ⟨bp, hbp⟩ : ∃ bp, bp = (Price.bestOf l fall bought stock).1 := ⟨_, rfl⟩
        have hbe : (Price.bestOf l fall bought stock).2.2 = er := by
          rw [HER.out]; unfold Price.bestOf; split
          · rename_i h; exact h.symm
          · rfl
        have HBC := Best_spec Al2 l cl2 fall Ab2 bought cb2 As2 stock cs2 x4 (by unfold big; omega) hcl2 ARG5.out.1 (by unfold big; omega) ARG5.out.2.1 (by unfold big; omega) ARG5.out.2.2.1
        rw [hbe, ← hM, ← hbp] at HBC
        have HBB := Lib.hid HBC
        have HMM := Lib.hid hM
        have HBP := Lib.hid hbp
        have hee : (er != er) = false := by simp
        have hff : (fall != fall) = false := by simp
        have f0 := hB5s.cell 0
        have f1 := hB5s.cell 1
        have f2 := hB5s.lt
        clear HBC hM hbp hbe HFF HK1 HK2 hB4 hB4s hb4' hb3' hb04 ARG ORG hbx4
        go_wp2_with fail
        refine HBB.out.mono ?_
        rintro e x5 ⟨v32, rfl, ho5, hb5⟩
        obtain ⟨A5, c5, rfl, hc5, _⟩ := ho5.form
        have hs5 := ho5.sl
        have hb06 := hb05.next hb5 (Nat.le_refl _)
        have hB6 := hB5.under hb5
        have hB6s := hB5s.under hb5
        have HQR : Hid (∀ a, Below x4.heap.size x4 a → Calls Tryz.prog 29 #[.slice Al2 l.length cl2, .slice A l.length c] a fun e w' => e = .returned (.bool true) ∧ Below a.heap.size a w') := fun a h => by
          have := eqR Al2 l cl2 A l c a (by unfold big; omega) (ARG5.out.1.below h) (by unfold big; omega) (ORG5.out.1.below h)
          rw [decide_eq_true rfl] at this
          exact this
        have HQB : Hid (∀ a, Below x4.heap.size x4 a → Calls Tryz.prog 28 #[.slice Ab2 bought.length cb2, .slice Ab bought.length cb] a fun e w' => e = .returned (.bool true) ∧ Below a.heap.size a w') := fun a h => by
          have := eqI Ab2 bought cb2 Ab bought cb a (by unfold big; omega) (ARG5.out.2.1.below h) (by unfold big; omega) (ORG5.out.2.1.below h)
          rw [decide_eq_true rfl] at this
          exact this
        have HQS : Hid (∀ a, Below x4.heap.size x4 a → Calls Tryz.prog 35 #[.slice As2 stock.length cs2, .slice As stock.length cs] a fun e w' => e = .returned (.bool true) ∧ Below a.heap.size a w') := fun a h => by
          have := eqP As2 stock cs2 As stock cs a (by unfold big; omega) (ARG5.out.2.2.1.below h) (by unfold big; omega) (ORG5.out.2.2.1.below h)
          rw [decide_eq_true rfl] at this
          exact this
        have HQP : Hid (∀ a, Below x4.heap.size x4 a → Calls Tryz.prog 28 #[.slice Ap2 plan.length cp2, .slice Ap plan.length cp] a fun e w' => e = .returned (.bool true) ∧ Below a.heap.size a w') := fun a h => by
          have := eqI Ap2 plan cp2 Ap plan cp a (by unfold big; omega) (ARG5.out.2.2.2.below h) (by unfold big; omega) (ORG5.out.2.2.2.1.below h)
          rw [decide_eq_true rfl] at this
          exact this
        have HQR1 := Lib.hid (HQR.out x5 hb5)
        have HBB6 : Hid (∀ a, Below x5.heap.size x5 a → (a.cell? ⟨g, 0, none⟩ = some (iv fall) ∧ a.cell? ⟨g, 1, none⟩ = some (.slice Ab2 bought.length cb2) ∧ g < a.heap.size) ∧ (a.cell? ⟨w.heap.size, 0, none⟩ = some (iv fall) ∧ a.cell? ⟨w.heap.size, 1, none⟩ = some (.slice Ab bought.length cb) ∧ w.heap.size < a.heap.size)) := fun a h => ⟨⟨(hB6s.under h).cell 0, (hB6s.under h).cell 1, (hB6s.under h).lt⟩, (hB6.under h).cell 0, (hB6.under h).cell 1, (hB6.under h).lt⟩
        clear f0 f1 f2 HBB ho5 hB5 hB5s hB6 hB6s
        go_wp2_with fail
        refine HQR1.out.mono ?_
        rintro e x6 ⟨rfl, hb56⟩
        obtain ⟨⟨k0, k1, k2⟩, k3, k4, k5⟩ := HBB6.out x6 hb56
        have HQB1 := Lib.hid (HQB.out x6 (hb5.next hb56 (Nat.le_refl _)))
        go_wp2_with fail
        refine HQB1.out.mono ?_
        rintro e x7 ⟨rfl, hb67⟩
        have hb57 := hb56.next hb67 (Nat.le_refl _)
        have HQS1 := Lib.hid (HQS.out x7 (hb5.next hb57 (Nat.le_refl _)))
        clear k0 k1 k2 k3 k4 k5
        go_wp2_with fail
        refine HQS1.out.mono ?_
        rintro e x8 ⟨rfl, hb78⟩
        have hb58 := hb57.next hb78 (Nat.le_refl _)
        have HQP1 := Lib.hid (HQP.out x8 (hb5.next hb58 (Nat.le_refl _)))
        go_wp2_with fail
        refine HQP1.out.mono ?_
        rintro e x9 ⟨rfl, hb89⟩
        have hb59 := hb58.next hb89 (Nat.le_refl _)
        have hb09 := hb06.next hb59 (Nat.le_refl _)
        obtain ⟨⟨k0, k1, k2⟩, k3, k4, k5⟩ := HBB6.out x9 hb59
        clear HQR HQB HQS HQP HQR1 HQB1 HQS1 HQP1 hb56 hb67 hb57 hb78 hb58 hb89
        by_cases h0 : er = 0
        · have h0' : (er != 0) = false := by simp [h0]
          have hop : Price.openErr l fall bought stock = 0 := by rw [← HER.out]; exact h0
          have hok := Price.openErr_ok hop
          have hsh := Price.shop_of hop
          have hpsE : ps = (Price.stocked l stock).1 := by rw [HPS.out]; unfold Price.stockedOf; rw [if_pos hop]
          rw [← hpsE] at hsh
          have hb0 : bp = Price.bestPlan ps bought := by rw [HBP.out, hpsE]; unfold Price.bestOf; rw [if_pos hop]
          have hM0 : M = Price.earns fall ps bp := by rw [HMM.out, hb0, hpsE]; unfold Price.bestOf; rw [if_pos hop]
          have hbl : bp.length = stock.length := by rw [hb0]; exact hsh.best.2
          have hbP : Price.Plan bought bp := by rw [hb0]; exact hsh.best.1
          have hpe2 : Price.planErr2 bought stock.length bp = 0 := by rw [← Price.planErr_2 bp hop]; exact Price.planErr_plan hop hbl hbP
          have hx0 : Price.searchIK (Price.better2 fall ps bp) bp.length 0 bp.length = none := by
            rw [hbl, ← hsh.search2 hbl, hb0]; exact hsh.best_exch
          have hm0 : Price.searchIW (Price.betterMove fall bought ps bp) bought.length 0 bp.length = none := by
            rw [hbl, hb0]; exact hsh.best_move
          have hmo : Price.mostOf fall ps bought = M := by rw [hM0, hb0]; exact hsh.mostOf
          have hlen : bp.length = ps.length := by rw [hbl, hsh.len]
          have h10 : bp.length ≤ 10 := by rw [hbl]; exact hsh.ten
          have hw1 : ∀ x ∈ bp, -1 ≤ x ∧ x < bought.length := fun x hx => by have := hbP.weeks x hx; omega
          have hw2 : ∀ x ∈ bp, -1 ≤ x ∧ x ≤ 100 := fun x hx => by have := hw1 x hx; omega
          have ho9 : Sl intE x9 Ab bought ∧ Sl intE x9 A13 ps ∧ Sl intE x9 A5 bp := ⟨ORG5.out.2.1.below (hb5.next hb59 (Nat.le_refl _)), ORG5.out.2.2.2.2.below (hb5.next hb59 (Nat.le_refl _)), hs5.below hb59⟩
          have HPL : Hid (∀ W, Below x9.heap.size x9 W → Calls Tryz.prog 47 #[saleV fall Ab bought.length cb, iv stock.length, .slice A5 bp.length c5] W fun e w' => e = .returned (iv 0) ∧ Below W.heap.size W w') := fun W h => by
            have := planned2_spec fall Ab bought cb stock.length A5 bp c5 W (by omega) (by unfold big; omega) (ho9.1.below h) (ho9.2.2.below h) hok.hbought
            rw [hpe2] at this
            exact this
          have HE2 : Hid (∀ W, Below x9.heap.size x9 W → Calls Tryz.prog 48 #[saleV fall Ab bought.length cb, .slice A13 ps.length c13, .slice A5 bp.length c5] W fun e w' => e = .returned (iv M) ∧ Below W.heap.size W w') := fun W h => by
            rw [hM0]
            exact earns2_spec fall Ab bought.length cb A13 ps c13 A5 bp c5 W (ho9.2.1.below h) (ho9.2.2.below h) hlen (by omega) hok.hfall0 hok.hfall1 hsh.bnd hw2
          have HX2 : Hid (∀ W, Below x9.heap.size x9 W → Calls Tryz.prog 49 #[saleV fall Ab bought.length cb, .slice A13 ps.length c13, .slice A5 bp.length c5] W fun e w' => e = .returned (.tuple #[iv 0, iv 0, .bool false]) ∧ Below W.heap.size W w') := fun W h =>
            exchange2_spec fall Ab bought.length cb A13 ps c13 A5 bp c5 W (ho9.2.1.below h) (ho9.2.2.below h) hlen (by omega) hok.hfall0 hok.hfall1 hsh.bnd hw2 none hx0.symm
          have HM2 : Hid (∀ W, Below x9.heap.size x9 W → Calls Tryz.prog 50 #[saleV fall Ab bought.length cb, .slice A13 ps.length c13, .slice A5 bp.length c5] W fun e w' => e = .returned (.tuple #[iv 0, iv 0, .bool false]) ∧ Below W.heap.size W w') := fun W h =>
            move2_spec fall Ab bought cb A13 ps c13 A5 bp c5 W (ho9.1.below h) (by omega) hok.hbought (ho9.2.1.below h) (ho9.2.2.below h) hlen (by omega) hok.hfall0 hok.hfall1 hsh.bnd hw1 none hm0.symm
          have HMO : Hid (∀ (W : World) (Al : Option Addr) (cl B : Nat), Below x9.heap.size x9 W → x9.heap.size ≤ B → Own intE 3 B W (.slice Al bought.length cl) bought → Calls Tryz.prog 56 #[saleV fall Ab bought.length cb, .slice A13 ps.length c13, .slice Al bought.length cl, iv 0] W fun e w' => e = .returned (iv M) ∧ Below W.heap.size W w') := fun W Al cl B h hB hown => by
            have := most2_spec fall Ab bought.length cb A13 ps c13 hok.hfall0 hok.hfall1 hsh.bnd (by rw [← hsh.len]; exact hsh.ten) ps.length 0 bought Al cl B W (by omega) (by omega) (fun j => by
              by_cases hj : j < bought.length
              · have := hok.hbought _ (Price.getD_mem hj); omega
              · rw [List.getD_eq_getElem?_getD, List.getElem?_eq_none (by omega)]; simp) (ho9.2.1.below h) hown (fun b off s hA hne => by
              obtain ⟨b', off', hA', hb', _⟩ := ho9.2.1 hne
              rw [hA] at hA'
              injection hA' with hA'
              injection hA' with e1 _
              omega)
            rw [List.drop_zero, hmo] at this
            exact this
          have HDU : Hid (∀ W, Below x9.heap.size x9 W → Calls Tryz.prog 42 #[.slice Ab bought.length cb] W fun e w' => ∃ v, e = .returned v ∧ Own intE 3 W.heap.size w' v bought ∧ Below W.heap.size W w') := fun W h => dupI Ab bought cb W (by unfold big; omega) (ho9.1.below h)
          have hMM : (M != M) = false := by simp
          have hME : (M == M) = true := by simp
          have HBX : Hid (∀ a, Below x9.heap.size x9 a → a.cell? ⟨w.heap.size, 0, none⟩ = some (iv fall) ∧ a.cell? ⟨w.heap.size, 1, none⟩ = some (.slice Ab bought.length cb) ∧ w.heap.size < a.heap.size) := fun a h => (HBB6.out a (hb59.next h (Nat.le_refl _))).2
          have hst10 := hsh.ten
          have hbo8 := hok.hweeks1
          clear h0 hop hok hsh hpsE hb0 hM0 hbl hbP hpe2 hx0 hm0 hmo hlen hw1 hw2 ho9 k0 k1 k2 ARG5 ORG5 HBB6 hs5
          go_wp2_with fail
          refine (HSO.out x9).mono ?_
          rintro e y1 ⟨rfl, hy1⟩
          have H1 := Lib.hid (HPL.out y1 hy1)
          obtain ⟨k0, k1, k2⟩ := HBX.out y1 hy1
          clear k3 k4 k5
          go_wp2_with fail
          refine H1.out.mono ?_
          rintro e y2 ⟨rfl, hy2'⟩
          have hy2 := hy1.next hy2' (Nat.le_refl _)
          clear k0 k1 k2 H1 HPL hy2'
          obtain ⟨k0, k1, k2⟩ := HBX.out y2 hy2
          go_wp2_with fail
          refine (HSO.out y2).mono ?_
          rintro e y3 ⟨rfl, hy3'⟩
          have hy3 := hy2.next hy3' (Nat.le_refl _)
          have H1 := Lib.hid (HE2.out y3 hy3)
          clear k0 k1 k2 hy3'
          go_wp2_with fail
          refine H1.out.mono ?_
          rintro e y4 ⟨rfl, hy4'⟩
          have hy4 := hy3.next hy4' (Nat.le_refl _)
          obtain ⟨k0, k1, k2⟩ := HBX.out y4 hy4
          clear H1 HE2 hy4'
          go_wp2_with fail
          refine (HSO.out y4).mono ?_
          rintro e y5 ⟨rfl, hy5'⟩
          have hy5 := hy4.next hy5' (Nat.le_refl _)
          have H1 := Lib.hid (HX2.out y5 hy5)
          clear k0 k1 k2 hy5'
          go_wp2_with fail
          refine H1.out.mono ?_
          rintro e y6 ⟨rfl, hy6'⟩
          have hy6 := hy5.next hy6' (Nat.le_refl _)
          obtain ⟨k0, k1, k2⟩ := HBX.out y6 hy6
          clear H1 HX2 hy6'
          go_wp2_with fail
          refine (HSO.out y6).mono ?_
          rintro e y7 ⟨rfl, hy7'⟩
          have hy7 := hy6.next hy7' (Nat.le_refl _)
          have H1 := Lib.hid (HM2.out y7 hy7)
          clear k0 k1 k2 hy7'
          go_wp2_with fail
          refine H1.out.mono ?_
          rintro e y8 ⟨rfl, hy8'⟩
          have hy8 := hy7.next hy8' (Nat.le_refl _)
          clear H1 HM2 hy8' hy1 hy2 hy3 hy4 hy5 hy6 hy7
          have HFF : Hid (∀ a : World, Below y8.heap.size y8 a → a.cell? ⟨w.heap.size, 0, none⟩ = some (iv fall) ∧ a.cell? ⟨w.heap.size, 1, none⟩ = some (.slice Ab bought.length cb)) := fun a h => ⟨(HBX.out a (hy8.next h (Nat.le_refl _))).1, (HBX.out a (hy8.next h (Nat.le_refl _))).2.1⟩
          have hby8 := hb09.next hy8 (Nat.le_refl _)
          have HA : Hid (∀ a : World, Calls Tryz.prog 14 #[] a fun e w' => e = .returned (.bool true) ∧ Below a.heap.size a w') := fun a => awake_spec a
          clear HBX
          by_cases h5 : 5 < stock.length
          · have h5' : (5 : Int) < (stock.length : Int) := by omega
            have h5b : decide ((5 : Int) < (stock.length : Int)) = true := decide_eq_true h5'
            have h5c : decide (5 < stock.length) = true := decide_eq_true h5
            go_wp2_with fail
            refine wp_havoc_lit (by kernel_rfl) (by kernel_rfl) ?_
            repeat (first
              | (refine hv_skip (by rfl) ?_; simp only [Act.put, List.setIfInBounds_toArray, List.set_cons_zero, List.set_cons_succ])
              | (apply hv_val (by rfl); (intro w hw; have F := HFF.out w hw; go_simp; exact rfl); simp only [Act.put, List.setIfInBounds_toArray, List.set_cons_zero, List.set_cons_succ])
              | (apply hv_call (by rfl); (intro w hw; have F := HFF.out w hw; go_simp; exact ⟨rfl, rfl⟩); (intro w hw; have F := HFF.out w hw; with_reducible exact HA.out w); simp only [Act.put, List.setIfInBounds_toArray, List.set_cons_zero, List.set_cons_succ]))
            refine hv_nil ?_
            rintro y9 hy9
            go_wp2
            go_ret
            exact ⟨rfl, hby8.next hy9 (Nat.le_refl _)⟩
          · have h5' : ¬ (5 : Int) < (stock.length : Int) := by omega
            have h5b : decide ((5 : Int) < (stock.length : Int)) = false := decide_eq_false h5'
            have h5c : decide (5 < stock.length) = false := decide_eq_false h5
            by_cases h6 : 5 < bought.length
            · have h6' : (5 : Int) < (bought.length : Int) := by omega
              have h6b : decide ((5 : Int) < (bought.length : Int)) = true := decide_eq_true h6'
              have h6c : decide (5 < bought.length) = true := decide_eq_true h6
              go_wp2_with fail
              refine wp_havoc_lit (by kernel_rfl) (by kernel_rfl) ?_
              repeat (first
                | (refine hv_skip (by rfl) ?_; simp only [Act.put, List.setIfInBounds_toArray, List.set_cons_zero, List.set_cons_succ])
                | (apply hv_val (by rfl); (intro w hw; have F := HFF.out w hw; go_simp; exact rfl); simp only [Act.put, List.setIfInBounds_toArray, List.set_cons_zero, List.set_cons_succ])
                | (apply hv_call (by rfl); (intro w hw; have F := HFF.out w hw; go_simp; exact ⟨rfl, rfl⟩); (intro w hw; have F := HFF.out w hw; with_reducible exact HA.out w); simp only [Act.put, List.setIfInBounds_toArray, List.set_cons_zero, List.set_cons_succ]))
              refine hv_nil ?_
              rintro y9 hy9
              go_wp2
              go_ret
              exact ⟨rfl, hby8.next hy9 (Nat.le_refl _)⟩
            · have h6' : ¬ (5 : Int) < (bought.length : Int) := by omega
              have h6b : decide ((5 : Int) < (bought.length : Int)) = false := decide_eq_false h6'
              have h6c : decide (5 < bought.length) = false := decide_eq_false h6
              have HSS : Hid (∀ a : World, Below y8.heap.size y8 a → Below y8.heap.size y8 a ∧ (a.cell? ⟨w.heap.size, 0, none⟩ = some (iv fall) ∧ a.cell? ⟨w.heap.size, 1, none⟩ = some (.slice Ab bought.length cb))) := fun a h => ⟨h, HFF.out a h⟩
              have HK0 := Lib.hid (HSS.out y8.drew (Below.refl _ _).drew)
              go_wp2_with fail
              go_region_held3 (fun a => Below y8.heap.size y8 a ∧ (a.cell? ⟨w.heap.size, 0, none⟩ = some (iv fall) ∧ a.cell? ⟨w.heap.size, 1, none⟩ = some (.slice Ab bought.length cb)))
                (first | assumption | exact HK0.out | exact HSS.out _ HX1.out | exact HSS.out _ HX2.out | exact HSS.out _ HX3.out | exact HSS.out _ HX4.out)
                (first
                  | (go_at_call 45; refine (HSO.out _).mono ?_; rintro e z1 ⟨rfl, hz1⟩; have HX1 := Lib.hid ((And.left ‹Below y8.heap.size y8 _ ∧ _›).next hz1 (Nat.le_refl _)))
                  | (go_at_call 42; refine (HDU.out _ (hy8.next (And.left ‹Below y8.heap.size y8 _ ∧ _›) (Nat.le_refl _))).mono ?_; rintro e z2 ⟨v, rfl, hown, hz2⟩; have HX2 := Lib.hid ((And.left ‹Below y8.heap.size y8 _ ∧ _›).next hz2 (Nat.le_refl _)); have hzB := HX1.out.size; obtain ⟨A', c', rfl, _, _⟩ := hown.form; have HOW := Lib.hid hown)
                  | (go_at_call 56; refine (HMO.out _ _ _ _ (hy8.next HX2.out (Nat.le_refl _)) (Nat.le_trans hy8.size hzB) HOW.out).mono ?_; rintro e z3 ⟨rfl, hz3⟩; have HX3 := Lib.hid (HX2.out.next hz3 (Nat.le_refl _)))
                  | (go_at_call 14; refine (HA.out _).mono ?_; rintro e z4 ⟨rfl, hz4⟩; have HX4 := Lib.hid (HX3.out.next hz4 (Nat.le_refl _))))
              all_goals
                go_wp2
                go_ret
                exact ⟨rfl, hby8.next HX4.out (Nat.le_refl _)⟩
        · have h0' : (er != 0) = true := bne_iff_ne.2 h0
          have hop : ¬ Price.openErr l fall bought stock = 0 := by rw [← HER.out]; exact h0
          have hb0 : bp = [] := by rw [HBP.out]; unfold Price.bestOf; rw [if_neg hop]
          have hM0 : M = 0 := by rw [HMM.out]; unfold Price.bestOf; rw [if_neg hop]
          subst hb0 hM0
          have HA := Lib.hid (awake_spec x9)
          clear h0 hop
          go_wp2_with (go_at_call 14; refine HA.out.mono ?_; rintro e x10 ⟨rfl, hb910⟩)
          go_ret
          exact ⟨rfl, hb09.next hb910 (Nat.le_refl _)⟩
end Go.Proofs.YtkailkfiakagfaaGreat
