/- slices.Clone and petershamkit.Dup; the error of a sale. Condition: lengths are below a great bound. -/
import Derived.Test.YtkailkfiakagfaaGreatPriceE
import Derived.Test.YtkailkfiakagfaaGreatMem2
import Derived.Lib.SliceRun
set_option linter.unusedVariables false
set_option linter.unusedSimpArgs false
namespace Go.Proofs.YtkailkfiakagfaaGreat
open Go.RowKit
set_option maxRecDepth 100000

theorem tyRules : SlTy Tryz.prog 23 28 4 := slTy_of (z := .agg #[iv 0, iv 0, iv 0, iv 0]) (bytes := 32) Tryz.underlying23 (by kernel_rfl) rfl (by decide)
theorem tyPieces : SlTy Tryz.prog 31 26 3 := slTy_of (z := .agg #[iv 0, iv 0, iv 0]) (bytes := 24) Tryz.underlying31 (by kernel_rfl) rfl (by decide)

theorem cloneI (A : Option Addr) (l : List Int) (c : Nat) (w : World) (hm : l.length ≤ big) (hs : Sl intE w A l) :
    Calls Tryz.prog 64 #[.slice A l.length c] w fun e w' => ∃ v, e = .returned v ∧ Own intE 3 w.heap.size w' v l ∧ Below w.heap.size w w' := by
  cases A with
  | none =>
    have hl : l = [] := by
      by_cases h : l = []
      · exact h
      · obtain ⟨_, _, h, _⟩ := hs h; cases h
    subst hl
    have hnil := fun w => Lib.run_eql_slice_nil (P := Tryz.prog) w 22 3 none 0 c 0 0 Tryz.underlying22
    go_enter Tryz.func64, Tryz.ntmps64
    go_wp2
    go_ret
    exact ⟨_, rfl, Own.nil, Below.refl _ _⟩
  | some ad =>
    have hnil := fun w => Lib.run_eql_slice_nil (P := Tryz.prog) w 22 3 (some ad) l.length c 0 0 Tryz.underlying22
    go_enter Tryz.func64, Tryz.ntmps64
    go_wp2_with (at_builtin; refine wpAppS intE tyInts rfl _ _ rfl (Own.empty (Nat.le_refl _)) (hs.alloc _) rfl rfl (by simp) (by simpa using hm) ?_; intro v1 w1 hown1 hb1 _)
    go_ret
    exact ⟨_, rfl, by simpa using hown1, ((Below.refl _ _).alloc (Nat.le_refl _) _).trans hb1⟩
theorem cloneR (A : Option Addr) (l : List Rule) (c : Nat) (w : World) (hm : l.length ≤ big) (hs : Sl ruleE w A l) :
    Calls Tryz.prog 72 #[.slice A l.length c] w fun e w' => ∃ v, e = .returned v ∧ Own ruleE 28 w.heap.size w' v l ∧ Below w.heap.size w w' := by
  cases A with
  | none =>
    have hl : l = [] := by
      by_cases h : l = []
      · exact h
      · obtain ⟨_, _, h, _⟩ := hs h; cases h
    subst hl
    have hnil := fun w => Lib.run_eql_slice_nil (P := Tryz.prog) w 23 28 none 0 c 0 0 Tryz.underlying23
    go_enter Tryz.func72, Tryz.ntmps72
    go_wp2
    go_ret
    exact ⟨_, rfl, Own.nil, Below.refl _ _⟩
  | some ad =>
    have hnil := fun w => Lib.run_eql_slice_nil (P := Tryz.prog) w 23 28 (some ad) l.length c 0 0 Tryz.underlying23
    go_enter Tryz.func72, Tryz.ntmps72
    go_wp2_with (at_builtin; refine wpAppS ruleE tyRules rfl _ _ rfl (Own.empty (Nat.le_refl _)) (hs.alloc _) rfl rfl (by simp) (by simpa using hm) ?_; intro v1 w1 hown1 hb1 _)
    go_ret
    exact ⟨_, rfl, by simpa using hown1, ((Below.refl _ _).alloc (Nat.le_refl _) _).trans hb1⟩
theorem dupI (A : Option Addr) (l : List Int) (c : Nat) (w : World) (hm : l.length ≤ big) (hs : Sl intE w A l) :
    Calls Tryz.prog 42 #[.slice A l.length c] w fun e w' => ∃ v, e = .returned v ∧ Own intE 3 w.heap.size w' v l ∧ Below w.heap.size w w' := by
  go_enter Tryz.func42, Tryz.ntmps42
  go_wp2_with (first
    | (at_make; refine wpMake0 intE tyInts rfl _ _ rfl l.length rfl rfl hm ?_; intro w1 hown1 hb1)
    | (at_builtin; refine wpAppS intE tyInts rfl _ _ rfl hown1 (hs.below hb1) rfl rfl hb1.size (by simpa using hm) ?_; intro v2 w2 hown2 hb2 _))
  go_ret
  exact ⟨_, rfl, by simpa using hown2, hb1.trans hb2⟩
theorem dupR (A : Option Addr) (l : List Rule) (c : Nat) (w : World) (hm : l.length ≤ big) (hs : Sl ruleE w A l) :
    Calls Tryz.prog 19 #[.slice A l.length c] w fun e w' => ∃ v, e = .returned v ∧ Own ruleE 28 w.heap.size w' v l ∧ Below w.heap.size w w' := by
  go_enter Tryz.func19, Tryz.ntmps19
  go_wp2_with (first
    | (at_make; refine wpMake0 ruleE tyRules rfl _ _ rfl l.length rfl rfl hm ?_; intro w1 hown1 hb1)
    | (at_builtin; refine wpAppS ruleE tyRules rfl _ _ rfl hown1 (hs.below hb1) rfl rfl hb1.size (by simpa using hm) ?_; intro v2 w2 hown2 hb2 _))
  go_ret
  exact ⟨_, rfl, by simpa using hown2, hb1.trans hb2⟩
theorem dupP (A : Option Addr) (l : List Piece) (c : Nat) (w : World) (hm : l.length ≤ big) (hs : Sl pieceE w A l) :
    Calls Tryz.prog 43 #[.slice A l.length c] w fun e w' => ∃ v, e = .returned v ∧ Own pieceE 26 w.heap.size w' v l ∧ Below w.heap.size w w' := by
  go_enter Tryz.func43, Tryz.ntmps43
  go_wp2_with (first
    | (at_make; refine wpMake0 pieceE tyPieces rfl _ _ rfl l.length rfl rfl hm ?_; intro w1 hown1 hb1)
    | (at_builtin; refine wpAppS pieceE tyPieces rfl _ _ rfl hown1 (hs.below hb1) rfl rfl hb1.size (by simpa using hm) ?_; intro v2 w2 hown2 hb2 _))
  go_ret
  exact ⟨_, rfl, by simpa using hown2, hb1.trans hb2⟩

abbrev saleV (fall : Int) (A : Option Addr) (n c : Nat) : Value := .agg #[iv fall, .slice A n c]
theorem nines_spec (n : Int) (w : World) : Calls Tryz.prog 62 #[iv n] w fun e w' => e = .returned (.bool (Price.inB n 0 9)) ∧ w = w' := by
  go_enter Tryz.func62, Tryz.ntmps62
  go_wp2_with (go_at_call 60; refine (in_spec _ _ _ _).mono ?_; rintro e w' ⟨rfl, rfl⟩)
  go_ret
  exact ⟨rfl, rfl⟩
theorem ninesPred (w : World) (l : List Int) : IsPred Tryz.prog w 62 #[] iv l (Price.inB · 0 9) :=
  ⟨callFunc_run (by kernel_rfl), fun x _ w' _ => (nines_spec x w').mono fun _ _ h => ⟨h.1, by rw [← h.2]; exact Below.refl _ _⟩⟩
theorem checkSale_spec (fall : Int) (A : Option Addr) (l : List Int) (c : Nat) (w : World) (hm : l.length ≤ big) (hs : Sl intE w A l) :
    Calls Tryz.prog 13 #[saleV fall A l.length c] w fun e w' => e = .returned (iv (Price.checkSale fall l)) ∧ Below w.heap.size w w' := by
  cases h1 : Price.inB l.length 1 8
  · go_enter Tryz.func13, Tryz.ntmps13
    go_wp2_with (go_at_call 60; refine (in_spec _ _ _ _).mono ?_; rintro e w' ⟨rfl, rfl⟩; rw [h1])
    go_ret
    exact ⟨ret_eq (by simp [Price.checkSale, h1]), (Below.refl _ _).alloc (Nat.le_refl _) _⟩
  · cases h2 : Price.inB fall 0 30
    · go_enter Tryz.func13, Tryz.ntmps13
      go_wp2_with (go_at_call 60; refine (in_spec _ _ _ _).mono ?_; rintro e w' ⟨rfl, rfl⟩; first | rw [h1] | rw [h2])
      go_ret
      exact ⟨ret_eq (by simp [Price.checkSale, h1, h2]), (Below.refl _ _).alloc (Nat.le_refl _) _⟩
    · cases h3 : l.all (Price.inB · 0 9)
      all_goals
        go_enter Tryz.func13, Tryz.ntmps13
        go_wp2_with (first
          | (go_at_call 60; refine (in_spec _ _ _ _).mono ?_; rintro e w' ⟨rfl, rfl⟩; first | rw [h1] | rw [h2])
          | (go_at_call 61; refine (everyI A l c _ #[] _ _ hm (hs.alloc _) (ninesPred _ l)).mono ?_; rintro e w1 ⟨rfl, hb1⟩; rw [h3]))
        go_ret
        exact ⟨ret_eq (by simp [Price.checkSale, h1, h2, h3]), hb1.of_alloc⟩
end Go.Proofs.YtkailkfiakagfaaGreat
-- price.Price; the rate of a week, the room of a plan. Conditions: lengths are below a great bound.
namespace Go.Proofs.YtkailkfiakagfaaGreat
open Go.RowKit
set_option maxRecDepth 100000

/-- What price.Price answers. -/
def Price.price (l : List Rule) (q : Piece) : Int × Int := if Price.check l = 0 then (if Price.isP q then Price.priced l q else (0, 3)) else (0, Price.check l)
theorem price_spec (A : Option Addr) (l : List Rule) (c : Nat) (q : Piece) (w : World) (hm : l.length ≤ big) (hc : l.length ≤ c) (hs : Sl ruleE w A l) :
    Calls Tryz.prog 32 #[.slice A l.length c, q.v] w fun e w' => e = .returned (.tuple #[iv (Price.price l q).1, iv (Price.price l q).2]) ∧ Below w.heap.size w w' := by
  obtain ⟨x, y, z⟩ := q
  by_cases h0 : Price.check l = 0
  · have hp := Price.check_prices h0
    cases h1 : Price.isP ⟨x, y, z⟩
    · have hval : Price.price l ⟨x, y, z⟩ = (0, 3) := by simp [Price.price, h0, h1]
      have HV := Lib.hid hval
      clear hval
      go_enter Tryz.func32, Tryz.ntmps32
      go_wp2_with (first
        | (go_at_call 12; refine (check_spec A l c _ hm hc (hs.alloc _)).mono ?_; rintro e w1 ⟨rfl, hb1⟩; rw [h0]; obtain ⟨k0, k0f, k0l, k0e, k0n, k0x⟩ := aft hb1 (w.heap.size) (by (try simp [go_sem]); (try omega)); (try simp [go_sem] at k0 k0f))
        | (go_at_call 69; refine (is_spec ⟨x, y, z⟩ _).mono ?_; rintro e w2 ⟨rfl, hb2⟩; rw [h1]))
      go_ret2
      exact ⟨(by rw [HV.out]; rfl), hb1.of_alloc.next hb2 (Nat.le_refl _)⟩
    · have hval : Price.price l ⟨x, y, z⟩ = Price.priced l ⟨x, y, z⟩ := by simp [Price.price, h0, h1]
      have HV := Lib.hid hval
      clear hval
      go_enter Tryz.func32, Tryz.ntmps32
      go_wp2_with (first
        | (go_at_call 12; refine (check_spec A l c _ hm hc (hs.alloc _)).mono ?_; rintro e w1 ⟨rfl, hb1⟩; rw [h0]; obtain ⟨k0, k0f, k0l, k0e, k0n, k0x⟩ := aft hb1 (w.heap.size) (by (try simp [go_sem]); (try omega)); (try simp [go_sem] at k0 k0f))
        | (go_at_call 69; refine (is_spec ⟨x, y, z⟩ _).mono ?_; rintro e w2 ⟨rfl, hb2⟩; rw [h1]; obtain ⟨k1, k1f, k1l, k1e, k1n, k1x⟩ := aft hb2 (w.heap.size) (by (try simp [go_sem]); (try omega)); (try simp [go_sem] at k1 k1f))
        | (go_at_call 66; refine (priced_spec A l c ⟨x, y, z⟩ _ hm ((hs.below hb1.of_alloc).below hb2) hp).mono ?_; rintro e w3 ⟨rfl, hb3⟩))
      go_ret2
      exact ⟨(by rw [HV.out]; rfl), (hb1.of_alloc.next hb2 (Nat.le_refl _)).next hb3 (Nat.le_refl _)⟩
  · have hval : Price.price l ⟨x, y, z⟩ = (0, Price.check l) := by simp [Price.price, h0]
    have HV := Lib.hid hval
    have h0' : (Price.check l != 0) = true := by simpa using h0
    clear hval
    go_enter Tryz.func32, Tryz.ntmps32
    go_wp2_with (go_at_call 12; refine (check_spec A l c _ hm hc (hs.alloc _)).mono ?_; rintro e w1 ⟨rfl, hb1⟩)
    go_ret2
    exact ⟨(by rw [HV.out]; rfl), hb1.of_alloc⟩

theorem greatest1_spec (x : Int) (w : World) (g : Nat) (hg : g = w.heap.size) : Calls Tryz.prog 96 #[.slice (some ⟨g, 0, none⟩) 1 1] (w.alloc (.cells #[.int .i64 x] 3)) fun e w' =>
    e = .returned (iv (max 0 x)) ∧ w.alloc (.cells #[.int .i64 x] 3) = w' := by
  subst hg
  refine greatest_spec (some ⟨w.heap.size, 0, none⟩) [x] 1 _ (by simp [big]) ?_
  intro _
  refine ⟨w.heap.size, 0, rfl, by simp, fun i y hi j u hu => ?_⟩
  match i, hi with
  | 0, hi =>
    simp at hi
    subst hi
    match j, hu with
    | 0, hu => simp [intE] at hu; subst hu; simp [intE, go_sem]
theorem rate_spec (fall week : Int) (A : Option Addr) (n c : Nat) (w : World) (h1 : 0 ≤ fall) (h2 : fall ≤ 30) (h3 : -1 ≤ week) (h4 : week ≤ 100) :
    Calls Tryz.prog 98 #[saleV fall A n c, iv week] w fun e w' => e = .returned (iv (Price.rate fall week)) ∧ Below w.heap.size w w' := by
  by_cases h : week = -1
  · subst h
    go_enter Tryz.func98, Tryz.ntmps98
    go_wp2
    go_ret
    exact ⟨ret_eq (by simp [Price.rate]), (Below.refl _ _).alloc (Nat.le_refl _) _⟩
  · have hm0 : 0 ≤ fall * week := Int.mul_nonneg h1 (by omega)
    have hm1 : fall * week ≤ 3000 := by have := Int.mul_le_mul h2 h4 (by omega) (by omega); omega
    go_enter Tryz.func98, Tryz.ntmps98
    go_wp2_with (go_at_call 96; refine (greatest1_spec (100 - fall * week) _ _ (by simp)).mono ?_; rintro e w1 ⟨rfl, rfl⟩)
    go_ret
    exact ⟨ret_eq (by simp [Price.rate, h]), ((Below.refl _ _).alloc (Nat.le_refl _) _).alloc (by simp) _⟩

/-- The desk: a block of the call's own that holds the sale, the stock, and the prices. -/
structure Desk (w : World) (g : Nat) (fall : Int) (bought : List Int) (stock : List Piece) (prices : List Int) (Ab : Option Addr) (cb : Nat) (As : Option Addr) (cs : Nat) (Ap : Option Addr) (cp : Nat) : Prop where
  lt : g < w.heap.size
  c0 : w.cell? ⟨g, 0, none⟩ = some (iv fall)
  c1 : w.cell? ⟨g, 1, none⟩ = some (.slice Ab bought.length cb)
  c2 : w.cell? ⟨g, 2, none⟩ = some (.slice As stock.length cs)
  c3 : w.cell? ⟨g, 3, none⟩ = some (.slice Ap prices.length cp)
  sb : Sl intE w Ab bought
  ss : Sl pieceE w As stock
  sp : Sl intE w Ap prices
theorem Desk.below {w w' : World} {g : Nat} {fall : Int} {bought : List Int} {stock : List Piece} {prices : List Int} {Ab : Option Addr} {cb : Nat} {As : Option Addr} {cs : Nat} {Ap : Option Addr} {cp : Nat}
    (h : Desk w g fall bought stock prices Ab cb As cs Ap cp) (hb : Below w.heap.size w w') : Desk w' g fall bought stock prices Ab cb As cs Ap cp :=
  have hc := fun o => hb.cell (p := ⟨g, o, none⟩) h.lt
  ⟨Nat.lt_of_lt_of_le h.lt hb.size, (hc 0).trans h.c0, (hc 1).trans h.c1, (hc 2).trans h.c2, (hc 3).trans h.c3, h.sb.below hb, h.ss.below hb, h.sp.below hb⟩

theorem earns_spec (g : Nat) (fall : Int) (bought : List Int) (stock : List Piece) (prices : List Int) (Ab : Option Addr) (cb : Nat) (As : Option Addr) (cs : Nat) (Ap : Option Addr) (cp : Nat) (A : Option Addr) (plan : List Int) (c : Nat) (w : World)
    (hd : Desk w g fall bought stock prices Ab cb As cs Ap cp) (hs : Sl intE w A plan) (hl : plan.length = prices.length) (hm : plan.length ≤ 1000) (h1 : 0 ≤ fall) (h2 : fall ≤ 30)
    (hp : ∀ p ∈ prices, 0 ≤ p ∧ p ≤ 500) (hw : ∀ x ∈ plan, -1 ≤ x ∧ x ≤ 100) :
    Calls Tryz.prog 81 #[.pointer (some ⟨g, 0, none⟩), .slice A plan.length c] w fun e w' => e = .returned (iv (Price.earns fall prices plan)) ∧ Below w.heap.size w w' := by
  have HL := Lib.hid hl
  clear hl
  go_enter Tryz.func81, Tryz.ntmps81
  go_wp2
  go_loopw [5, 10] (fun v i wr => ∃ (k : Nat) (a : Int), k ≤ plan.length ∧ i = iv k ∧ v = iv a ∧ 0 ≤ a ∧ a ≤ 50000 * k ∧ Hid (a + Price.earns fall (prices.drop k) (plan.drop k) = Price.earns fall prices plan) ∧ Below w.heap.size w wr) (fun _ i _ => plan.length - (intOf i).toNat)
  case atStart => exact ⟨0, 0, by omega, rfl, rfl, by omega, by omega, by simp [Hid], Below.refl _ _⟩
  case round =>
    obtain ⟨k, a, hk, rfl, rfl, ha0, ha1, hf, hbw⟩ := hrel
    have hd' := hd.below hbw
    have hs' := hs.below hbw
    by_cases hlt : k < plan.length
    · obtain ⟨b, off, x, rfl, hb, hx, hc⟩ := hs'.atI hlt
      obtain ⟨b', off', p, rfl, hb', hp', hc'⟩ := hd'.sp.atI (k := k) (by rw [← HL.out]; exact hlt)
      have hxx := hw x (mem_at hx)
      have hpp := hp p (mem_at hp')
      have hr := Price.rate_bounds h1 h2 hxx.1 hxx.2
      have hm0 : 0 ≤ p * Price.rate fall x := Int.mul_nonneg hpp.1 hr.1
      have hm1 : p * Price.rate fall x ≤ 50000 := Int.mul_le_mul hpp.2 hr.2 hr.1 (by omega)
      have hf' := hf.out
      rw [drop_at hx, drop_at hp'] at hf'
      simp only [Price.earns] at hf'
      have HF := Lib.hid hf'
      have hpl : (k : Int) < (prices.length : Int) := by have := HL.out; omega
      clear hf hf'
      generalize hq : Price.rate fall x = q at *
      have HQ := Lib.hid hq
      clear hq
      have hF : ∀ a : World, Below wr.heap.size wr a → a.cell? ⟨g, 0, none⟩ = some (iv fall) ∧ a.cell? ⟨g, 1, none⟩ = some (.slice Ab bought.length cb) ∧ a.cell? ⟨g, 3, none⟩ = some (.slice (some ⟨b', off', none⟩) prices.length cp) ∧ a.cell? ⟨b', off' + k, none⟩ = some (iv p) := fun a h =>
        ⟨(hd'.below h).c0, (hd'.below h).c1, (hd'.below h).c3, (h.cell (p := ⟨b', off' + k, none⟩) hb').trans hc'⟩
      have HFF := Lib.hid hF
      have HXX := Lib.hid hxx
      have hrs := fun w => rate_spec fall x Ab bought.length cb w h1 h2 hxx.1 (by omega)
      rw [HQ.out] at hrs
      have HRS := Lib.hid hrs
      clear hF hd hd' hs hs' hrs hxx
      go_wp2
      have e1 : IntKind.i64.wrap (p * q) = p * q := IntWalk.i64_in _ (by omega)
      have e2 : IntKind.i64.wrap (a + p * q) = a + p * q := IntWalk.i64_in _ (by omega)
      refine wp_havoc_lit (by kernel_rfl) (by kernel_rfl) ?_
      repeat (first
        | (refine hv_skip (by rfl) ?_; simp only [Act.put, List.setIfInBounds_toArray, List.set_cons_zero, List.set_cons_succ])
        | (apply hv_val (by rfl); (intro w hw; have F := HFF.out w hw; go_simp; exact rfl); simp only [Act.put, List.setIfInBounds_toArray, List.set_cons_zero, List.set_cons_succ])
        | (apply hv_call (by rfl); (intro w hw; have F := HFF.out w hw; go_simp; exact ⟨rfl, rfl⟩); (intro w hw; have F := HFF.out w hw; with_reducible exact HRS.out w); simp only [Act.put, List.setIfInBounds_toArray, List.set_cons_zero, List.set_cons_succ]))
      refine hv_nil ?_
      clear e1 e2
      rintro w2 hb2
      go_wp2
      go_roundw
      case rel => exact ⟨k + 1, a + p * q, by omega, by go_num, rfl, by omega, by omega, by show _ = _; rw [← HF.out]; omega, hbw.next hb2 (Nat.le_refl _)⟩
      case measure => simp [intOf]; omega
    · have hf' := hf.out
      rw [drop_end hlt, List.drop_eq_nil_of_le (by rw [← HL.out]; omega)] at hf'
      have HF := Lib.hid hf'
      clear hf hf'
      go_wp2
      go_ret
      exact ⟨ret_eq (by rw [← HF.out]; simp [Price.earns]), hbw⟩
end Go.Proofs.YtkailkfiakagfaaGreat
-- The room of a plan; a sale at work. Conditions: lengths are below a great bound.
namespace Go.Proofs.YtkailkfiakagfaaGreat
open Go.RowKit
set_option maxRecDepth 100000

theorem room_spec (fall : Int) (Ab : Option Addr) (bought : List Int) (cb : Nat) (A : Option Addr) (plan : List Int) (c : Nat) (w : World) (hm : bought.length ≤ big) (hm2 : plan.length ≤ big) (hsb : Sl intE w Ab bought) (hs : Sl intE w A plan) :
    Calls Tryz.prog 83 #[saleV fall Ab bought.length cb, .slice A plan.length c] w fun e w' => e = .returned (.bool (Price.room bought plan)) ∧ Below w.heap.size w w' := by
  unfold big at hm hm2
  go_enter Tryz.func83, Tryz.ntmps83
  go_wp2
  have hb1 : Below w.heap.size w (w.alloc (.cells #[iv fall, .slice Ab bought.length cb] 30)) := (Below.refl _ _).alloc (Nat.le_refl _) _
  have hsb1 := hsb.below hb1
  have hs1 := hs.below hb1
  generalize w.alloc (.cells #[iv fall, .slice Ab bought.length cb] 30) = w1 at *
  go_loop [13] (fun i => ∃ (k : Nat), k ≤ bought.length ∧ i = iv k ∧ Hid (Price.roomFrom plan (bought.drop k) k = Price.room bought plan)) (fun i => bought.length - (intOf i).toNat)
  case atStart => exact ⟨0, by omega, rfl, rfl⟩
  case round =>
    obtain ⟨k, hk, rfl, hf⟩ := hrel
    by_cases hlt : k < bought.length
    · obtain ⟨b, off, m, rfl, hb, hx, hc⟩ := hsb1.atI hlt
      have hf' := hf.out
      rw [drop_at hx] at hf'
      simp only [Price.roomFrom] at hf'
      have HF := Lib.hid hf'
      clear hf hf'
      go_wp2
      go_loop [7, 20] (fun n i => ∃ (j : Nat) (a : Int), j ≤ plan.length ∧ i = iv j ∧ n = iv a ∧ 0 ≤ a ∧ a ≤ j ∧ Hid (a + Price.countIn k (plan.drop j) = Price.countIn k plan)) (fun _ i => plan.length - (intOf i).toNat)
      case atStart => exact ⟨0, 0, by omega, rfl, rfl, by omega, by omega, by show _ = _; simp⟩
      case round =>
        obtain ⟨j, a, hj, rfl, rfl, ha0, ha1, hg⟩ := hrel
        by_cases hjt : j < plan.length
        · obtain ⟨b2, off2, x, rfl, hb2, hx2, hc2⟩ := hs1.atI hjt
          have hg' := hg.out
          rw [drop_at hx2] at hg'
          simp only [Price.countIn] at hg'
          have HG := Lib.hid hg'
          clear hg hg'
          by_cases hxk : x = (k : Int)
          · subst hxk
            go_wp2
            go_round
            case rel => exact ⟨j + 1, a + 1, by omega, by go_num, rfl, by omega, by omega, by have := HG.out; show _ = _; rw [if_pos rfl] at this; omega⟩
            case measure => simp [intOf]; omega
          · have hxk' : (x == (k : Int)) = false := by simpa using hxk
            go_wp2
            go_round
            case rel => exact ⟨j + 1, a, by omega, by go_num, rfl, by omega, by omega, by have := HG.out; show _ = _; rw [if_neg hxk] at this; omega⟩
            case measure => simp [intOf]; omega
        · have hg' := hg.out
          rw [drop_end hjt] at hg'
          simp only [Price.countIn] at hg'
          have HG := Lib.hid hg'
          clear hg hg'
          by_cases ham : a ≤ m
          · go_wp2
            go_round
            case rel => exact ⟨k + 1, by omega, by go_num, by
              have := HF.out
              have hg := HG.out
              rw [← hg] at this
              show _ = _
              simpa [ham] using this⟩
            case measure => simp [intOf]; omega
          · go_wp2
            go_ret
            exact ⟨ret_eq (by rw [← HF.out, ← HG.out, decide_eq_false (by omega), Bool.false_and]; rfl), hb1⟩
    · have hf' := hf.out
      rw [drop_end hlt] at hf'
      have HF := Lib.hid hf'
      clear hf hf'
      go_wp2
      go_ret
      exact ⟨ret_eq (by rw [← HF.out]; rfl), hb1⟩

/-- What opened and planned answer: no desk and an error, or a desk. -/
def Opened (w : World) (l : List Rule) (fall : Int) (bought : List Int) (stock : List Piece) (err : Int) (Ab : Option Addr) (cb : Nat) (As : Option Addr) (cs : Nat) (e : Ending) (w' : World) : Prop :=
  Below w.heap.size w w' ∧
  ((err ≠ 0 ∧ e = .returned (.tuple #[.pointer none, iv err])) ∨
   (err = 0 ∧ ∃ g Ap cp, e = .returned (.tuple #[.pointer (some ⟨g, 0, none⟩), iv 0]) ∧ Desk w' g fall bought stock (Price.stocked l stock).1 Ab cb As cs Ap cp))
theorem opened_spec
    (A : Option Addr) (l : List Rule) (c : Nat) (fall : Int) (Ab : Option Addr) (bought : List Int) (cb : Nat) (As : Option Addr) (stock : List Piece) (cs : Nat) (w : World) (hm : l.length ≤ big) (hc : l.length ≤ c) (hs : Sl ruleE w A l) (hmb : bought.length ≤ big) (hsb : Sl intE w Ab bought) (hms : stock.length ≤ big) (hss : Sl pieceE w As stock)
    : Calls Tryz.prog 84 #[.slice A l.length c, saleV fall Ab bought.length cb, .slice As stock.length cs] w (Opened w l fall bought stock (Price.openErr l fall bought stock) Ab cb As cs) := by
  by_cases h0 : Price.check l = 0
  · have hp := Price.check_prices h0
    by_cases h1 : Price.checkSale fall bought = 0
    · by_cases h2 : stock.length ≤ 10
      · have he : Price.openErr l fall bought stock = (Price.stocked l stock).2 := by simp [Price.openErr, h0, h1, h2]
        rw [he]
        clear he
        go_enter Tryz.func84, Tryz.ntmps84
        go_wp2_with (first
          | (go_at_call 12; refine (check_spec A l c _ hm hc (hs.alloc _)).mono ?_; rintro e w1 ⟨rfl, hb1⟩; rw [h0]; obtain ⟨k0, k0f, k0l, k0e, k0n, k0x⟩ := aft hb1 (w.heap.size) (by (try simp [go_sem]); (try omega)); (try simp [go_sem] at k0 k0f))
          | (go_at_call 13; refine (checkSale_spec fall Ab bought cb _ hmb (hsb.below hb1.of_alloc)).mono ?_; rintro e w2 ⟨rfl, hb2⟩; rw [h1]; obtain ⟨k1, k1f, k1l, k1e, k1n, k1x⟩ := aft hb2 (w.heap.size) (by (try simp [go_sem]); (try omega)); (try simp [go_sem] at k1 k1f)))
        have hb2' : Below w.heap.size w w2 := hb1.of_alloc.next hb2 (Nat.le_refl _)
        have hbk : Blk (w2.alloc (.cells #[iv fall, .slice Ab bought.length cb, .slice As stock.length cs, .slice none 0 0] 124)) w2.heap.size 124 #[iv fall, .slice Ab bought.length cb, .slice As stock.length cs, .slice none 0 0] := Blk.new _ _ _
        have hbw0 : Below w2.heap.size w2 (w2.alloc (.cells #[iv fall, .slice Ab bought.length cb, .slice As stock.length cs, .slice none 0 0] 124)) := (Below.refl _ _).alloc (Nat.le_refl _) _
        clear k0 k0f k0l k0e k0n k0x k1 k1f k1l k1e k1n k1x
        go_loopw [35] (fun i wr => ∃ (k : Nat) (acc : List Int) (v : Value), k ≤ stock.length ∧ i = iv k ∧ Blk wr w2.heap.size 124 #[iv fall, .slice Ab bought.length cb, .slice As stock.length cs, v] ∧
          Own intE 3 (w2.heap.size + 1) wr v acc ∧ acc.length ≤ k ∧ Below w2.heap.size w2 wr ∧ Hid (acc ++ (Price.stocked l (stock.drop k)).1 = (Price.stocked l stock).1 ∧ (Price.stocked l (stock.drop k)).2 = (Price.stocked l stock).2)) (fun i _ => stock.length - (intOf i).toNat)
        case atStart => exact ⟨0, [], _, by omega, rfl, hbk, Own.nil, by simp, hbw0, by exact ⟨by simp, rfl⟩⟩
        case round =>
          obtain ⟨k, acc, v, hk, rfl, hB, hown, hacc, hbw, hf⟩ := hrel
          obtain ⟨m0, m1, m2, m3, m4, m5⟩ := hB.facts
          have hss' := (hss.below hb2').below hbw
          have hs' := (hs.below hb2').below hbw
          by_cases hlt : k < stock.length
          · obtain ⟨b, off, p, rfl, hb, hx, hc0, hc1, hc2⟩ := hss'.atP hlt
            have hf' := hf.out
            rw [drop_at hx] at hf'
            simp only [Price.stocked] at hf'
            have HF := Lib.hid hf'
            clear hf hf'
            obtain ⟨x, y, z⟩ := p
            dsimp only at *
            cases hip : Price.isP ⟨x, y, z⟩
            · go_wp2_with (go_at_call 69; refine (is_spec ⟨x, y, z⟩ _).mono ?_; rintro e w3 ⟨rfl, hb3⟩; rw [hip])
              go_ret2
              have herr : (Price.stocked l stock).2 = 3 := by have := HF.out.2; rw [hip] at this; exact this.symm
              exact ⟨(hb2'.next hbw (Nat.le_refl _)).next hb3.of_alloc (Nat.le_refl _), .inl ⟨by rw [herr]; decide, by rw [herr]; rfl⟩⟩
            · by_cases hpe : (Price.priced l ⟨x, y, z⟩).2 = 0
              · go_wp2_with (first
                  | (go_at_call 69; refine (is_spec ⟨x, y, z⟩ _).mono ?_; rintro e w3 ⟨rfl, hb3⟩; rw [hip]; obtain ⟨k3, k3f, k3l, k3e, k3n, k3x⟩ := aft hb3 (wr.heap.size) (by (try simp [go_sem]); (try omega)); (try simp [go_sem] at k3 k3f); obtain ⟨k3d, k3df, k3dl, k3de, k3dn, k3dx⟩ := aft hb3 (w2.heap.size) (by (try simp [go_sem]); (try omega)); (try simp [go_sem] at k3d k3df))
                  | (go_at_call 66; refine (priced_spec A l c ⟨x, y, z⟩ _ hm (hs'.below hb3.of_alloc) hp).mono ?_; rintro e w4 ⟨rfl, hb4⟩; rw [hpe]; obtain ⟨k4d, k4df, k4dl, k4de, k4dn, k4dx⟩ := aft hb4 (w2.heap.size) (by (try simp [go_sem]); (try omega)); (try simp [go_sem] at k4d k4df))
                  | (at_builtin; refine wpApp1 intE tyInts rfl _ _ rfl ((hown.below hb3.of_alloc).below hb4) (Price.priced l ⟨x, y, z⟩).1 rfl rfl rfl (by have := hb3.size; have := hb4.size; have := hB.lt; simp at *; omega) (by unfold big; omega) ?_; intro v' w5 hown5 hb5 hk5; obtain ⟨A', c', rfl, _, _⟩ := hown5.form; have hB5 : Blk w5 w2.heap.size _ _ := (hk5 _ (by have := k4dl; omega) (fun e => by have := (((hown.below hb3.of_alloc).below hb4).lt _ e).1; omega)).trans ((hB.under hb3.of_alloc).under hb4); obtain ⟨n0, n1, n2, n3, n4, n5⟩ := hB5.facts; have HB5 := Lib.hid hB5; clear hB5 hk5))
                have hb35 : Below w2.heap.size wr w5 := ((hb3.of_alloc.next hb4 (Nat.le_refl _)).mono m3).trans (hb5.mono (by omega))
                rw [hip, if_pos hpe] at HF
                have hB6 := HB5.out.set_ 3 (.slice A' (acc.length + 1) c')
                have hown6 := hown5.setCell (p := ⟨w2.heap.size, 3, none⟩) (by simp) (.slice A' (acc.length + 1) c')
                simp only [List.length_append, List.length_cons, List.length_nil, Nat.zero_add] at hown6
                go_roundw
                case rel => exact ⟨k + 1, acc ++ [(Price.priced l ⟨x, y, z⟩).1], _, by omega, by go_num, hB6, hown6, by simp; omega, (hbw.trans hb35).setCell (Nat.le_refl _) _, ⟨by rw [← HF.out.1]; simp, HF.out.2⟩⟩
                case measure => simp [intOf]; omega
              · have hpe' : ((Price.priced l ⟨x, y, z⟩).2 != 0) = true := by simpa using hpe
                go_wp2_with (first
                  | (go_at_call 69; refine (is_spec ⟨x, y, z⟩ _).mono ?_; rintro e w3 ⟨rfl, hb3⟩; rw [hip]; obtain ⟨k3, k3f, k3l, k3e, k3n, k3x⟩ := aft hb3 (wr.heap.size) (by (try simp [go_sem]); (try omega)); (try simp [go_sem] at k3 k3f))
                  | (go_at_call 66; refine (priced_spec A l c ⟨x, y, z⟩ _ hm (hs'.below hb3.of_alloc) hp).mono ?_; rintro e w4 ⟨rfl, hb4⟩))
                go_ret2
                have herr : (Price.stocked l stock).2 = (Price.priced l ⟨x, y, z⟩).2 := by have := HF.out.2; rw [hip, if_neg hpe] at this; exact this.symm
                exact ⟨((hb2'.next hbw (Nat.le_refl _)).next hb3.of_alloc (Nat.le_refl _)).next hb4 (Nat.le_refl _), .inl ⟨by rw [herr]; exact hpe, by rw [herr]; rfl⟩⟩
          · have hf' := hf.out
            rw [drop_end hlt] at hf'
            simp only [Price.stocked, List.append_nil] at hf'
            have HF := Lib.hid hf'
            obtain ⟨Ap, cp, hv, _, _⟩ := hown.form
            subst hv
            have hsp := hown.sl
            clear hf hf'
            go_wp2
            go_ret2
            have hbb := hb2'.next hbw (Nat.le_refl _)
            refine ⟨hbb, .inr ⟨HF.out.2.symm, w2.heap.size, Ap, cp, rfl, ?_⟩⟩
            rw [HF.out.1] at m0 hsp
            exact ⟨m2, m0 0, m0 1, m0 2, m0 3, hsb.below hbb, hss.below hbb, hsp⟩
      · have he : Price.openErr l fall bought stock = 2 := by simp [Price.openErr, h0, h1, h2]
        rw [he]
        clear he
        go_enter Tryz.func84, Tryz.ntmps84
        go_wp2_with (first
          | (go_at_call 12; refine (check_spec A l c _ hm hc (hs.alloc _)).mono ?_; rintro e w1 ⟨rfl, hb1⟩; rw [h0]; obtain ⟨k0, k0f, k0l, k0e, k0n, k0x⟩ := aft hb1 (w.heap.size) (by (try simp [go_sem]); (try omega)); (try simp [go_sem] at k0 k0f))
          | (go_at_call 13; refine (checkSale_spec fall Ab bought cb _ hmb (hsb.below hb1.of_alloc)).mono ?_; rintro e w2 ⟨rfl, hb2⟩; rw [h1]; obtain ⟨k1, k1f, k1l, k1e, k1n, k1x⟩ := aft hb2 (w.heap.size) (by (try simp [go_sem]); (try omega)); (try simp [go_sem] at k1 k1f)))
        go_ret2
        exact ⟨hb1.of_alloc.next hb2 (Nat.le_refl _), .inl ⟨by decide, rfl⟩⟩
    · have he : Price.openErr l fall bought stock = Price.checkSale fall bought := by simp [Price.openErr, h0, h1]
      rw [he]
      clear he
      have h1' : (Price.checkSale fall bought != 0) = true := by simpa using h1
      go_enter Tryz.func84, Tryz.ntmps84
      go_wp2_with (first
        | (go_at_call 12; refine (check_spec A l c _ hm hc (hs.alloc _)).mono ?_; rintro e w1 ⟨rfl, hb1⟩; rw [h0]; obtain ⟨k0, k0f, k0l, k0e, k0n, k0x⟩ := aft hb1 (w.heap.size) (by (try simp [go_sem]); (try omega)); (try simp [go_sem] at k0 k0f))
        | (go_at_call 13; refine (checkSale_spec fall Ab bought cb _ hmb (hsb.below hb1.of_alloc)).mono ?_; rintro e w2 ⟨rfl, hb2⟩))
      go_ret2
      exact ⟨hb1.of_alloc.next hb2 (Nat.le_refl _), .inl ⟨h1, rfl⟩⟩
  · have he : Price.openErr l fall bought stock = Price.check l := by simp [Price.openErr, h0]
    rw [he]
    clear he
    have h0' : (Price.check l != 0) = true := by simpa using h0
    go_enter Tryz.func84, Tryz.ntmps84
    go_wp2_with (go_at_call 12; refine (check_spec A l c _ hm hc (hs.alloc _)).mono ?_; rintro e w1 ⟨rfl, hb1⟩)
    go_ret2
    exact ⟨hb1.of_alloc, .inl ⟨h0, rfl⟩⟩
end Go.Proofs.YtkailkfiakagfaaGreat
-- planned and Earns of package price. Conditions: lengths are below a great bound.
namespace Go.Proofs.YtkailkfiakagfaaGreat
open Go.RowKit
set_option maxRecDepth 100000

theorem weeks_spec (fall : Int) (Ab : Option Addr) (n cb : Nat) (x : Int) (g : Nat) (w : World) (hn : n ≤ big) (hc : w.cell? ⟨g, 1, none⟩ = some (.slice Ab n cb)) :
    Calls Tryz.prog 97 #[iv x, .pointer (some ⟨g, 0, none⟩)] w fun e w' => e = .returned (.bool (Price.inB x (-1) (n - 1))) ∧ w = w' := by
  unfold big at hn
  go_enter Tryz.func97, Tryz.ntmps97
  go_wp2_with (go_at_call 60; refine (in_spec _ _ _ _).mono ?_; rintro e w' ⟨rfl, rfl⟩)
  go_ret
  exact ⟨rfl, rfl⟩
theorem weeksPred (fall : Int) (Ab : Option Addr) (n cb : Nat) (g : Nat) (w : World) (l : List Int) (hn : n ≤ big) (hg : g < w.heap.size) (hc : w.cell? ⟨g, 1, none⟩ = some (.slice Ab n cb)) :
    IsPred Tryz.prog w 97 #[.pointer (some ⟨g, 0, none⟩)] iv l (Price.inB · (-1) (n - 1)) :=
  ⟨callFunc_run (by kernel_rfl), fun x _ w' hb => (weeks_spec fall Ab n cb x g w' hn ((hb.cell (p := ⟨g, 1, none⟩) hg).trans hc)).mono fun _ _ h => ⟨h.1, by rw [← h.2]; exact Below.refl _ _⟩⟩
theorem planned_spec
    (A : Option Addr) (l : List Rule) (c : Nat) (fall : Int) (Ab : Option Addr) (bought : List Int) (cb : Nat) (As : Option Addr) (stock : List Piece) (cs : Nat) (w : World) (hm : l.length ≤ big) (hc : l.length ≤ c) (hs : Sl ruleE w A l) (hmb : bought.length ≤ big) (hsb : Sl intE w Ab bought) (hms : stock.length ≤ big) (hss : Sl pieceE w As stock)
    (App : Option Addr) (plan : List Int) (cp : Nat) (hmp : plan.length ≤ big) (hsp : Sl intE w App plan)
    : Calls Tryz.prog 80 #[.slice A l.length c, saleV fall Ab bought.length cb, .slice As stock.length cs, .slice App plan.length cp] w (Opened w l fall bought stock (Price.planErr l fall bought stock plan) Ab cb As cs) := by
  unfold big at hmp hms hmb hm
  have hop := opened_spec A l c fall Ab bought cb As stock cs (w.alloc (.cells #[iv fall, .slice Ab bought.length cb] 30)) hm hc (hs.alloc _) hmb (hsb.alloc _) hms (hss.alloc _)
  have HOP := Lib.hid hop
  clear hop
  have hmk : ∀ (fn : Fn) (first cap : Array Value) (w : World), (Instr.makeFunc fn first cap).run Tryz.prog w = .ok (.func fn first cap) w := fun _ _ _ _ => rfl
  by_cases h0 : Price.openErr l fall bought stock = 0
  · rw [h0] at HOP
    have HOP' : Hid (Calls Tryz.prog 84 #[.slice A l.length c, saleV fall Ab bought.length cb, .slice As stock.length cs] (w.alloc (.cells #[iv fall, .slice Ab bought.length cb] 30)) fun e w' =>
        ∃ g Ap cpp, e = .returned (.tuple #[.pointer (some ⟨g, 0, none⟩), iv 0]) ∧ Desk w' g fall bought stock (Price.stocked l stock).1 Ab cb As cs Ap cpp ∧ Below (w.alloc (.cells #[iv fall, .slice Ab bought.length cb] 30)).heap.size (w.alloc (.cells #[iv fall, .slice Ab bought.length cb] 30)) w') :=
      HOP.out.mono fun e w' ⟨hb, h⟩ => by
        rcases h with ⟨h, _⟩ | ⟨_, g, Ap, cpp, he, hd⟩
        · exact absurd rfl h
        · exact ⟨g, Ap, cpp, he, hd, hb⟩
    clear HOP
    by_cases h1 : plan.length = stock.length
    · have h1' : ((plan.length : Int) != (stock.length : Int)) = false := by simp [h1]
      cases h2 : plan.all (Price.inB · (-1) (bought.length - 1))
      · have he : Price.planErr l fall bought stock plan = 1 := by simp [Price.planErr, h0, h1, h2]
        rw [he]
        clear he
        have H1 := Lib.hid h1
        clear h1
        go_enter Tryz.func80, Tryz.ntmps80
        go_wp2_with (first
          | (go_at_call 84; refine HOP'.out.mono ?_; rintro e w1 ⟨g, Ap, cpp, rfl, hd, hb1⟩; obtain ⟨k0, k0f, k0l, k0e, k0n, k0x⟩ := aft hb1 (w.heap.size) (by (try simp [go_sem]); (try omega)); (try simp [go_sem] at k0 k0f))
          | (go_at_call 61; refine (everyI App plan cp _ #[.pointer (some ⟨w.heap.size, 0, none⟩)] _ _ hmp (hsp.below hb1.of_alloc) (weeksPred fall Ab bought.length cb w.heap.size _ plan hmb k0l (k0 1))).mono ?_; rintro e w2 ⟨rfl, hb2⟩; rw [h2]; obtain ⟨k1, k1f, k1l, k1e, k1n, k1x⟩ := aft hb2 (w.heap.size) (by (try simp [go_sem]); (try omega)); (try simp [go_sem] at k1 k1f)))
        go_ret2
        exact ⟨hb1.of_alloc.next hb2 (Nat.le_refl _), .inl ⟨by decide, rfl⟩⟩
      · cases h3 : Price.room bought plan
        · have he : Price.planErr l fall bought stock plan = 9 := by simp [Price.planErr, h0, h1, h2, h3]
          rw [he]
          clear he
          have H1 := Lib.hid h1
          clear h1
          go_enter Tryz.func80, Tryz.ntmps80
          go_wp2_with (first
            | (go_at_call 84; refine HOP'.out.mono ?_; rintro e w1 ⟨g, Ap, cpp, rfl, hd, hb1⟩; obtain ⟨k0, k0f, k0l, k0e, k0n, k0x⟩ := aft hb1 (w.heap.size) (by (try simp [go_sem]); (try omega)); (try simp [go_sem] at k0 k0f))
            | (go_at_call 61; refine (everyI App plan cp _ #[.pointer (some ⟨w.heap.size, 0, none⟩)] _ _ hmp (hsp.below hb1.of_alloc) (weeksPred fall Ab bought.length cb w.heap.size _ plan hmb k0l (k0 1))).mono ?_; rintro e w2 ⟨rfl, hb2⟩; rw [h2]; obtain ⟨k1, k1f, k1l, k1e, k1n, k1x⟩ := aft hb2 (w.heap.size) (by (try simp [go_sem]); (try omega)); (try simp [go_sem] at k1 k1f))
            | (go_at_call 83; refine (room_spec fall Ab bought cb App plan cp _ hmb hmp ((hsb.below hb1.of_alloc).below hb2) ((hsp.below hb1.of_alloc).below hb2)).mono ?_; rintro e w3 ⟨rfl, hb3⟩; rw [h3]))
          go_ret2
          exact ⟨(hb1.of_alloc.next hb2 (Nat.le_refl _)).next hb3 (Nat.le_refl _), .inl ⟨by decide, rfl⟩⟩
        · have he : Price.planErr l fall bought stock plan = 0 := by simp [Price.planErr, h0, h1, h2, h3]
          rw [he]
          clear he
          have H1 := Lib.hid h1
          clear h1
          go_enter Tryz.func80, Tryz.ntmps80
          go_wp2_with (first
            | (go_at_call 84; refine HOP'.out.mono ?_; rintro e w1 ⟨g, Ap, cpp, rfl, hd, hb1⟩; obtain ⟨k0, k0f, k0l, k0e, k0n, k0x⟩ := aft hb1 (w.heap.size) (by (try simp [go_sem]); (try omega)); (try simp [go_sem] at k0 k0f))
            | (go_at_call 61; refine (everyI App plan cp _ #[.pointer (some ⟨w.heap.size, 0, none⟩)] _ _ hmp (hsp.below hb1.of_alloc) (weeksPred fall Ab bought.length cb w.heap.size _ plan hmb k0l (k0 1))).mono ?_; rintro e w2 ⟨rfl, hb2⟩; rw [h2]; obtain ⟨k1, k1f, k1l, k1e, k1n, k1x⟩ := aft hb2 (w.heap.size) (by (try simp [go_sem]); (try omega)); (try simp [go_sem] at k1 k1f))
            | (go_at_call 83; refine (room_spec fall Ab bought cb App plan cp _ hmb hmp ((hsb.below hb1.of_alloc).below hb2) ((hsp.below hb1.of_alloc).below hb2)).mono ?_; rintro e w3 ⟨rfl, hb3⟩; rw [h3]))
          go_ret2
          exact ⟨(hb1.of_alloc.next hb2 (Nat.le_refl _)).next hb3 (Nat.le_refl _), .inr ⟨rfl, g, Ap, cpp, rfl, (hd.below hb2).below hb3⟩⟩
    · have h1' : ((plan.length : Int) != (stock.length : Int)) = true := by simpa using (fun h => h1 (by exact_mod_cast h) : ¬ (plan.length : Int) = (stock.length : Int))
      have he : Price.planErr l fall bought stock plan = 2 := by simp [Price.planErr, h0, h1]
      rw [he]
      clear he
      go_enter Tryz.func80, Tryz.ntmps80
      go_wp2_with (first
        | (go_at_call 84; refine HOP'.out.mono ?_; rintro e w1 ⟨g, Ap, cpp, rfl, hd, hb1⟩; obtain ⟨k0, k0f, k0l, k0e, k0n, k0x⟩ := aft hb1 (w.heap.size) (by (try simp [go_sem]); (try omega)); (try simp [go_sem] at k0 k0f)))
      go_ret2
      exact ⟨hb1.of_alloc, .inl ⟨by decide, rfl⟩⟩
  · have he : Price.planErr l fall bought stock plan = Price.openErr l fall bought stock := by simp [Price.planErr, h0]
    rw [he]
    clear he
    have h0' : (Price.openErr l fall bought stock != 0) = true := by simpa using h0
    go_enter Tryz.func80, Tryz.ntmps80
    go_wp2_with (first
      | (go_at_call 84; refine HOP.out.mono ?_; rintro e w1 ⟨hb1, ⟨_, rfl⟩ | ⟨h, _⟩⟩; rotate_left; exact absurd h h0))
    go_ret2
    exact ⟨hb1.of_alloc, .inl ⟨h0, rfl⟩⟩
end Go.Proofs.YtkailkfiakagfaaGreat
