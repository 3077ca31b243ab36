/- price.Price; the rate of a week, the room of a plan. Conditions: lengths are below a great bound. -/
import Derived.Test.YtblmlpkjocbhpaaPriceF
set_option linter.unusedVariables false
set_option linter.unusedSimpArgs false
namespace Go.Proofs.Ytblmlpkjocbhpaa
open Go.RowKit
set_option maxRecDepth 100000

/-- What price.Price answers. -/
def Price.price (l : List Rule) (q : Piece) : Int × Int := if Price.check l = 0 then (if Price.isP q then Price.priced l q else (0, 3)) else (0, Price.check l)
theorem price_spec (A : Option Addr) (l : List Rule) (c : Nat) (q : Piece) (w : World) (hm : l.length ≤ big) (hc : l.length ≤ c) (hs : Sl ruleE w A l) :
    Calls Try.prog 28 #[.slice A l.length c, q.v] w fun e w' => e = .returned (.tuple #[iv (Price.price l q).1, iv (Price.price l q).2]) ∧ Below w.heap.size w w' := by
  obtain ⟨x, y, z⟩ := q
  by_cases h0 : Price.check l = 0
  · have hp := Price.check_prices h0
    cases h1 : Price.isP ⟨x, y, z⟩
    · have hval : Price.price l ⟨x, y, z⟩ = (0, 3) := by simp [Price.price, h0, h1]
      have HV := Lib.hid hval
      clear hval
      go_enter Try.func28, Try.ntmps28
      go_wp2_with (first
        | (go_at_call 52; refine (check_spec A l c _ hm hc (hs.alloc _)).mono ?_; rintro e w1 ⟨rfl, hb1⟩; rw [h0]; obtain ⟨k0, k0f, k0l, k0e, k0n, k0x⟩ := aft hb1 (w.heap.size) (by (try simp [go_sem]); (try omega)); (try simp [go_sem] at k0 k0f))
        | (go_at_call 90; refine (is_spec ⟨x, y, z⟩ _).mono ?_; rintro e w2 ⟨rfl, hb2⟩; rw [h1]))
      go_ret2
      exact ⟨(by rw [HV.out]; rfl), hb1.of_alloc.next hb2 (Nat.le_refl _)⟩
    · have hval : Price.price l ⟨x, y, z⟩ = Price.priced l ⟨x, y, z⟩ := by simp [Price.price, h0, h1]
      have HV := Lib.hid hval
      clear hval
      go_enter Try.func28, Try.ntmps28
      go_wp2_with (first
        | (go_at_call 52; refine (check_spec A l c _ hm hc (hs.alloc _)).mono ?_; rintro e w1 ⟨rfl, hb1⟩; rw [h0]; obtain ⟨k0, k0f, k0l, k0e, k0n, k0x⟩ := aft hb1 (w.heap.size) (by (try simp [go_sem]); (try omega)); (try simp [go_sem] at k0 k0f))
        | (go_at_call 90; refine (is_spec ⟨x, y, z⟩ _).mono ?_; rintro e w2 ⟨rfl, hb2⟩; rw [h1]; obtain ⟨k1, k1f, k1l, k1e, k1n, k1x⟩ := aft hb2 (w.heap.size) (by (try simp [go_sem]); (try omega)); (try simp [go_sem] at k1 k1f))
        | (go_at_call 91; refine (priced_spec A l c ⟨x, y, z⟩ _ hm ((hs.below hb1.of_alloc).below hb2) hp).mono ?_; rintro e w3 ⟨rfl, hb3⟩))
      go_ret2
      exact ⟨(by rw [HV.out]; rfl), (hb1.of_alloc.next hb2 (Nat.le_refl _)).next hb3 (Nat.le_refl _)⟩
  · have hval : Price.price l ⟨x, y, z⟩ = (0, Price.check l) := by simp [Price.price, h0]
    have HV := Lib.hid hval
    have h0' : (Price.check l != 0) = true := by simpa using h0
    clear hval
    go_enter Try.func28, Try.ntmps28
    go_wp2_with (go_at_call 52; refine (check_spec A l c _ hm hc (hs.alloc _)).mono ?_; rintro e w1 ⟨rfl, hb1⟩)
    go_ret2
    exact ⟨(by rw [HV.out]; rfl), hb1.of_alloc⟩

theorem greatest1_spec (x : Int) (w : World) (g : Nat) (hg : g = w.heap.size) : Calls Try.prog 138 #[.slice (some ⟨g, 0, none⟩) 1 1] (w.alloc (.cells #[.int .i64 x] 3)) fun e w' =>
    e = .returned (iv (max 0 x)) ∧ w.alloc (.cells #[.int .i64 x] 3) = w' := by
  subst hg
  refine greatest_spec (some ⟨w.heap.size, 0, none⟩) [x] 1 _ (by simp [big]) ?_
  intro _
  refine ⟨w.heap.size, 0, rfl, by simp, fun i y hi j u hu => ?_⟩
  match i, hi with
  | 0, hi =>
    simp at hi
    subst hi
    match j, hu with
    | 0, hu => simp [intE] at hu; subst hu; simp [intE, go_sem]
theorem rate_spec (fall week : Int) (A : Option Addr) (n c : Nat) (w : World) (h1 : 0 ≤ fall) (h2 : fall ≤ 30) (h3 : -1 ≤ week) (h4 : week ≤ 100) :
    Calls Try.prog 129 #[saleV fall A n c, iv week] w fun e w' => e = .returned (iv (Price.rate fall week)) ∧ Below w.heap.size w w' := by
  by_cases h : week = -1
  · subst h
    go_enter Try.func129, Try.ntmps129
    go_wp2
    go_ret
    exact ⟨ret_eq (by simp [Price.rate]), (Below.refl _ _).alloc (Nat.le_refl _) _⟩
  · have hm0 : 0 ≤ fall * week := Int.mul_nonneg h1 (by omega)
    have hm1 : fall * week ≤ 3000 := by have := Int.mul_le_mul h2 h4 (by omega) (by omega); omega
    go_enter Try.func129, Try.ntmps129
    go_wp2_with (go_at_call 138; refine (greatest1_spec (100 - fall * week) _ _ (by simp)).mono ?_; rintro e w1 ⟨rfl, rfl⟩)
    go_ret
    exact ⟨ret_eq (by simp [Price.rate, h]), ((Below.refl _ _).alloc (Nat.le_refl _) _).alloc (by simp) _⟩

/-- The desk: a block of the call's own that holds the sale, the stock, and the prices. -/
structure Desk (w : World) (g : Nat) (fall : Int) (bought : List Int) (stock : List Piece) (prices : List Int) (Ab : Option Addr) (cb : Nat) (As : Option Addr) (cs : Nat) (Ap : Option Addr) (cp : Nat) : Prop where
  lt : g < w.heap.size
  c0 : w.cell? ⟨g, 0, none⟩ = some (iv fall)
  c1 : w.cell? ⟨g, 1, none⟩ = some (.slice Ab bought.length cb)
  c2 : w.cell? ⟨g, 2, none⟩ = some (.slice As stock.length cs)
  c3 : w.cell? ⟨g, 3, none⟩ = some (.slice Ap prices.length cp)
  sb : Sl intE w Ab bought
  ss : Sl pieceE w As stock
  sp : Sl intE w Ap prices
theorem Desk.below {w w' : World} {g : Nat} {fall : Int} {bought : List Int} {stock : List Piece} {prices : List Int} {Ab : Option Addr} {cb : Nat} {As : Option Addr} {cs : Nat} {Ap : Option Addr} {cp : Nat}
    (h : Desk w g fall bought stock prices Ab cb As cs Ap cp) (hb : Below w.heap.size w w') : Desk w' g fall bought stock prices Ab cb As cs Ap cp :=
  have hc := fun o => hb.cell (p := ⟨g, o, none⟩) h.lt
  ⟨Nat.lt_of_lt_of_le h.lt hb.size, (hc 0).trans h.c0, (hc 1).trans h.c1, (hc 2).trans h.c2, (hc 3).trans h.c3, h.sb.below hb, h.ss.below hb, h.sp.below hb⟩

theorem earns_spec (g : Nat) (fall : Int) (bought : List Int) (stock : List Piece) (prices : List Int) (Ab : Option Addr) (cb : Nat) (As : Option Addr) (cs : Nat) (Ap : Option Addr) (cp : Nat) (A : Option Addr) (plan : List Int) (c : Nat) (w : World)
    (hd : Desk w g fall bought stock prices Ab cb As cs Ap cp) (hs : Sl intE w A plan) (hl : plan.length = prices.length) (hm : plan.length ≤ 1000) (h1 : 0 ≤ fall) (h2 : fall ≤ 30)
    (hp : ∀ p ∈ prices, 0 ≤ p ∧ p ≤ 500) (hw : ∀ x ∈ plan, -1 ≤ x ∧ x ≤ 100) :
    Calls Try.prog 86 #[.pointer (some ⟨g, 0, none⟩), .slice A plan.length c] w fun e w' => e = .returned (iv (Price.earns fall prices plan)) ∧ Below w.heap.size w w' := by
  have HL := Lib.hid hl
  clear hl
  go_enter Try.func86, Try.ntmps86
  go_wp2
  go_loopw [5, 10] (fun v i wr => ∃ (k : Nat) (a : Int), k ≤ plan.length ∧ i = iv k ∧ v = iv a ∧ 0 ≤ a ∧ a ≤ 50000 * k ∧ Hid (a + Price.earns fall (prices.drop k) (plan.drop k) = Price.earns fall prices plan) ∧ Below w.heap.size w wr) (fun _ i _ => plan.length - (intOf i).toNat)
  case atStart => exact ⟨0, 0, by omega, rfl, rfl, by omega, by omega, by simp [Hid], Below.refl _ _⟩
  case round =>
    obtain ⟨k, a, hk, rfl, rfl, ha0, ha1, hf, hbw⟩ := hrel
    have hd' := hd.below hbw
    have hs' := hs.below hbw
    by_cases hlt : k < plan.length
    · obtain ⟨b, off, x, rfl, hb, hx, hc⟩ := hs'.atI hlt
      obtain ⟨b', off', p, rfl, hb', hp', hc'⟩ := hd'.sp.atI (k := k) (by rw [← HL.out]; exact hlt)
      have hxx := hw x (mem_at hx)
      have hpp := hp p (mem_at hp')
      have hr := Price.rate_bounds h1 h2 hxx.1 hxx.2
      have hm0 : 0 ≤ p * Price.rate fall x := Int.mul_nonneg hpp.1 hr.1
      have hm1 : p * Price.rate fall x ≤ 50000 := Int.mul_le_mul hpp.2 hr.2 hr.1 (by omega)
      have hf' := hf.out
      rw [drop_at hx, drop_at hp'] at hf'
      simp only [Price.earns] at hf'
      have HF := Lib.hid hf'
      have hpl : (k : Int) < (prices.length : Int) := by have := HL.out; omega
      clear hf hf'
      generalize hq : Price.rate fall x = q at *
      have HQ := Lib.hid hq
      clear hq
      have hF : ∀ a : World, Below wr.heap.size wr a → a.cell? ⟨g, 0, none⟩ = some (iv fall) ∧ a.cell? ⟨g, 1, none⟩ = some (.slice Ab bought.length cb) ∧ a.cell? ⟨g, 3, none⟩ = some (.slice (some ⟨b', off', none⟩) prices.length cp) ∧ a.cell? ⟨b', off' + k, none⟩ = some (iv p) := fun a h =>
        ⟨(hd'.below h).c0, (hd'.below h).c1, (hd'.below h).c3, (h.cell (p := ⟨b', off' + k, none⟩) hb').trans hc'⟩
      have HFF := Lib.hid hF
      have HXX := Lib.hid hxx
      have hrs := fun w => rate_spec fall x Ab bought.length cb w h1 h2 hxx.1 (by omega)
      rw [HQ.out] at hrs
      have HRS := Lib.hid hrs
      clear hF hd hd' hs hs' hrs hxx
      go_wp2
      have e1 : IntKind.i64.wrap (p * q) = p * q := IntWalk.i64_in _ (by omega)
      have e2 : IntKind.i64.wrap (a + p * q) = a + p * q := IntWalk.i64_in _ (by omega)
      refine wp_havoc_lit (by kernel_rfl) (by kernel_rfl) ?_
      repeat (first
        | (refine hv_skip (by rfl) ?_; simp only [Act.put, List.setIfInBounds_toArray, List.set_cons_zero, List.set_cons_succ])
        | (apply hv_val (by rfl); (intro w hw; have F := HFF.out w hw; go_simp; exact rfl); simp only [Act.put, List.setIfInBounds_toArray, List.set_cons_zero, List.set_cons_succ])
        | (apply hv_call (by rfl); (intro w hw; have F := HFF.out w hw; go_simp; exact ⟨rfl, rfl⟩); (intro w hw; have F := HFF.out w hw; with_reducible exact HRS.out w); simp only [Act.put, List.setIfInBounds_toArray, List.set_cons_zero, List.set_cons_succ]))
      refine hv_nil ?_
      clear e1 e2
      rintro w2 hb2
      go_wp2
      go_roundw
      case rel => exact ⟨k + 1, a + p * q, by omega, by go_num, rfl, by omega, by omega, by show _ = _; rw [← HF.out]; omega, hbw.next hb2 (Nat.le_refl _)⟩
      case measure => simp [intOf]; omega
    · have hf' := hf.out
      rw [drop_end hlt, List.drop_eq_nil_of_le (by rw [← HL.out]; omega)] at hf'
      have HF := Lib.hid hf'
      clear hf hf'
      go_wp2
      go_ret
      exact ⟨ret_eq (by rw [← HF.out]; simp [Price.earns]), hbw⟩
end Go.Proofs.Ytblmlpkjocbhpaa
