/- The room of a plan; a sale at work. Conditions: lengths are below a great bound. -/
import Derived.Test.YtblmlpkjocbhpaaPriceG
set_option linter.unusedVariables false
set_option linter.unusedSimpArgs false
namespace Go.Proofs.Ytblmlpkjocbhpaa
open Go.RowKit
set_option maxRecDepth 100000

theorem room_spec (fall : Int) (Ab : Option Addr) (bought : List Int) (cb : Nat) (A : Option Addr) (plan : List Int) (c : Nat) (w : World) (hm : bought.length ≤ big) (hm2 : plan.length ≤ big) (hsb : Sl intE w Ab bought) (hs : Sl intE w A plan) :
    Calls Try.prog 97 #[saleV fall Ab bought.length cb, .slice A plan.length c] w fun e w' => e = .returned (.bool (Price.room bought plan)) ∧ Below w.heap.size w w' := by
  unfold big at hm hm2
  go_enter Try.func97, Try.ntmps97
  go_wp2
  have hb1 : Below w.heap.size w (w.alloc (.cells #[iv fall, .slice Ab bought.length cb] 31)) := (Below.refl _ _).alloc (Nat.le_refl _) _
  have hsb1 := hsb.below hb1
  have hs1 := hs.below hb1
  generalize w.alloc (.cells #[iv fall, .slice Ab bought.length cb] 31) = w1 at *
  go_loop [13] (fun i => ∃ (k : Nat), k ≤ bought.length ∧ i = iv k ∧ Hid (Price.roomFrom plan (bought.drop k) k = Price.room bought plan)) (fun i => bought.length - (intOf i).toNat)
  case atStart => exact ⟨0, by omega, rfl, rfl⟩
  case round =>
    obtain ⟨k, hk, rfl, hf⟩ := hrel
    by_cases hlt : k < bought.length
    · obtain ⟨b, off, m, rfl, hb, hx, hc⟩ := hsb1.atI hlt
      have hf' := hf.out
      rw [drop_at hx] at hf'
      simp only [Price.roomFrom] at hf'
      have HF := Lib.hid hf'
      clear hf hf'
      go_wp2
      go_loop [7, 20] (fun n i => ∃ (j : Nat) (a : Int), j ≤ plan.length ∧ i = iv j ∧ n = iv a ∧ 0 ≤ a ∧ a ≤ j ∧ Hid (a + Price.countIn k (plan.drop j) = Price.countIn k plan)) (fun _ i => plan.length - (intOf i).toNat)
      case atStart => exact ⟨0, 0, by omega, rfl, rfl, by omega, by omega, by show _ = _; simp⟩
      case round =>
        obtain ⟨j, a, hj, rfl, rfl, ha0, ha1, hg⟩ := hrel
        by_cases hjt : j < plan.length
        · obtain ⟨b2, off2, x, rfl, hb2, hx2, hc2⟩ := hs1.atI hjt
          have hg' := hg.out
          rw [drop_at hx2] at hg'
          simp only [Price.countIn] at hg'
          have HG := Lib.hid hg'
          clear hg hg'
          by_cases hxk : x = (k : Int)
          · subst hxk
            go_wp2
            go_round
            case rel => exact ⟨j + 1, a + 1, by omega, by go_num, rfl, by omega, by omega, by have := HG.out; show _ = _; rw [if_pos rfl] at this; omega⟩
            case measure => simp [intOf]; omega
          · have hxk' : (x == (k : Int)) = false := by simpa using hxk
            go_wp2
            go_round
            case rel => exact ⟨j + 1, a, by omega, by go_num, rfl, by omega, by omega, by have := HG.out; show _ = _; rw [if_neg hxk] at this; omega⟩
            case measure => simp [intOf]; omega
        · have hg' := hg.out
          rw [drop_end hjt] at hg'
          simp only [Price.countIn] at hg'
          have HG := Lib.hid hg'
          clear hg hg'
          by_cases ham : a ≤ m
          · go_wp2
            go_round
            case rel => exact ⟨k + 1, by omega, by go_num, by
              have := HF.out
              have hg := HG.out
              rw [← hg] at this
              show _ = _
              simpa [ham] using this⟩
            case measure => simp [intOf]; omega
          · go_wp2
            go_ret
            exact ⟨ret_eq (by rw [← HF.out, ← HG.out, decide_eq_false (by omega), Bool.false_and]; rfl), hb1⟩
    · have hf' := hf.out
      rw [drop_end hlt] at hf'
      have HF := Lib.hid hf'
      clear hf hf'
      go_wp2
      go_ret
      exact ⟨ret_eq (by rw [← HF.out]; rfl), hb1⟩

/-- What opened and planned answer: no desk and an error, or a desk. -/
def Opened (w : World) (l : List Rule) (fall : Int) (bought : List Int) (stock : List Piece) (err : Int) (Ab : Option Addr) (cb : Nat) (As : Option Addr) (cs : Nat) (e : Ending) (w' : World) : Prop :=
  Below w.heap.size w w' ∧
  ((err ≠ 0 ∧ e = .returned (.tuple #[.pointer none, iv err])) ∨
   (err = 0 ∧ ∃ g Ap cp, e = .returned (.tuple #[.pointer (some ⟨g, 0, none⟩), iv 0]) ∧ Desk w' g fall bought stock (Price.stocked l stock).1 Ab cb As cs Ap cp))
theorem opened_spec
    (A : Option Addr) (l : List Rule) (c : Nat) (fall : Int) (Ab : Option Addr) (bought : List Int) (cb : Nat) (As : Option Addr) (stock : List Piece) (cs : Nat) (w : World) (hm : l.length ≤ big) (hc : l.length ≤ c) (hs : Sl ruleE w A l) (hmb : bought.length ≤ big) (hsb : Sl intE w Ab bought) (hms : stock.length ≤ big) (hss : Sl pieceE w As stock)
    : Calls Try.prog 81 #[.slice A l.length c, saleV fall Ab bought.length cb, .slice As stock.length cs] w (Opened w l fall bought stock (Price.openErr l fall bought stock) Ab cb As cs) := by
  by_cases h0 : Price.check l = 0
  · have hp := Price.check_prices h0
    by_cases h1 : Price.checkSale fall bought = 0
    · by_cases h2 : stock.length ≤ 10
      · have he : Price.openErr l fall bought stock = (Price.stocked l stock).2 := by simp [Price.openErr, h0, h1, h2]
        rw [he]
        clear he
        go_enter Try.func81, Try.ntmps81
        go_wp2_with (first
          | (go_at_call 52; refine (check_spec A l c _ hm hc (hs.alloc _)).mono ?_; rintro e w1 ⟨rfl, hb1⟩; rw [h0]; obtain ⟨k0, k0f, k0l, k0e, k0n, k0x⟩ := aft hb1 (w.heap.size) (by (try simp [go_sem]); (try omega)); (try simp [go_sem] at k0 k0f))
          | (go_at_call 45; refine (checkSale_spec fall Ab bought cb _ hmb (hsb.below hb1.of_alloc)).mono ?_; rintro e w2 ⟨rfl, hb2⟩; rw [h1]; obtain ⟨k1, k1f, k1l, k1e, k1n, k1x⟩ := aft hb2 (w.heap.size) (by (try simp [go_sem]); (try omega)); (try simp [go_sem] at k1 k1f)))
        have hb2' : Below w.heap.size w w2 := hb1.of_alloc.next hb2 (Nat.le_refl _)
        have hbk : Blk (w2.alloc (.cells #[iv fall, .slice Ab bought.length cb, .slice As stock.length cs, .slice none 0 0] 140)) w2.heap.size 140 #[iv fall, .slice Ab bought.length cb, .slice As stock.length cs, .slice none 0 0] := Blk.new _ _ _
        have hbw0 : Below w2.heap.size w2 (w2.alloc (.cells #[iv fall, .slice Ab bought.length cb, .slice As stock.length cs, .slice none 0 0] 140)) := (Below.refl _ _).alloc (Nat.le_refl _) _
        clear k0 k0f k0l k0e k0n k0x k1 k1f k1l k1e k1n k1x
        go_loopw [35] (fun i wr => ∃ (k : Nat) (acc : List Int) (v : Value), k ≤ stock.length ∧ i = iv k ∧ Blk wr w2.heap.size 140 #[iv fall, .slice Ab bought.length cb, .slice As stock.length cs, v] ∧
          Own intE 3 (w2.heap.size + 1) wr v acc ∧ acc.length ≤ k ∧ Below w2.heap.size w2 wr ∧ Hid (acc ++ (Price.stocked l (stock.drop k)).1 = (Price.stocked l stock).1 ∧ (Price.stocked l (stock.drop k)).2 = (Price.stocked l stock).2)) (fun i _ => stock.length - (intOf i).toNat)
        case atStart => exact ⟨0, [], _, by omega, rfl, hbk, Own.nil, by simp, hbw0, by exact ⟨by simp, rfl⟩⟩
        case round =>
          obtain ⟨k, acc, v, hk, rfl, hB, hown, hacc, hbw, hf⟩ := hrel
          obtain ⟨m0, m1, m2, m3, m4, m5⟩ := hB.facts
          have hss' := (hss.below hb2').below hbw
          have hs' := (hs.below hb2').below hbw
          by_cases hlt : k < stock.length
          · obtain ⟨b, off, p, rfl, hb, hx, hc0, hc1, hc2⟩ := hss'.atP hlt
            have hf' := hf.out
            rw [drop_at hx] at hf'
            simp only [Price.stocked] at hf'
            have HF := Lib.hid hf'
            clear hf hf'
            obtain ⟨x, y, z⟩ := p
            dsimp only at *
            cases hip : Price.isP ⟨x, y, z⟩
            · go_wp2_with (go_at_call 90; refine (is_spec ⟨x, y, z⟩ _).mono ?_; rintro e w3 ⟨rfl, hb3⟩; rw [hip])
              go_ret2
              have herr : (Price.stocked l stock).2 = 3 := by have := HF.out.2; rw [hip] at this; exact this.symm
              exact ⟨(hb2'.next hbw (Nat.le_refl _)).next hb3.of_alloc (Nat.le_refl _), .inl ⟨by rw [herr]; decide, by rw [herr]; rfl⟩⟩
            · by_cases hpe : (Price.priced l ⟨x, y, z⟩).2 = 0
              · go_wp2_with (first
                  | (go_at_call 90; refine (is_spec ⟨x, y, z⟩ _).mono ?_; rintro e w3 ⟨rfl, hb3⟩; rw [hip]; obtain ⟨k3, k3f, k3l, k3e, k3n, k3x⟩ := aft hb3 (wr.heap.size) (by (try simp [go_sem]); (try omega)); (try simp [go_sem] at k3 k3f); obtain ⟨k3d, k3df, k3dl, k3de, k3dn, k3dx⟩ := aft hb3 (w2.heap.size) (by (try simp [go_sem]); (try omega)); (try simp [go_sem] at k3d k3df))
                  | (go_at_call 91; refine (priced_spec A l c ⟨x, y, z⟩ _ hm (hs'.below hb3.of_alloc) hp).mono ?_; rintro e w4 ⟨rfl, hb4⟩; rw [hpe]; obtain ⟨k4d, k4df, k4dl, k4de, k4dn, k4dx⟩ := aft hb4 (w2.heap.size) (by (try simp [go_sem]); (try omega)); (try simp [go_sem] at k4d k4df))
                  | (at_builtin; refine wpApp1 intE tyInts rfl _ _ rfl ((hown.below hb3.of_alloc).below hb4) (Price.priced l ⟨x, y, z⟩).1 rfl rfl rfl (by have := hb3.size; have := hb4.size; have := hB.lt; simp at *; omega) (by unfold big; omega) ?_; intro v' w5 hown5 hb5 hk5; obtain ⟨A', c', rfl, _, _⟩ := hown5.form; have hB5 : Blk w5 w2.heap.size _ _ := (hk5 _ (by have := k4dl; omega) (fun e => by have := (((hown.below hb3.of_alloc).below hb4).lt _ e).1; omega)).trans ((hB.under hb3.of_alloc).under hb4); obtain ⟨n0, n1, n2, n3, n4, n5⟩ := hB5.facts; have HB5 := Lib.hid hB5; clear hB5 hk5))
                have hb35 : Below w2.heap.size wr w5 := ((hb3.of_alloc.next hb4 (Nat.le_refl _)).mono m3).trans (hb5.mono (by omega))
                rw [hip, if_pos hpe] at HF
                have hB6 := HB5.out.set_ 3 (.slice A' (acc.length + 1) c')
                have hown6 := hown5.setCell (p := ⟨w2.heap.size, 3, none⟩) (by simp) (.slice A' (acc.length + 1) c')
                simp only [List.length_append, List.length_cons, List.length_nil, Nat.zero_add] at hown6
                go_roundw
                case rel => exact ⟨k + 1, acc ++ [(Price.priced l ⟨x, y, z⟩).1], _, by omega, by go_num, hB6, hown6, by simp; omega, (hbw.trans hb35).setCell (Nat.le_refl _) _, ⟨by rw [← HF.out.1]; simp, HF.out.2⟩⟩
                case measure => simp [intOf]; omega
              · have hpe' : ((Price.priced l ⟨x, y, z⟩).2 != 0) = true := by simpa using hpe
                go_wp2_with (first
                  | (go_at_call 90; refine (is_spec ⟨x, y, z⟩ _).mono ?_; rintro e w3 ⟨rfl, hb3⟩; rw [hip]; obtain ⟨k3, k3f, k3l, k3e, k3n, k3x⟩ := aft hb3 (wr.heap.size) (by (try simp [go_sem]); (try omega)); (try simp [go_sem] at k3 k3f))
                  | (go_at_call 91; refine (priced_spec A l c ⟨x, y, z⟩ _ hm (hs'.below hb3.of_alloc) hp).mono ?_; rintro e w4 ⟨rfl, hb4⟩))
                go_ret2
                have herr : (Price.stocked l stock).2 = (Price.priced l ⟨x, y, z⟩).2 := by have := HF.out.2; rw [hip, if_neg hpe] at this; exact this.symm
                exact ⟨((hb2'.next hbw (Nat.le_refl _)).next hb3.of_alloc (Nat.le_refl _)).next hb4 (Nat.le_refl _), .inl ⟨by rw [herr]; exact hpe, by rw [herr]; rfl⟩⟩
          · have hf' := hf.out
            rw [drop_end hlt] at hf'
            simp only [Price.stocked, List.append_nil] at hf'
            have HF := Lib.hid hf'
            obtain ⟨Ap, cp, hv, _, _⟩ := hown.form
            subst hv
            have hsp := hown.sl
            clear hf hf'
            go_wp2
            go_ret2
            have hbb := hb2'.next hbw (Nat.le_refl _)
            refine ⟨hbb, .inr ⟨HF.out.2.symm, w2.heap.size, Ap, cp, rfl, ?_⟩⟩
            rw [HF.out.1] at m0 hsp
            exact ⟨m2, m0 0, m0 1, m0 2, m0 3, hsb.below hbb, hss.below hbb, hsp⟩
      · have he : Price.openErr l fall bought stock = 2 := by simp [Price.openErr, h0, h1, h2]
        rw [he]
        clear he
        go_enter Try.func81, Try.ntmps81
        go_wp2_with (first
          | (go_at_call 52; refine (check_spec A l c _ hm hc (hs.alloc _)).mono ?_; rintro e w1 ⟨rfl, hb1⟩; rw [h0]; obtain ⟨k0, k0f, k0l, k0e, k0n, k0x⟩ := aft hb1 (w.heap.size) (by (try simp [go_sem]); (try omega)); (try simp [go_sem] at k0 k0f))
          | (go_at_call 45; refine (checkSale_spec fall Ab bought cb _ hmb (hsb.below hb1.of_alloc)).mono ?_; rintro e w2 ⟨rfl, hb2⟩; rw [h1]; obtain ⟨k1, k1f, k1l, k1e, k1n, k1x⟩ := aft hb2 (w.heap.size) (by (try simp [go_sem]); (try omega)); (try simp [go_sem] at k1 k1f)))
        go_ret2
        exact ⟨hb1.of_alloc.next hb2 (Nat.le_refl _), .inl ⟨by decide, rfl⟩⟩
    · have he : Price.openErr l fall bought stock = Price.checkSale fall bought := by simp [Price.openErr, h0, h1]
      rw [he]
      clear he
      have h1' : (Price.checkSale fall bought != 0) = true := by simpa using h1
      go_enter Try.func81, Try.ntmps81
      go_wp2_with (first
        | (go_at_call 52; refine (check_spec A l c _ hm hc (hs.alloc _)).mono ?_; rintro e w1 ⟨rfl, hb1⟩; rw [h0]; obtain ⟨k0, k0f, k0l, k0e, k0n, k0x⟩ := aft hb1 (w.heap.size) (by (try simp [go_sem]); (try omega)); (try simp [go_sem] at k0 k0f))
        | (go_at_call 45; refine (checkSale_spec fall Ab bought cb _ hmb (hsb.below hb1.of_alloc)).mono ?_; rintro e w2 ⟨rfl, hb2⟩))
      go_ret2
      exact ⟨hb1.of_alloc.next hb2 (Nat.le_refl _), .inl ⟨h1, rfl⟩⟩
  · have he : Price.openErr l fall bought stock = Price.check l := by simp [Price.openErr, h0]
    rw [he]
    clear he
    have h0' : (Price.check l != 0) = true := by simpa using h0
    go_enter Try.func81, Try.ntmps81
    go_wp2_with (go_at_call 52; refine (check_spec A l c _ hm hc (hs.alloc _)).mono ?_; rintro e w1 ⟨rfl, hb1⟩)
    go_ret2
    exact ⟨hb1.of_alloc, .inl ⟨h0, rfl⟩⟩
end Go.Proofs.Ytblmlpkjocbhpaa
