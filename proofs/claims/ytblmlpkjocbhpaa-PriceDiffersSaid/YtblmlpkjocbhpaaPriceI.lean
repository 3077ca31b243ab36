/- planned and Earns of package price. Conditions: lengths are below a great bound. -/
import Derived.Test.YtblmlpkjocbhpaaPriceH
set_option linter.unusedVariables false
set_option linter.unusedSimpArgs false
namespace Go.Proofs.Ytblmlpkjocbhpaa
open Go.RowKit
set_option maxRecDepth 100000

theorem weeks_spec (fall : Int) (Ab : Option Addr) (n cb : Nat) (x : Int) (g : Nat) (w : World) (hn : n ≤ big) (hc : w.cell? ⟨g, 1, none⟩ = some (.slice Ab n cb)) :
    Calls Try.prog 130 #[iv x, .pointer (some ⟨g, 0, none⟩)] w fun e w' => e = .returned (.bool (Price.inB x (-1) (n - 1))) ∧ w = w' := by
  unfold big at hn
  go_enter Try.func130, Try.ntmps130
  go_wp2_with (go_at_call 98; refine (in_spec _ _ _ _).mono ?_; rintro e w' ⟨rfl, rfl⟩)
  go_ret
  exact ⟨rfl, rfl⟩
theorem weeksPred (fall : Int) (Ab : Option Addr) (n cb : Nat) (g : Nat) (w : World) (l : List Int) (hn : n ≤ big) (hg : g < w.heap.size) (hc : w.cell? ⟨g, 1, none⟩ = some (.slice Ab n cb)) :
    IsPred Try.prog w 130 #[.pointer (some ⟨g, 0, none⟩)] iv l (Price.inB · (-1) (n - 1)) :=
  ⟨callFunc_run (by kernel_rfl), fun x _ w' hb => (weeks_spec fall Ab n cb x g w' hn ((hb.cell (p := ⟨g, 1, none⟩) hg).trans hc)).mono fun _ _ h => ⟨h.1, by rw [← h.2]; exact Below.refl _ _⟩⟩
theorem planned_spec
    (A : Option Addr) (l : List Rule) (c : Nat) (fall : Int) (Ab : Option Addr) (bought : List Int) (cb : Nat) (As : Option Addr) (stock : List Piece) (cs : Nat) (w : World) (hm : l.length ≤ big) (hc : l.length ≤ c) (hs : Sl ruleE w A l) (hmb : bought.length ≤ big) (hsb : Sl intE w Ab bought) (hms : stock.length ≤ big) (hss : Sl pieceE w As stock)
    (App : Option Addr) (plan : List Int) (cp : Nat) (hmp : plan.length ≤ big) (hsp : Sl intE w App plan)
    : Calls Try.prog 95 #[.slice A l.length c, saleV fall Ab bought.length cb, .slice As stock.length cs, .slice App plan.length cp] w (Opened w l fall bought stock (Price.planErr l fall bought stock plan) Ab cb As cs) := by
  unfold big at hmp hms hmb hm
  have hop := opened_spec A l c fall Ab bought cb As stock cs (w.alloc (.cells #[iv fall, .slice Ab bought.length cb] 31)) hm hc (hs.alloc _) hmb (hsb.alloc _) hms (hss.alloc _)
  have HOP := Lib.hid hop
  clear hop
  have hmk : ∀ (fn : Fn) (first cap : Array Value) (w : World), (Instr.makeFunc fn first cap).run Try.prog w = .ok (.func fn first cap) w := fun _ _ _ _ => rfl
  by_cases h0 : Price.openErr l fall bought stock = 0
  · rw [h0] at HOP
    have HOP' : Hid (Calls Try.prog 81 #[.slice A l.length c, saleV fall Ab bought.length cb, .slice As stock.length cs] (w.alloc (.cells #[iv fall, .slice Ab bought.length cb] 31)) fun e w' =>
        ∃ g Ap cpp, e = .returned (.tuple #[.pointer (some ⟨g, 0, none⟩), iv 0]) ∧ Desk w' g fall bought stock (Price.stocked l stock).1 Ab cb As cs Ap cpp ∧ Below (w.alloc (.cells #[iv fall, .slice Ab bought.length cb] 31)).heap.size (w.alloc (.cells #[iv fall, .slice Ab bought.length cb] 31)) w') :=
      HOP.out.mono fun e w' ⟨hb, h⟩ => by
        rcases h with ⟨h, _⟩ | ⟨_, g, Ap, cpp, he, hd⟩
        · exact absurd rfl h
        · exact ⟨g, Ap, cpp, he, hd, hb⟩
    clear HOP
    by_cases h1 : plan.length = stock.length
    · have h1' : ((plan.length : Int) != (stock.length : Int)) = false := by simp [h1]
      cases h2 : plan.all (Price.inB · (-1) (bought.length - 1))
      · have he : Price.planErr l fall bought stock plan = 1 := by simp [Price.planErr, h0, h1, h2]
        rw [he]
        clear he
        have H1 := Lib.hid h1
        clear h1
        go_enter Try.func95, Try.ntmps95
        go_wp2_with (first
          | (go_at_call 81; refine HOP'.out.mono ?_; rintro e w1 ⟨g, Ap, cpp, rfl, hd, hb1⟩; obtain ⟨k0, k0f, k0l, k0e, k0n, k0x⟩ := aft hb1 (w.heap.size) (by (try simp [go_sem]); (try omega)); (try simp [go_sem] at k0 k0f))
          | (go_at_call 99; refine (everyI App plan cp _ #[.pointer (some ⟨w.heap.size, 0, none⟩)] _ _ hmp (hsp.below hb1.of_alloc) (weeksPred fall Ab bought.length cb w.heap.size _ plan hmb k0l (k0 1))).mono ?_; rintro e w2 ⟨rfl, hb2⟩; rw [h2]; obtain ⟨k1, k1f, k1l, k1e, k1n, k1x⟩ := aft hb2 (w.heap.size) (by (try simp [go_sem]); (try omega)); (try simp [go_sem] at k1 k1f)))
        go_ret2
        exact ⟨hb1.of_alloc.next hb2 (Nat.le_refl _), .inl ⟨by decide, rfl⟩⟩
      · cases h3 : Price.room bought plan
        · have he : Price.planErr l fall bought stock plan = 9 := by simp [Price.planErr, h0, h1, h2, h3]
          rw [he]
          clear he
          have H1 := Lib.hid h1
          clear h1
          go_enter Try.func95, Try.ntmps95
          go_wp2_with (first
            | (go_at_call 81; refine HOP'.out.mono ?_; rintro e w1 ⟨g, Ap, cpp, rfl, hd, hb1⟩; obtain ⟨k0, k0f, k0l, k0e, k0n, k0x⟩ := aft hb1 (w.heap.size) (by (try simp [go_sem]); (try omega)); (try simp [go_sem] at k0 k0f))
            | (go_at_call 99; refine (everyI App plan cp _ #[.pointer (some ⟨w.heap.size, 0, none⟩)] _ _ hmp (hsp.below hb1.of_alloc) (weeksPred fall Ab bought.length cb w.heap.size _ plan hmb k0l (k0 1))).mono ?_; rintro e w2 ⟨rfl, hb2⟩; rw [h2]; obtain ⟨k1, k1f, k1l, k1e, k1n, k1x⟩ := aft hb2 (w.heap.size) (by (try simp [go_sem]); (try omega)); (try simp [go_sem] at k1 k1f))
            | (go_at_call 97; refine (room_spec fall Ab bought cb App plan cp _ hmb hmp ((hsb.below hb1.of_alloc).below hb2) ((hsp.below hb1.of_alloc).below hb2)).mono ?_; rintro e w3 ⟨rfl, hb3⟩; rw [h3]))
          go_ret2
          exact ⟨(hb1.of_alloc.next hb2 (Nat.le_refl _)).next hb3 (Nat.le_refl _), .inl ⟨by decide, rfl⟩⟩
        · have he : Price.planErr l fall bought stock plan = 0 := by simp [Price.planErr, h0, h1, h2, h3]
          rw [he]
          clear he
          have H1 := Lib.hid h1
          clear h1
          go_enter Try.func95, Try.ntmps95
          go_wp2_with (first
            | (go_at_call 81; refine HOP'.out.mono ?_; rintro e w1 ⟨g, Ap, cpp, rfl, hd, hb1⟩; obtain ⟨k0, k0f, k0l, k0e, k0n, k0x⟩ := aft hb1 (w.heap.size) (by (try simp [go_sem]); (try omega)); (try simp [go_sem] at k0 k0f))
            | (go_at_call 99; refine (everyI App plan cp _ #[.pointer (some ⟨w.heap.size, 0, none⟩)] _ _ hmp (hsp.below hb1.of_alloc) (weeksPred fall Ab bought.length cb w.heap.size _ plan hmb k0l (k0 1))).mono ?_; rintro e w2 ⟨rfl, hb2⟩; rw [h2]; obtain ⟨k1, k1f, k1l, k1e, k1n, k1x⟩ := aft hb2 (w.heap.size) (by (try simp [go_sem]); (try omega)); (try simp [go_sem] at k1 k1f))
            | (go_at_call 97; refine (room_spec fall Ab bought cb App plan cp _ hmb hmp ((hsb.below hb1.of_alloc).below hb2) ((hsp.below hb1.of_alloc).below hb2)).mono ?_; rintro e w3 ⟨rfl, hb3⟩; rw [h3]))
          go_ret2
          exact ⟨(hb1.of_alloc.next hb2 (Nat.le_refl _)).next hb3 (Nat.le_refl _), .inr ⟨rfl, g, Ap, cpp, rfl, (hd.below hb2).below hb3⟩⟩
    · have h1' : ((plan.length : Int) != (stock.length : Int)) = true := by simpa using (fun h => h1 (by exact_mod_cast h) : ¬ (plan.length : Int) = (stock.length : Int))
      have he : Price.planErr l fall bought stock plan = 2 := by simp [Price.planErr, h0, h1]
      rw [he]
      clear he
      go_enter Try.func95, Try.ntmps95
      go_wp2_with (first
        | (go_at_call 81; refine HOP'.out.mono ?_; rintro e w1 ⟨g, Ap, cpp, rfl, hd, hb1⟩; obtain ⟨k0, k0f, k0l, k0e, k0n, k0x⟩ := aft hb1 (w.heap.size) (by (try simp [go_sem]); (try omega)); (try simp [go_sem] at k0 k0f)))
      go_ret2
      exact ⟨hb1.of_alloc, .inl ⟨by decide, rfl⟩⟩
  · have he : Price.planErr l fall bought stock plan = Price.openErr l fall bought stock := by simp [Price.planErr, h0]
    rw [he]
    clear he
    have h0' : (Price.openErr l fall bought stock != 0) = true := by simpa using h0
    go_enter Try.func95, Try.ntmps95
    go_wp2_with (first
      | (go_at_call 81; refine HOP.out.mono ?_; rintro e w1 ⟨hb1, ⟨_, rfl⟩ | ⟨h, _⟩⟩; rotate_left; exact absurd h h0))
    go_ret2
    exact ⟨hb1.of_alloc, .inl ⟨h0, rfl⟩⟩
end Go.Proofs.Ytblmlpkjocbhpaa
