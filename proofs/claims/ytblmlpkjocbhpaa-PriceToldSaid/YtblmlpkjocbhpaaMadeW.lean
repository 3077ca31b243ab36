/- Made, of the statements: a list of rules out of a spool. Conditions: at most 8 rules. -/
import Derived.Test.YtblmlpkjocbhpaaTriedW
import Derived.Test.YtblmlpkjocbhpaaEqR
import Derived.Test.YtblmlpkjocbhpaaFree
import Derived.Deep.DeepCutAuto
set_option linter.unusedVariables false
set_option linter.unusedSimpArgs false
namespace Go.Proofs.Ytblmlpkjocbhpaa
open Go.RowKit Go.Shelf
set_option maxRecDepth 100000

theorem IsSpool.alloc_ {B : Nat} {w : World} {g k : Nat} (h : IsSpool B w g k) (o : Obj) : IsSpool B (w.alloc o) g k := h.below ((Below.refl _ w).alloc (Nat.le_refl _) o) h.2.1
/-- A cell of a block that was there. -/
abbrev CellAt (b o : Nat) (v : Value) (w : World) : Prop := b < w.heap.size ∧ w.cell? ⟨b, o, none⟩ = some v
theorem CellAt.only {b o g : Nat} {v : Value} {w w' : World} (h : CellAt b o v w) (hg : b ≠ g) (ho : Only g w w') : CellAt b o v w' :=
  ⟨Nat.lt_of_lt_of_le h.1 ho.below.size, by rw [World.cell?_of_block (w := w) (ho.other b h.1 hg)]; exact h.2⟩
theorem IsSpool.set_ {B : Nat} {w : World} {g k : Nat} (h : IsSpool B w g k) {p : Addr} (hp : B ≤ p.block) (u : Value) : IsSpool B (w.setCell p u) g k := h.keep (by simp [World.setCell]) fun b hb => Below.heap_setCell w p u b (by omega)
theorem Only.alloc_ {g : Nat} {w w1 : World} (h : Only g w w1) (hg : g ≤ w.heap.size) (o : Obj) : Only g w (w1.alloc o) := h.next ((Below.refl _ _).alloc (Nat.le_refl _) o) (Nat.le_trans hg h.below.size) h.below.size
theorem CellAt.alloc_ {b o : Nat} {v : Value} {w : World} (h : CellAt b o v w) (x : Obj) : CellAt b o v (w.alloc x) :=
  ⟨Nat.lt_of_lt_of_le h.1 (by simp), by rw [World.cell?_of_block (w := w) (Below.heap_alloc w x b h.1)]; exact h.2⟩
theorem CellAt.set_ {b o : Nat} {v : Value} {w : World} (h : CellAt b o v w) (p : Addr) (hp : b ≠ p.block) (u : Value) : CellAt b o v (w.setCell p u) :=
  ⟨by simpa [World.setCell] using h.1, by rw [World.cell?_of_block (w := w) (Below.heap_setCell w p u b hp)]; exact h.2⟩
theorem part_spec (B g k bx most : Nat) (w : World) (h : IsSpool B w g k) (hk : k < 10000000) (hm : most ≤ 100) (hg : bx ≠ g) (hc : CellAt bx 0 (.pointer (some ⟨g, 0, none⟩)) w) :
    Calls Try.prog 102 #[iv most, .pointer (some ⟨bx, 0, none⟩)] w fun e w' => ∃ (r : Int) (k' : Nat), e = .returned (iv r) ∧ -1 ≤ r ∧ r ≤ most ∧ k' ≤ k + 2 ∧ IsSpool B w' g k' ∧ Only g w w' := by
  have c0 := hc.2
  go_enter Try.func102, Try.ntmps102
  go_wp2_with fail
  refine (once_spec B w g k 2 h (by omega) (by omega) (by omega)).mono ?_
  rintro e w1 ⟨b, rfl, hsp, ho⟩
  have c1 := (hc.only hg ho).2
  cases b
  · go_wp2_with fail
    refine (upto_spec B w1 g (k + 1) most hsp (by omega) (by omega)).mono ?_
    rintro e w2 ⟨r, rfl, hr, hsp2, ho2⟩
    go_wp2_with fail
    go_ret
    exact ⟨r, k + 2, rfl, by omega, by omega, by omega, hsp2, ho.trans ho2⟩
  · go_wp2_with fail
    go_ret
    exact ⟨-1, k + 1, rfl, by omega, by omega, by omega, hsp, ho⟩
/-- What Made answers. -/
def MadeRet (n B g k : Nat) (w : World) (e : Ending) (w' : World) : Prop :=
  ∃ (v : Value) (l : List Rule) (k' : Nat), e = .returned v ∧ Own ruleE 27 w.heap.size w' v l ∧ Price.MadeOk n l ∧ k' ≤ k + 200 ∧ IsSpool B w' g k' ∧ Only g w w'
set_option maxHeartbeats 8000000 in
theorem made_spec (B g k n : Nat) (w : World) (h : IsSpool B w g k) (hk : k < 1000000) (hn : n ≤ 8) :
    Calls Try.prog 50 #[.pointer (some ⟨g, 0, none⟩), iv n] w (MadeRet n B g k w) := by
  have hgB : g < B ∧ B ≤ w.heap.size := ⟨h.1, h.2.1⟩
  have hmk : ∀ (fn : Fn) (first cap : Array Value) (w : World), (Instr.makeFunc fn first cap).run Try.prog w = .ok (.func fn first cap) w := fun _ _ _ _ => rfl
  have hcf := callFunc_run (P := Try.prog) (K := 102) (by kernel_rfl)
  go_enter Try.func50, Try.ntmps50
  go_wp2_with fail
  have hb1 : Below w.heap.size w (w.alloc (.cells #[.pointer (some ⟨g, 0, none⟩)] 23)) := (Below.refl _ _).alloc (Nat.le_refl _) _
  have hB1 : Blk (w.alloc (.cells #[.pointer (some ⟨g, 0, none⟩)] 23)) w.heap.size 23 #[.pointer (some ⟨g, 0, none⟩)] := Blk.new _ _ _
  have hz1 : (w.alloc (.cells #[.pointer (some ⟨g, 0, none⟩)] 23)).heap.size = w.heap.size + 1 := by simp
  generalize w.alloc (.cells #[.pointer (some ⟨g, 0, none⟩)] 23) = w1 at *
  have hsp1 := h.below hb1 (by omega)
  have HW1 := Lib.hid (show Only g w w1 from ⟨hb1.mono (by omega), fun b hb _ => hb1.block b hb⟩)
  have hca1 : CellAt w.heap.size 0 (.pointer (some ⟨g, 0, none⟩)) w1 := ⟨hB1.lt, hB1.cell 0⟩
  have c1 := hca1.2
  clear h hb1
  refine (upto_spec B w1 g k n hsp1 (by omega) (by omega)).mono ?_
  rintro e w2 ⟨m, rfl, hm, hsp2, ho2⟩
  have hbg : w.heap.size ≠ g := by omega
  have hca2 := hca1.only hbg ho2
  have hz2 := ho2.below.size
  have HW2 := Lib.hid (HW1.out.trans ho2)
  clear ho2 hca1 c1 hsp1 hB1 HW1
  go_wp2_with fail
  go_loopw [5, 7, 12] (fun v _ i wr => ∃ (j : Nat) (l : List Rule) (k' : Nat), j ≤ m ∧ i = iv j ∧ Own ruleE 27 w2.heap.size wr v l ∧ l.length ≤ j ∧ Hid (l.Nodup ∧ ∀ r ∈ l, Price.allowed r = true ∧ 10 ≤ r.p ∧ r.p ≤ 14) ∧ k' ≤ k + 1 + 22 * j ∧ IsSpool B wr g k' ∧ Hid (Only g w2 wr)) (fun _ _ i _ => m - (intOf i).toNat)
  case atStart => exact ⟨0, [], _, by omega, rfl, Own.nil, by simp, by exact ⟨List.nodup_nil, fun r hr => (by cases hr)⟩, by omega, hsp2, Only.refl _ _⟩
  case round =>
    obtain ⟨j, l, k', hj, rfl, hown, hll, hml, hk', hsp, hon⟩ := hrel
    have hzr := hon.out.below.size
    by_cases hlt : j < m
    · have hca := hca2.only hbg hon.out
      have hspd : IsSpool B wr.drew g k' := hsp.keep (Nat.le_refl _) fun _ _ => rfl
      have HSP := Lib.hid hsp
      have HOWN := Lib.hid hown
      have HSd : Hid (CellAt w.heap.size 0 (.pointer (some ⟨g, 0, none⟩)) wr.drew) := hca
      have hgw : g ≤ wr.heap.size := by omega
      have hzd : wr.heap.size ≤ wr.drew.heap.size := Nat.le_refl _
      have HO0 : Hid (Only g wr wr.drew) := ⟨(Below.refl _ wr).drew, fun _ _ _ => rfl⟩
      have HP3 : Hid (∀ (x : World) (kk : Nat), IsSpool B x g kk → kk < 10000000 → CellAt w.heap.size 0 (.pointer (some ⟨g, 0, none⟩)) x → Calls Try.prog 102 #[iv 3, .pointer (some ⟨w.heap.size, 0, none⟩)] x fun e w' => ∃ (r : Int) (k' : Nat), e = .returned (iv r) ∧ -1 ≤ r ∧ r ≤ 3 ∧ k' ≤ kk + 2 ∧ IsSpool B w' g k' ∧ Only g x w') := fun x kk h1 h2 h4 => part_spec B g kk w.heap.size 3 x h1 h2 (by omega) hbg h4
      have HP2 : Hid (∀ (x : World) (kk : Nat), IsSpool B x g kk → kk < 10000000 → CellAt w.heap.size 0 (.pointer (some ⟨g, 0, none⟩)) x → Calls Try.prog 102 #[iv 2, .pointer (some ⟨w.heap.size, 0, none⟩)] x fun e w' => ∃ (r : Int) (k' : Nat), e = .returned (iv r) ∧ -1 ≤ r ∧ r ≤ 2 ∧ k' ≤ kk + 2 ∧ IsSpool B w' g k' ∧ Only g x w') := fun x kk h1 h2 h4 => part_spec B g kk w.heap.size 2 x h1 h2 (by omega) hbg h4
      have HFR : Hid (∀ (x : World) (kk : Nat), IsSpool B x g kk → kk < 10000000 → Calls Try.prog 51 #[.pointer (some ⟨g, 0, none⟩), iv 10, iv 14] x fun e w' => ∃ r : Nat, e = .returned (iv r) ∧ 10 ≤ r ∧ r ≤ 14 ∧ IsSpool B w' g (kk + 1) ∧ Only g x w') := fun x kk h1 h2 => from_spec B x g kk 10 14 h1 (by omega) (by omega) (by omega)
      clear hsp hown
      go_upto_region 5 with fail
      go_cut [7] from 13 to 31 (fun s wx => ∃ (gb : Nat) (r : Rule) (k2 : Nat), s = .pointer (some ⟨gb, 0, none⟩) ∧ Blk wx gb 27 #[iv r.b, iv r.s, iv r.e, iv r.p] ∧ Price.allowed r = true ∧ (10 ≤ r.p ∧ r.p ≤ 14) ∧ k2 ≤ k' + 22 ∧ IsSpool B wx g k2 ∧ Only g wr wx ∧ wr.heap.size ≤ gb)
      case first =>
        have hk9 : k' < 5000000 := by omega
        have hwz2 : w.heap.size < wr.heap.size := by omega
        clear HOWN hml hll hk' hk hn hmk HW2 hca2 hsp2 hz1 hz2 hzr hlt hm hj hon
        refine wp_free_lit (by kernel_rfl) 10 (by kernel_rfl) (by kernel_rfl) (by decide) (fun n x => Only g wr x ∧ ∃ kk, kk ≤ k' + 2 * n ∧ IsSpool B x g kk) (Only g)
          [fun v u x => u = .func (.func 102) #[] #[.pointer (some ⟨w.heap.size, 0, none⟩)],
           fun v u x => ∃ r : Int, u = iv r ∧ -1 ≤ r ∧ r ≤ 3,
           fun v u x => u = .func (.func 102) #[] #[.pointer (some ⟨w.heap.size, 0, none⟩)],
           fun v u x => ∃ r : Int, u = iv r ∧ -1 ≤ r ∧ r ≤ 2,
           fun v u x => u = .func (.func 102) #[] #[.pointer (some ⟨w.heap.size, 0, none⟩)],
           fun v u x => ∃ r : Int, u = iv r ∧ -1 ≤ r ∧ r ≤ 2,
           fun v u x => u = .pointer (some ⟨g, 0, none⟩),
           fun v u x => ∃ r : Int, u = iv r ∧ 10 ≤ r ∧ r ≤ 14,
           fun v u x => u = .agg #[v 1, v 3, v 5, v 7],
           fun v u x => ∃ gb, u = .pointer (some ⟨gb, 0, none⟩) ∧ wr.heap.size ≤ gb ∧ Blk x gb 27 #[iv 0, iv 0, iv 0, iv 0]]
          ⟨HO0.out, k', by omega, hspd⟩ ?_ ?_
        · have hn9 : ∀ n : Nat, n < 1000 → True := fun _ _ => trivial
          simp only [List.take_succ_cons, List.take_zero, HopL]
          refine ⟨?_, ?_, ?_, ?_, ?_, ?_, ?_, ?_, ?_, ?_, trivial⟩
          · refine ⟨fun _ _ _ _ _ h => h, fun _ _ _ _ h _ => h, fun v n x hn hR hk => ?_⟩
            have c0 := (hca.only hbg hR.1).2
            simp only [List.take_succ_cons, List.take_zero, frameF, Act.put, List.setIfInBounds_toArray, List.set_cons_zero, List.set_cons_succ]
            exact stepF_val (by rfl) (by go_simp) ⟨rfl, Only.refl _ _, hR.1, hR.2.imp fun kk h => ⟨by omega, h.2⟩⟩
          · refine ⟨fun _ _ _ _ _ h => h, fun _ _ _ _ h _ => h, fun v n x hn hR hk => ?_⟩
            have h0 : v 0 = Value.func (.func 102) #[] #[.pointer (some ⟨w.heap.size, 0, none⟩)] := hk 0 (by kernel_rfl)
            have hn11 : n < 11 := hn
            obtain ⟨kk, hkk, hsk⟩ := hR.2
            simp only [List.take_succ_cons, List.take_zero, frameF, Act.put, List.setIfInBounds_toArray, List.set_cons_zero, List.set_cons_succ]
            refine stepF_call (by rfl) (by go_simp) (HP3.out x kk hsk (by omega) (hca.only hbg hR.1)) ?_
            rintro e x' ⟨r, k2, rfl, h1, h2, h3, h4, h5⟩
            exact ⟨_, rfl, ⟨r, rfl, h1, h2⟩, h5, hR.1.trans h5, k2, by omega, h4⟩
          · refine ⟨fun _ _ _ _ _ h => h, fun _ _ _ _ h _ => h, fun v n x hn hR hk => ?_⟩
            have c0 := (hca.only hbg hR.1).2
            simp only [List.take_succ_cons, List.take_zero, frameF, Act.put, List.setIfInBounds_toArray, List.set_cons_zero, List.set_cons_succ]
            exact stepF_val (by rfl) (by go_simp) ⟨rfl, Only.refl _ _, hR.1, hR.2.imp fun kk h => ⟨by omega, h.2⟩⟩
          · refine ⟨fun _ _ _ _ _ h => h, fun _ _ _ _ h _ => h, fun v n x hn hR hk => ?_⟩
            have h0 : v 2 = Value.func (.func 102) #[] #[.pointer (some ⟨w.heap.size, 0, none⟩)] := hk 2 (by kernel_rfl)
            have hn11 : n < 11 := hn
            obtain ⟨kk, hkk, hsk⟩ := hR.2
            simp only [List.take_succ_cons, List.take_zero, frameF, Act.put, List.setIfInBounds_toArray, List.set_cons_zero, List.set_cons_succ]
            refine stepF_call (by rfl) (by go_simp) (HP2.out x kk hsk (by omega) (hca.only hbg hR.1)) ?_
            rintro e x' ⟨r, k2, rfl, h1, h2, h3, h4, h5⟩
            exact ⟨_, rfl, ⟨r, rfl, h1, h2⟩, h5, hR.1.trans h5, k2, by omega, h4⟩
          · refine ⟨fun _ _ _ _ _ h => h, fun _ _ _ _ h _ => h, fun v n x hn hR hk => ?_⟩
            have c0 := (hca.only hbg hR.1).2
            simp only [List.take_succ_cons, List.take_zero, frameF, Act.put, List.setIfInBounds_toArray, List.set_cons_zero, List.set_cons_succ]
            exact stepF_val (by rfl) (by go_simp) ⟨rfl, Only.refl _ _, hR.1, hR.2.imp fun kk h => ⟨by omega, h.2⟩⟩
          · refine ⟨fun _ _ _ _ _ h => h, fun _ _ _ _ h _ => h, fun v n x hn hR hk => ?_⟩
            have h0 : v 4 = Value.func (.func 102) #[] #[.pointer (some ⟨w.heap.size, 0, none⟩)] := hk 4 (by kernel_rfl)
            have hn11 : n < 11 := hn
            obtain ⟨kk, hkk, hsk⟩ := hR.2
            simp only [List.take_succ_cons, List.take_zero, frameF, Act.put, List.setIfInBounds_toArray, List.set_cons_zero, List.set_cons_succ]
            refine stepF_call (by rfl) (by go_simp) (HP2.out x kk hsk (by omega) (hca.only hbg hR.1)) ?_
            rintro e x' ⟨r, k2, rfl, h1, h2, h3, h4, h5⟩
            exact ⟨_, rfl, ⟨r, rfl, h1, h2⟩, h5, hR.1.trans h5, k2, by omega, h4⟩
          · refine ⟨fun _ _ _ _ _ h => h, fun _ _ _ _ h _ => h, fun v n x hn hR hk => ?_⟩
            have c0 := (hca.only hbg hR.1).2
            simp only [List.take_succ_cons, List.take_zero, frameF, Act.put, List.setIfInBounds_toArray, List.set_cons_zero, List.set_cons_succ]
            exact stepF_val (by rfl) (by go_simp) ⟨rfl, Only.refl _ _, hR.1, hR.2.imp fun kk h => ⟨by omega, h.2⟩⟩
          · refine ⟨fun _ _ _ _ _ h => h, fun _ _ _ _ h _ => h, fun v n x hn hR hk => ?_⟩
            have h0 : v 6 = .pointer (some ⟨g, 0, none⟩) := hk 6 (by kernel_rfl)
            have hn11 : n < 11 := hn
            obtain ⟨kk, hkk, hsk⟩ := hR.2
            simp only [List.take_succ_cons, List.take_zero, frameF, Act.put, List.setIfInBounds_toArray, List.set_cons_zero, List.set_cons_succ]
            refine stepF_call (by rfl) (by go_simp) (HFR.out x kk hsk (by omega)) ?_
            rintro e x' ⟨r, rfl, h1, h2, h4, h5⟩
            exact ⟨_, rfl, ⟨(r : Int), rfl, by omega, by omega⟩, h5, hR.1.trans h5, kk + 1, by omega, h4⟩
          · refine ⟨fun v v' u x h hs => ?_, fun _ _ _ _ h _ => h, fun v n x hn hR hk => ?_⟩
            · show u = .agg #[v' 1, v' 3, v' 5, v' 7]
              rw [← h 1 (by kernel_rfl), ← h 3 (by kernel_rfl), ← h 5 (by kernel_rfl), ← h 7 (by kernel_rfl)]
              exact hs
            · have h1 : ∃ r : Int, v 1 = iv r ∧ -1 ≤ r ∧ r ≤ 3 := hk 1 (by kernel_rfl)
              have h3 : ∃ r : Int, v 3 = iv r ∧ -1 ≤ r ∧ r ≤ 2 := hk 3 (by kernel_rfl)
              have h5 : ∃ r : Int, v 5 = iv r ∧ -1 ≤ r ∧ r ≤ 2 := hk 5 (by kernel_rfl)
              have h7 : ∃ r : Int, v 7 = iv r ∧ 10 ≤ r ∧ r ≤ 14 := hk 7 (by kernel_rfl)
              obtain ⟨r1, e1, _⟩ := h1
              obtain ⟨r3, e3, _⟩ := h3
              obtain ⟨r5, e5, _⟩ := h5
              obtain ⟨r7, e7, _⟩ := h7
              simp only [List.take_succ_cons, List.take_zero, frameF, Act.put, List.setIfInBounds_toArray, List.set_cons_zero, List.set_cons_succ]
              exact stepF_val (u := .agg #[iv r1, iv r3, iv r5, iv r7]) (by rfl) (by go_simp) ⟨by show _ = Value.agg #[v 1, v 3, v 5, v 7]; rw [e1, e3, e5, e7], Only.refl _ _, hR.1, hR.2.imp fun kk h => ⟨by omega, h.2⟩⟩
          · refine ⟨fun _ _ _ _ _ h => h, fun v u x x' h hS => ?_, fun v n x hn hR hk => ?_⟩
            · obtain ⟨gb, h1, h2, h3⟩ := h
              exact ⟨gb, h1, h2, h3.only (by omega) hS⟩
            · obtain ⟨kk, hkk, hsk⟩ := hR.2
              simp only [List.take_succ_cons, List.take_zero, frameF, Act.put, List.setIfInBounds_toArray, List.set_cons_zero, List.set_cons_succ]
              refine stepF_new (u := .pointer (some ⟨x.heap.size, 0, none⟩)) (w' := x.alloc (.cells #[iv 0, iv 0, iv 0, iv 0] 27)) (by rfl) (by go_simp) ⟨⟨x.heap.size, rfl, hR.1.below.size, Blk.new _ _ _⟩, (Only.refl _ _).alloc_ (Nat.le_trans hgw hR.1.below.size) _, hR.1.alloc_ hgw _, kk, by omega, hsk.alloc_ _⟩
        · intro v n x hn hR hall
          have hn11 : n ≤ 11 := hn
          obtain ⟨kk, hkk, hsk⟩ := hR.2
          have h1 : ∃ r : Int, v 1 = iv r ∧ -1 ≤ r ∧ r ≤ 3 := hall 1 (by decide)
          have h3 : ∃ r : Int, v 3 = iv r ∧ -1 ≤ r ∧ r ≤ 2 := hall 3 (by decide)
          have h5 : ∃ r : Int, v 5 = iv r ∧ -1 ≤ r ∧ r ≤ 2 := hall 5 (by decide)
          have h7 : ∃ r : Int, v 7 = iv r ∧ 10 ≤ r ∧ r ≤ 14 := hall 7 (by decide)
          have h8 : v 8 = .agg #[v 1, v 3, v 5, v 7] := hall 8 (by decide)
          have h9 : ∃ gb, v 9 = .pointer (some ⟨gb, 0, none⟩) ∧ wr.heap.size ≤ gb ∧ Blk x gb 27 #[iv 0, iv 0, iv 0, iv 0] := hall 9 (by decide)
          obtain ⟨r1, e1, b1⟩ := h1
          obtain ⟨r3, e3, b3⟩ := h3
          obtain ⟨r5, e5, b5⟩ := h5
          obtain ⟨r7, e7, b7⟩ := h7
          obtain ⟨gb, e9, hgb, hBx⟩ := h9
          rw [e1, e3, e5, e7] at h8
          have hRx := hR.1
          have n0 := hBx.cell
          have n1 := hBx.frozen
          have n2 := hBx.lt
          clear hall hR
          simp only [List.drop_succ_cons, List.drop_zero, List.take_succ_cons, List.take_zero, frameF, Act.put, List.setIfInBounds_toArray, List.set_cons_zero, List.set_cons_succ]
          go_wp2_with fail
          go_meet
          refine ⟨gb, ⟨r1, r3, r5, r7⟩, kk, e9, (((hBx.set_ 0 _).set_ 1 _).set_ 2 _).set_ 3 _, ?_, ?_, ?_, (((hsk.set_ ?_ _).set_ ?_ _).set_ ?_ _).set_ ?_ _, (((hRx.setCell ?_ ?_ _).setCell ?_ ?_ _).setCell ?_ ?_ _).setCell ?_ ?_ _, hgb⟩
          · simp only [Price.allowed, Price.inB, Bool.and_eq_true, decide_eq_true_eq]; omega
          · dsimp only; omega
          · omega
          all_goals (first | omega | (simp; omega))
      case rest =>
        obtain ⟨gb, ⟨ra, rb, rc, rd⟩, k2, rfl, hB, hal, hrp, hk2, hsx, hox, hgb⟩ := hcut
        have hownx := HOWN.out.only (by omega) hox
        obtain ⟨A, c, rfl, _, _⟩ := hownx.form
        have HC : Hid (∀ W, Sl ruleE W A l → Calls Try.prog 103 #[.slice A l.length c, .agg #[iv ra, iv rb, iv rc, iv rd]] W fun e w' => e = .returned (.bool (l.contains (⟨ra, rb, rc, rd⟩ : Rule))) ∧ Below W.heap.size W w') := fun W hW => containsRule A l c ⟨ra, rb, rc, rd⟩ W (by unfold big; omega) hW
        have HSL := Lib.hid hownx.sl
        obtain ⟨n0, n1, n2, n3, n4, n5⟩ := hB.facts
        have HB := Lib.hid hB
        have hzx := hox.below.size
        have HON := Lib.hid (hon.out.trans hox)
        have HOWX := Lib.hid hownx
        have HAL := Lib.hid hal
        clear hB hownx hox hon hal HOWN HP3 HP2 HFR HO0 HSd hspd hca
        cases hct : l.contains (⟨ra, rb, rc, rd⟩ : Rule)
        · rw [hct] at HC
          go_wp2_with (first
            | (go_at_call 103; refine (HC.out _ HSL.out).mono ?_; rintro e w5 ⟨rfl, hb5⟩; have hB5 := HB.out.under hb5; obtain ⟨p0, p1, p2, p3, p4, p5⟩ := hB5.facts; clear n0 n1 n2 n3 n4 n5 hB5; have hz5 := hb5.size; have HOW5 := Lib.hid (HOWX.out.below hb5); have HSP5 := Lib.hid (hsx.below hb5 (by omega)); have HON5 := Lib.hid (HON.out.next hb5 (by omega) (by omega)); clear hb5)
            | (at_builtin; refine wpApp1 ruleE tyRules rfl _ _ rfl HOW5.out ⟨ra, rb, rc, rd⟩ rfl rfl rfl (by omega) (by unfold big; omega) ?_; intro v' w6 hown6 hb6 hk6))
          have hsp6 := HSP5.out.below hb6 (by omega)
          have HON6 := Lib.hid (HON5.out.next hb6 (by omega) (by omega))
          clear hb6 hk6
          go_roundw
          case rel =>
            refine ⟨j + 1, l ++ [⟨ra, rb, rc, rd⟩], k2, by omega, by go_num, hown6, by simp; omega, ?_, by omega, hsp6, HON6.out⟩
            refine ⟨List.nodup_append.2 ⟨hml.out.1, by simp, fun r hr q hq e => ?_⟩, fun r hr => ?_⟩
            · rw [List.mem_singleton] at hq
              subst hq; subst e
              have := List.contains_iff_mem.2 hr
              rw [hct] at this; cases this
            · rcases List.mem_append.1 hr with h | h
              · exact hml.out.2 r h
              · rw [List.mem_singleton] at h; subst h; exact ⟨HAL.out, hrp⟩
          case measure => simp [intOf]; omega
        · rw [hct] at HC
          go_wp2_with (first
            | (go_at_call 103; refine (HC.out _ HSL.out).mono ?_; rintro e w5 ⟨rfl, hb5⟩; have hz5 := hb5.size; have HOW5 := Lib.hid (HOWX.out.below hb5); have HSP5 := Lib.hid (hsx.below hb5 (by omega)); have HON5 := Lib.hid (HON.out.next hb5 (by omega) (by omega)); clear hb5 n0 n1 n2 n3 n4 n5))
          go_roundw
          case rel => exact ⟨j + 1, l, k2, by omega, by go_num, HOW5.out, by omega, hml, by omega, HSP5.out, HON5.out⟩
          case measure => simp [intOf]; omega
    · obtain ⟨A, c, rfl, _, _⟩ := hown.form
      have HOWN := Lib.hid hown
      clear hown
      go_wp2_with fail
      go_ret
      exact ⟨_, l, k', rfl, HOWN.out.base (by omega), ⟨by omega, hml.out.1, hml.out.2⟩, by omega, hsp, HW2.out.trans hon.out⟩
end Go.Proofs.Ytblmlpkjocbhpaa
