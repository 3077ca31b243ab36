/- Package file: Alike. Condition: lengths are below a great bound. -/
import Derived.Test.YtekkhnjepcebkaaGreatDoorFlK
set_option linter.unusedVariables false
set_option linter.unusedSimpArgs false
namespace Go.Proofs.YtekkhnjepcebkaaGreatDoor
namespace Fl
open Go.RowKit Go.Maps Go.WideMaps Go.ChangeShapes
set_option maxRecDepth 100000
theorem err_zero {a b : List ByteArray} (h : errOf a b = 0) {A A' : Option Addr} {c c' : Nat} {w : World} (H : Calls Tryz.prog 81 #[.slice A a.length c, .slice A' b.length c'] w fun e w' => e = .returned (iv (if File.check a = 0 then File.check b else File.check a)) ∧ Below w.heap.size w w') :
    Calls Tryz.prog 81 #[.slice A a.length c, .slice A' b.length c'] w fun e w' => e = .returned (iv 0) ∧ Below w.heap.size w w' :=
  H.mono (by rintro e w' ⟨rfl, hb'⟩; exact ⟨by rw [show (if File.check a = 0 then File.check b else File.check a) = 0 from h], hb'⟩)
theorem results_row_tmp {fn : Func} {p u : Tmp} {ty : TypeId} (h : fn.results = #[.cell p ty, .tmp u]) (tmps : Array Value) (w : World) (g : Nat) (v : Value)
    (hp : tmps.getD p undef = .pointer (some ⟨g, 0, none⟩)) (hl : (loadVar ty ⟨g, 0, none⟩).run Tryz.prog w = .ok v w) :
    (results fn tmps).run Tryz.prog w = .ok (.tuple #[v, tmps.getD u undef]) w := by
  have hp' : tmps[p]?.getD undef = .pointer (some ⟨g, 0, none⟩) := by simpa using hp
  simp [results, h, hp', asAddr, hl]
theorem ratio_row {w : World} {g : Nat} {x y : Value} (h : Blk w g 117 #[x, y]) : (loadVar 117 ⟨g, 0, none⟩).run Tryz.prog w = .ok (.agg #[x, y]) w :=
  run_loadVar_row w g 117 117 #[x, y] (0, 0) _ h Tryz.underlying117 (by rfl) (by kernel_rfl)
theorem quot_in {p x : Nat} (hp : p ≤ 48) : IntKind.i64.wrap ((p / x : Nat) : Int) = ((p / x : Nat) : Int) := by
  have h := Nat.div_le_self p x
  have h3 : ((p / x : Nat) : Int) ≤ 48 := by omega
  have h4 : (0 : Int) ≤ ((p / x : Nat) : Int) := Int.natCast_nonneg _
  generalize ((p / x : Nat) : Int) = z at *
  exact IntWalk.i64_in _ (by omega)
/-- What Alike answers. -/
def alikeOf (a b : List ByteArray) : Int × Int × Int :=
  if errOf a b = 0 then
    if a.length + b.length = 0 then (0, 0, 6)
    else (((2 * (File.common a b).length / Nat.gcd (2 * (File.common a b).length) (a.length + b.length) : Nat) : Int), (((a.length + b.length) / Nat.gcd (2 * (File.common a b).length) (a.length + b.length) : Nat) : Int), 0)
  else (0, 0, errOf a b)
theorem Alike_spec (A : Option Addr) (a : List ByteArray) (c : Nat) (A' : Option Addr) (b : List ByteArray) (c' : Nat) (w : World) (ha : a.length ≤ big) (hb : b.length ≤ big) (hsa : Sl strE w A a) (hsb : Sl strE w A' b) :
    Calls Tryz.prog 75 #[.slice A a.length c, .slice A' b.length c'] w fun e w' => e = .returned (.tuple #[.agg #[iv (alikeOf a b).1, iv (alikeOf a b).2.1], iv (alikeOf a b).2.2]) ∧ Below w.heap.size w w' := by
  have hR : Below w.heap.size w (w.alloc (.cells #[Value.int .i64 0, Value.int .i64 0] 117)) := (Below.refl _ _).alloc (Nat.le_refl _) _
  have hRb : Blk (w.alloc (.cells #[Value.int .i64 0, Value.int .i64 0] 117)) w.heap.size 117 #[iv 0, iv 0] := Blk.new _ _ _
  have HB := Lib.hid (both_spec A a c A' b c' (w.alloc (.cells #[Value.int .i64 0, Value.int .i64 0] 117)) ha hb (hsa.below hR) (hsb.below hR))
  unfold alikeOf
  by_cases h : errOf a b = 0
  · have h1 := err_good h
    have g1 := good_of_check h1.1
    have g2 := good_of_check h1.2
    have m1 := g1.many
    have m2 := g2.many
    rw [if_pos h]
    have HB2 := Lib.hid (err_zero h HB.out)
    clear HB h
    by_cases hz : a.length + b.length = 0
    · rw [if_pos hz]
      have hq : ((a.length : Int) + b.length == 0) = true := by simp; omega
      clear hz
      go_enter Tryz.func75, Tryz.ntmps75
      go_wp2_with fail
      refine HB2.out.mono ?_
      rintro e w1 ⟨rfl, hb1⟩
      have hb2 := hR.next hb1 (Nat.le_refl _)
      have r0 := (hRb.under hb1).cell 0
      have r1 := (hRb.under hb1).cell 1
      have f0 := (hRb.under hb1).frozen 0
      have f1 := (hRb.under hb1).frozen 1
      go_wp2_with fail
      exact bodyPost_ret (results_row_tmp (fn := Tryz.f75) (p := 4) (u := 5) (ty := 117) (by kernel_rfl) _ _ w.heap.size _ (by rfl) (ratio_row (((hRb.under hb1).set_ 0 (iv 0)).set_ 1 (iv 0)))) rfl ⟨rfl, (hb2.setCell (p := ⟨w.heap.size, 0, none⟩) (Nat.le_refl _) _).setCell (p := ⟨w.heap.size, 1, none⟩) (Nat.le_refl _) _⟩
    · rw [if_neg hz]
      have hq : ((a.length : Int) + b.length == 0) = false := by simp; omega
      go_enter Tryz.func75, Tryz.ntmps75
      go_wp2_with fail
      refine HB2.out.mono ?_
      rintro e w1 ⟨rfl, hb1⟩
      go_wp2_with fail
      have HRB := Lib.hid (hRb.under hb1)
      have hb2 := hR.next hb1 (Nat.le_refl _)
      refine (common_spec A a c A' b c' w1 m1 m2 (hsa.below hb2) (hsb.below hb2) (fun s hs => Nat.le_trans (g1.wide s hs) (by decide)) (fun s hs => Nat.le_trans (g2.wide s hs) (by decide))).mono ?_
      rintro e w2 ⟨v, rfl, hv, hb3⟩
      obtain ⟨X, cx, rfl, hcx, hmx⟩ := hv.form
      have hb4 : Below w.heap.size w w2 := hb2.next hb3 (Nat.le_refl _)
      have hll : (File.common a b).length ≤ 24 := by rw [File.common_length]; exact Nat.le_trans (File.lcs_most a b) g1.many
      obtain ⟨n, hl⟩ : ∃ n, n = (File.common a b).length := ⟨_, rfl⟩
      rw [← hl] at hll
      rw [← hl]
      have HL := Lib.hid hl
      have HRB2 := Lib.hid (Blk.under HRB.out hb3)
      clear hl hv
      go_wp2_with fail
      obtain ⟨D, hD⟩ : ∃ D, D = Nat.gcd (2 * n) (a.length + b.length) := ⟨_, rfl⟩
      go_loopw [9, 10] (fun u v wr => ∃ x y : Nat, x ≤ 48 ∧ y ≤ 48 ∧ u = iv (x : Int) ∧ v = iv (y : Int) ∧ Hid (Nat.gcd x y = D) ∧ Below w2.heap.size w2 wr) (fun _ v _ => (intOf v).toNat)
      case atStart => exact ⟨2 * n, a.length + b.length, by omega, by omega, by simp, by simp, hD.symm, Below.refl _ _⟩
      case round =>
        obtain ⟨x, y, hx, hy, rfl, rfl, HG, hbr⟩ := hrel
        by_cases hlt : 0 < y
        · have hy0 : ¬ ((y : Int) = 0) := by omega
          have hyq : ((y : Int) == 0) = false := by simp; omega
          have hlt' : (0 : Int) < (y : Int) := by omega
          have hmod : Int.tmod (x : Int) (y : Int) = ((x % y : Nat) : Int) := by rw [Int.tmod_eq_emod_of_nonneg (by omega)]; rfl
          have hml : x % y < y := Nat.mod_lt _ hlt
          have HGn : Hid (Nat.gcd y (x % y) = D) := Lib.hid (by have := HG.out; rw [Nat.gcd_comm, Nat.gcd_rec] at this; rw [Nat.gcd_comm]; exact this)
          go_upto_region 9 with fail
          go_quiet (fail)
          go_wp2_with fail
          refine ⟨⟨y, x % y, hy, by omega, rfl, by simp, HGn, ⟨hbr.os, hbr.tape, hbr.output, hbr.size, hbr.block⟩⟩, ?_⟩
          simp only [intOf]
          omega
        · have hy0 : y = 0 := by omega
          subst hy0
          have hxD : x = D := by have := HG.out; rw [Nat.gcd_zero_right] at this; exact this
          have hDp : 0 < D := by rw [hD]; exact Nat.gcd_pos_of_pos_right _ (by omega)
          have hxq : ((x : Int) == 0) = false := by simp; omega
          have hx0 : ¬ ((x : Int) = 0) := by omega
          have hxn : ¬ x = 0 := by omega
          have hxp : (0 : Int) < (x : Int) := by omega
          have hdx : Hid (2 * n / x = 2 * (File.common a b).length / Nat.gcd (2 * (File.common a b).length) (a.length + b.length) ∧ (a.length + b.length) / x = (a.length + b.length) / Nat.gcd (2 * (File.common a b).length) (a.length + b.length)) := Lib.hid (by rw [hxD, hD, HL.out]; exact ⟨rfl, rfl⟩)
          have hbz : Below w.heap.size w wr := hb4.next hbr (Nat.le_refl _)
          have Q : Hid (2 * (n : Int) / (x : Int) = ((2 * n / x : Nat) : Int) ∧ ((a.length : Int) + b.length) / (x : Int) = (((a.length + b.length) / x : Nat) : Int) ∧ Int.tdiv (2 * (n : Int)) (x : Int) = ((2 * n / x : Nat) : Int) ∧ Int.tdiv ((a.length : Int) + b.length) (x : Int) = (((a.length + b.length) / x : Nat) : Int) ∧
              IntKind.i64.wrap ((2 * n / x : Nat) : Int) = ((2 * n / x : Nat) : Int) ∧ IntKind.i64.wrap (((a.length + b.length) / x : Nat) : Int) = (((a.length + b.length) / x : Nat) : Int) ∧ (∀ z, wrap64 z = IntKind.i64.wrap z)) := Lib.hid (by
            refine ⟨by simp, by simp, by rw [Int.tdiv_eq_ediv_of_nonneg (by omega)]; simp, by rw [Int.tdiv_eq_ediv_of_nonneg (by omega)]; simp, quot_in (by omega), quot_in (by omega), fun z => (IntWalk.i64_left z).symm⟩)
          clear hxD hD hDp
          have HRr := Blk.under (Blk.under HRB2.out hbr) ((Below.refl _ wr).drew)
          have r0 : wr.drew.cell? ⟨w.heap.size, 0, none⟩ = some (iv 0) := HRr.cell 0
          have r1 : wr.drew.cell? ⟨w.heap.size, 1, none⟩ = some (iv 0) := HRr.cell 1
          have f0 := HRr.frozen 0
          have f1 := HRr.frozen 1
          have HRs := Blk.under HRB2.out hbr
          have s0 : wr.cell? ⟨w.heap.size, 0, none⟩ = some (iv 0) := HRs.cell 0
          have s1 : wr.cell? ⟨w.heap.size, 1, none⟩ = some (iv 0) := HRs.cell 1
          have t0 := HRs.frozen 0
          have t1 := HRs.frozen 1
          go_upto_region 10 with fail
          go_region_held3 (fun _ => True) (trivial) (fail)
          all_goals
            go_wp2_with fail
            obtain ⟨z1, z2, z3, z4, z5, z6, z7⟩ := Q.out
            simp only [z7, z1, z2, z3, z4, z5, z6]
            rw [hdx.out.1, hdx.out.2]
            exact bodyPost_ret (results_row_tmp (fn := Tryz.f75) (p := 4) (u := 5) (ty := 117) (by kernel_rfl) _ _ w.heap.size _ (by rfl) (ratio_row (Blk.under ((HRs.set_ 0 (iv _)).set_ 1 (iv _)) ((Below.refl _ _).drew)))) rfl ⟨rfl, ((hbz.setCell (p := ⟨w.heap.size, 0, none⟩) (Nat.le_refl _) _).setCell (p := ⟨w.heap.size, 1, none⟩) (Nat.le_refl _) _).drew⟩
  · rw [if_neg h]
    have HB2 : Hid (Calls Tryz.prog 81 #[.slice A a.length c, .slice A' b.length c'] (w.alloc (.cells #[Value.int .i64 0, Value.int .i64 0] 117)) fun e w' => e = .returned (iv (errOf a b)) ∧ Below (w.alloc (.cells #[Value.int .i64 0, Value.int .i64 0] 117)).heap.size (w.alloc (.cells #[Value.int .i64 0, Value.int .i64 0] 117)) w') := Lib.hid HB.out
    clear HB
    obtain ⟨r, hr⟩ : ∃ r, r = errOf a b := ⟨_, rfl⟩
    rw [← hr] at HB2 h
    rw [← hr]
    have hne : (r != 0) = true := by simpa using h
    clear hr h
    go_enter Tryz.func75, Tryz.ntmps75
    go_wp2_with fail
    refine HB2.out.mono ?_
    rintro e w1 ⟨rfl, hb1⟩
    have hb2 := hR.next hb1 (Nat.le_refl _)
    have r0 := (hRb.under hb1).cell 0
    have r1 := (hRb.under hb1).cell 1
    have f0 := (hRb.under hb1).frozen 0
    have f1 := (hRb.under hb1).frozen 1
    go_wp2_with fail
    exact bodyPost_ret (results_row_tmp (fn := Tryz.f75) (p := 4) (u := 5) (ty := 117) (by kernel_rfl) _ _ w.heap.size _ (by rfl) (ratio_row (((hRb.under hb1).set_ 0 (iv 0)).set_ 1 (iv 0)))) rfl ⟨rfl, (hb2.setCell (p := ⟨w.heap.size, 0, none⟩) (Nat.le_refl _) _).setCell (p := ⟨w.heap.size, 1, none⟩) (Nat.le_refl _) _⟩
end Fl
end Go.Proofs.YtekkhnjepcebkaaGreatDoor
