/- FileSince: the walk. Condition: the library's table of powers of ten lies as the program's text lays it. -/
import Derived.Test.YtkhmkpcihphkcaaDoorChangeF
import Derived.Test.YtkhmkpcihphkcaaDoorFlY
import Derived.Test.YtkhmkpcihphkcaaDoorFlSn
import Derived.Test.YtkhmkpcihphkcaaDoorFlPr
set_option linter.unusedVariables false
set_option linter.unusedSimpArgs false
namespace Go.Proofs.YtkhmkpcihphkcaaDoor
namespace Fl
open Go.RowKit Go.Shelf
set_option maxRecDepth 100000
theorem tySS : SlTy Tryd.prog 78 23 1 := slTy_of (z := .slice none 0 0) (bytes := 24) Tryd.underlying78 (by kernel_rfl) rfl (by decide)
theorem wound2_spec (A : Option Addr) (n : Nat) (c : Nat) (w : World) :
    Calls Tryd.prog 17 #[.slice A n c] w fun e w' => ∃ st, e = .returned (.pointer (some ⟨w.heap.size, 0, none⟩)) ∧ Blk w' w.heap.size 118 #[.slice A n c, iv 0, .int .u64 st] ∧ Below w.heap.size w w' := by
  go_enter Tryd.func17, Tryd.ntmps17
  go_wp2
  go_ret
  exact ⟨_, rfl, Blk.new _ _ _, (Below.refl _ _).alloc (Nat.le_refl _) _⟩
theorem selfI (A : Option Addr) (xs : List Int) (n c : Nat) (A' : Option Addr) (c' : Nat) (w : World) (hn : xs.length = n) (hm : n ≤ big) (hs : Sl intE w A xs) (hs' : Sl intE w A' xs) :
    Calls Tryd.prog 52 #[.slice A n c, .slice A' n c'] w fun e w' => e = .returned (.bool true) ∧ Below w.heap.size w w' := by
  subst hn
  unfold big at hm
  go_enter Tryd.func52, Tryd.ntmps52
  go_wp2_with fail
  go_loopw [5, 13] (fun _ i wr => ∃ k : Nat, k ≤ xs.length ∧ i = iv k ∧ Below w.heap.size w wr) (fun _ i _ => xs.length - (intOf i).toNat)
  case atStart => exact ⟨0, by omega, rfl, Below.refl _ _⟩
  case round =>
    obtain ⟨k, hk, rfl, hbr⟩ := hrel
    by_cases hlt : k < xs.length
    · have hki : (k : Int) < (xs.length : Int) := by omega
      obtain ⟨b, off, x, rfl, hb, hx, hc⟩ := Sl.atI (hs.below hbr) hlt
      obtain ⟨b', off', y, rfl, hb', hy, hc'⟩ := Sl.atI (hs'.below hbr) hlt
      have e : y = x := by rw [hx] at hy; exact (Option.some.inj hy).symm
      subst e
      clear hx hy
      go_wp2_with fail
      go_quiet (fail)
      have hbq : Below w.heap.size w (wr.drewN nq) := ⟨hbr.os, hbr.tape, hbr.output, hbr.size, hbr.block⟩
      generalize wr.drewN nq = wq at *
      go_wp2_with fail
      go_roundw
      case rel => exact ⟨k + 1, by omega, by go_num, hbq⟩
      case measure => simp [intOf]; omega
    · have hki : ¬ (k : Int) < (xs.length : Int) := by omega
      go_wp2_with fail
      go_ret
      exact ⟨rfl, hbr⟩
theorem mk12s (g : Nat) (w : World) (B : Nat) (h : IsSpool B w g 0) : Calls Tryd.prog 16 #[.pointer (some ⟨g, 0, none⟩), .int .i64 12] w fun e w' => ∃ (v : Value) (xs : List ByteArray), e = .returned v ∧ Own strE 9 w.heap.size w' v xs ∧ xs.length ≤ 12 ∧ (∀ s ∈ xs, LnOk s) ∧ Only g w w' := by
  have := mk_spec B w g 0 12 h (by omega) (by decide)
  refine this.mono ?_
  rintro e w' ⟨v, xs, k', rfl, h1, h2, h3, _, _, h4⟩
  exact ⟨v, xs, rfl, h1, h2, h3, h4⟩
theorem upto3 (B : Nat) (w : World) (g k : Nat) (h : IsSpool B w g k) (hk : k < 1000000) :
    Calls Tryd.prog 46 #[.pointer (some ⟨g, 0, none⟩), .int .i64 3] w fun e w' => ∃ r : Nat, e = .returned (iv r) ∧ r ≤ 3 ∧ IsSpool B w' g (k + 1) ∧ Only g w w' := by
  have := upto_spec B w g k 3 h (by omega) (by decide)
  refine this.mono ?_
  rintro e w' ⟨r, rfl, h1, h2, h3⟩
  exact ⟨r, rfl, h1, h2, h3⟩
theorem changed3s (B : Nat) (g k : Nat) (w : World) (A : Option Addr) (f : List ByteArray) (c : Nat) (h : IsSpool B w g k) (hk : k < 100000) (hs : Sl strE w A f) (hf : f.length ≤ 21) (hok : ∀ s ∈ f, LnOk s) :
    Calls Tryd.prog 45 #[.pointer (some ⟨g, 0, none⟩), .slice A f.length c, .int .i64 3] w fun e w' => ∃ (v : Value) (xs : List ByteArray) (k' : Nat), e = .returned v ∧ Own strE 9 w.heap.size w' v xs ∧ xs.length ≤ 21 ∧ (∀ s ∈ xs, LnOk s) ∧ k' ≤ k + 61 ∧ IsSpool B w' g k' ∧ Only g w w' := by
  have := changed_spec B w g k 3 A f c h hk (by omega) hs hf hok
  refine this.mono ?_
  rintro e w' ⟨v, xs, k', rfl, h1, h2, h3, h4, h5, h6⟩
  exact ⟨v, xs, k', rfl, h1, h2, h3, by omega, h5, h6⟩
/-- Strings stand where only a spool's block is written. -/
theorem strs_only {B g : Nat} {w w' : World} {cs : Array Value} (h : Only g w w') (hg : Blk w g 118 cs) : Strs B w w' := ⟨h.below.size, fun q ds fr _ hq => h.other q (Array.getElem?_eq_some_iff.1 hq).1 fun e => by
  subst e
  unfold Blk at hg
  rw [hg] at hq
  injection hq with hq
  injection hq with _ h2 _
  exact absurd h2 (by decide)⟩
theorem spool_blk {B g k : Nat} {w : World} (h : IsSpool B w g k) : ∃ cs, Blk w g 118 cs := by
  obtain ⟨_, _, _, _, _, _, hb, _⟩ := h
  exact ⟨_, hb⟩
/-- Rows that are the call's own, of few lines that are right. -/
def RwOk (B : Nat) (w : World) (vs : List (Rw ByteArray)) : Prop := ∀ r ∈ vs, Own strE 9 B w (.slice r.A r.xs.length r.c) r.xs ∧ r.xs.length ≤ 21 ∧ r.xs.length ≤ r.c ∧ ∀ s ∈ r.xs, LnOk s
theorem RwOk.keep {B : Nat} {w w' : World} {vs : List (Rw ByteArray)} (h : RwOk B w vs) (hs : Strs B w w') : RwOk B w' vs := fun r hr => ⟨hs.own (h r hr).1, (h r hr).2⟩
theorem RwOk.snoc {B : Nat} {w : World} {vs : List (Rw ByteArray)} {r : Rw ByteArray} (h : RwOk B w vs) (hr : Own strE 9 B w (.slice r.A r.xs.length r.c) r.xs ∧ r.xs.length ≤ 21 ∧ r.xs.length ≤ r.c ∧ ∀ s ∈ r.xs, LnOk s) : RwOk B w (vs ++ [r]) := fun x hx => by
  rcases List.mem_append.1 hx with hx | hx
  · exact h x hx
  · rw [List.mem_singleton.1 hx]; exact hr
theorem strs_rows {B B0 : Nat} {w w' : World} {v : Value} {vs : List (Rw ByteArray)} (hown : Own (rwE ByteArray) 23 B w v vs) (hsz : w.heap.size ≤ w'.heap.size) (hk : ∀ b, b < w.heap.size → v.ownBlock ≠ some b → w'.heap[b]? = w.heap[b]?) : Strs B0 w w' :=
  ⟨hsz, fun g cs fr _ hc => hk g (Array.getElem?_eq_some_iff.1 hc).1 fun hv => by
    rcases hown.2 with ⟨rfl, _⟩ | ⟨g', cap, cur, rfl, _, hg, _⟩
    · cases hv
    · have e1 : g' = g := by simpa [Value.ownBlock] using hv
      subst e1
      rw [hg] at hc
      injection hc with hc
      injection hc with _ h2 _
      exact absurd h2 (by decide)⟩
theorem goodLs {xs : List ByteArray} (hl : xs.length ≤ 24) (h : ∀ s ∈ xs, LnOk s) : Good xs := ⟨hl, fun s hs => (h s hs).2, fun s hs => (h s hs).1⟩
/-- The versions up to one of them. -/
theorem since_at {B : Nat} (A : Option Addr) (c : Nat) (vs : List (Rw ByteArray)) (w : World) (hv : Sl (rwE ByteArray) w A vs) (hr : RwOk B w vs) (k : Nat) (r : Rw ByteArray) (hk : vs[k]? = some r) (hl : vs.length ≤ 4) :
    Calls Tryd.prog 47 #[.slice A (k + 1) c] w fun e w' => ∃ A' c', e = .returned (.tuple #[.slice A' r.xs.length c', iv 0]) ∧ Own intE 3 w.heap.size w' (.slice A' r.xs.length c') (File.sinceAt (vs.map Rw.xs) k) ∧ Below w.heap.size w w' := by
  have hkl : k < vs.length := (List.getElem?_eq_some_iff.1 hk).1
  have htl : (vs.take (k + 1)).length = k + 1 := by rw [List.length_take]; omega
  have hm : ∀ x ∈ vs.take (k + 1), x ∈ vs := fun x hx => List.mem_of_mem_take hx
  have h := since_spec A (vs.take (k + 1)) c w k htl (by omega) (Sl.take hv (k + 1)) (fun x hx => ⟨(hr x (hm x hx)).1.sl, (hr x (hm x hx)).2.2.1⟩) (fun x hx => goodLs (Nat.le_trans (hr x (hm x hx)).2.1 (by decide)) (hr x (hm x hx)).2.2.2)
  rw [htl] at h
  refine h.mono ?_
  rintro e w' ⟨v, rfl, ho, hb⟩
  rw [List.map_take, File.since_take _ _ _ (Nat.lt_succ_self k)] at ho
  have hlen : (File.sinceAt (vs.map Rw.xs) k).length = r.xs.length := by
    rw [File.since_len, List.getD_eq_getElem?_getD, List.getElem?_map, hk]; rfl
  obtain ⟨A', c', rfl, _, _⟩ := ho.form
  rw [hlen] at ho ⊢
  exact ⟨A', c', rfl, ho, hb⟩
theorem zeroPred (w : World) (l : List Int) : IsPred Tryd.prog w 49 #[] iv l (fun x => decide (x ≠ 0)) :=
  ⟨callFunc_run (by kernel_rfl), fun x _ w' _ => by
    by_cases h : x = 0
    · subst h
      go_enter Tryd.func49, Tryd.ntmps49
      go_wp2
      go_ret
      exact ⟨rfl, Below.refl _ _⟩
    · have h0 : (x == 0) = false := by simp; exact h
      go_enter Tryd.func49, Tryd.ntmps49
      go_wp2
      go_ret
      exact ⟨ret_eq (by simp [h]), Below.refl _ _⟩⟩
theorem zero_contains (A : Option Addr) (n c : Nat) (xs : List Int) (w : World) (hs : Sl intE w A xs) (hl : xs.length = n) (hm : xs.length ≤ big) (hz : ∀ x ∈ xs, x = 0) :
    Calls Tryd.prog 48 #[.slice A n c, .func (.func 49) #[] #[]] w fun e w' => e = .returned (.bool false) ∧ Below w.heap.size w w' := by
  have h := containsI A xs c 49 #[] (fun x => decide (x ≠ 0)) w hm hs (zeroPred w xs)
  rw [hl] at h
  refine h.mono ?_
  rintro e w' ⟨rfl, hb⟩
  refine ⟨?_, hb⟩
  have : xs.any (fun x => decide (x ≠ 0)) = false := by
    rw [List.any_eq_false]
    intro x hx
    simp [hz x hx]
  rw [this]
set_option maxHeartbeats 8000000 in
theorem since_law (A : Option Addr) (bs : List Int) (c : Nat) (A' : Option Addr) (bs' : List Int) (c' : Nat) (w : World) (hs : Sl byteE w A bs) (hs' : Sl byteE w A' bs') (ht : Tab w) :
    Calls Tryd.prog 10 #[.slice A bs.length c, .slice A' bs'.length c'] w fun e w' => e = .returned (.bool true) ∧ Below w.heap.size w w' := by
  have HT := Lib.hid ht
  have HAW : Hid (∀ W, Below w.heap.size w W → Calls Tryd.prog 12 #[] W fun e w' => e = .returned (.bool true) ∧ Below W.heap.size W w') := Lib.hid fun W h => awake_spec W (HT.out.below h)
  clear ht
  go_enter Tryd.func10, Tryd.ntmps10
  go_wp2_with fail
  refine (wound_spec A bs c w hs).mono ?_
  rintro e w1 ⟨_, rfl, rfl, hsp1, hb1⟩
  go_wp2_with fail
  refine (wound2_spec A' bs'.length c' w1).mono ?_
  rintro e w2 ⟨st, rfl, hB2, hb2⟩
  have hsp1b := hsp1.below hb2 hsp1.2.1
  go_wp2_with fail
  refine (mk12s w.heap.size w2 (w.heap.size + 1) hsp1b).mono ?_
  rintro e w3 ⟨v, a, rfl, hoa, hal, hag, hon3⟩
  obtain ⟨Aa, ca, rfl, hca, _⟩ := hoa.form
  have hz1 := hb1.size
  have hw1 : w.heap.size < w1.heap.size := by have := hsp1.2.1; omega
  have hw2 : w1.heap.size < w2.heap.size := hB2.lt
  have hb03 : Below w.heap.size w w3 := (hb1.next hb2 (Nat.le_refl _)).trans (hon3.below.mono (Nat.le_refl _))
  have hsp3 : IsSpool (w1.heap.size + 1) w3 w1.heap.size 0 := by
    have hs3 := hs'.below hb03
    refine ⟨by omega, by have := hon3.below.size; omega, A', bs'.length, c', st, (hon3.other _ hB2.lt (by omega)).trans hB2, fun hn => ?_⟩
    have hne : bs' ≠ [] := fun e => by rw [e] at hn; simp at hn
    obtain ⟨b0, o0, e0, hb0, _⟩ := hs' hne
    obtain ⟨b, off, e1, _, hc⟩ := hs3 hne
    rw [e0] at e1
    injection e1 with e1
    injection e1 with e1 e2 _
    subst e1; subst e2
    refine ⟨b0, o0, e0, by omega, by omega, fun i hi => ⟨bs'[i], ?_⟩⟩
    have := hc i bs'[i] (List.getElem?_eq_getElem hi) 0 (.int .u8 bs'[i]) rfl
    simpa [byteE] using this
  have hz3 := hon3.below.size
  have hoa2 : Own strE 9 w2.heap.size w3 (.slice Aa a.length ca) a := hoa
  clear hs hs' hsp1 hsp1b hb1 hb2 hB2 hon3 hoa
  go_upto_region 3 with fail
  have hb34 : Below w3.heap.size w3 (w3.alloc (.cells #[.slice Aa a.length ca] 23)) := (Below.refl _ _).alloc (Nat.le_refl _) _
  have hv4 : Own (rwE ByteArray) 23 w2.heap.size (w3.alloc (.cells #[.slice Aa a.length ca] 23)) (.slice (some ⟨w3.heap.size, 0, none⟩) 1 1) [⟨Aa, ca, a⟩] := Own.ofBlk (xs := [(⟨Aa, ca, a⟩ : Rw ByteArray)]) (Blk.new _ _ _) hz3 (by simp [maxLen])
  generalize w3.alloc (.cells #[.slice Aa a.length ca] 23) = w4 at *
  have hsp4 := hsp3.below hb34 (by omega)
  have hr4 : RwOk w2.heap.size w4 [⟨Aa, ca, a⟩] := fun r hr => by
    rw [List.mem_singleton.1 hr]
    exact ⟨hoa2.below hb34, by show a.length ≤ 21; omega, hca, hag⟩
  have hb04 := hb03.next hb34 (Nat.le_refl _)
  have hz4 : w2.heap.size ≤ w4.heap.size := Nat.le_trans hz3 hb34.size
  generalize (some ⟨w3.heap.size, 0, none⟩ : Option Addr) = A4 at *
  clear hsp3 hb34 hoa2 hb03 hz3
  go_wp2_with fail
  refine (upto3 (w1.heap.size + 1) w4 w1.heap.size 0 hsp4 (by omega)).mono ?_
  rintro e w5 ⟨m, rfl, hm3, hsp5, hon5⟩
  have hv5 : Own (rwE ByteArray) 23 w2.heap.size w5 (.slice A4 1 1) [⟨Aa, ca, a⟩] := hv4.keep hon5.below.size fun b hb => hon5.other b (hv4.lt b hb).2 (by have := (hv4.lt b hb).1; omega)
  obtain ⟨cs4, hcs4⟩ := spool_blk hsp4
  have hr5 := hr4.keep (strs_only hon5 hcs4)
  have hb05 : Below w.heap.size w w5 := hb04.trans (hon5.below.mono (by omega))
  have hz5 := Nat.le_trans hz4 hon5.below.size
  clear hv4 hr4 hsp4 hon5 hcs4 hb04 hz4
  go_wp2_with fail
  go_loopw [7, 27] (fun v i wr => ∃ (j : Nat) (vs : List (Rw ByteArray)) (k' : Nat), j ≤ m ∧ i = iv j ∧ Hid (vs.length = j + 1) ∧ Hid (Own (rwE ByteArray) 23 w2.heap.size wr v vs) ∧ Hid (RwOk w2.heap.size wr vs) ∧ k' ≤ 1 + 61 * j ∧ Hid (IsSpool (w1.heap.size + 1) wr w1.heap.size k') ∧ Hid (Below w.heap.size w wr) ∧ w2.heap.size ≤ wr.heap.size) (fun _ i _ => m - (intOf i).toNat)
  case atStart => exact ⟨0, [⟨Aa, ca, a⟩], 1, by omega, rfl, rfl, hv5, hr5, by omega, hsp5, hb05, hz5⟩
  case round =>
    obtain ⟨j, vs, k', hj, rfl, HVL, HV, HR, hk', HSP, HB, hzr⟩ := hrel
    obtain ⟨Av, cv, rfl, hcv, _⟩ := HV.out.form
    by_cases hlt : j < m
    · have hji : (j : Int) < (m : Int) := by omega
      have hjv : j < vs.length := by rw [HVL.out]; omega
      have hjvi : (j : Int) < (vs.length : Int) := by omega
      have e1 : (vs.length : Int) - 1 = (j : Int) := by rw [HVL.out]; omega
      have e2 : IntKind.i64.wrap (j : Int) = (j : Int) := IntWalk.i64_in _ (by omega)
      have e3 : IntKind.i64.wrap ((vs.length : Int) - 1) = (j : Int) := by rw [e1]; exact e2
      obtain ⟨b, off, r, rfl, hb0, hr, hc0⟩ := Sl.atRw HV.out.sl hjv
      obtain ⟨ro, rl, rc, rok⟩ := HR.out r (mem_at hr)
      have HCH := Lib.hid (changed3s (w1.heap.size + 1) w1.heap.size k' wr r.A r.xs r.c HSP.out (by omega) ro.sl rl rok)
      obtain ⟨csr, hcsr⟩ := spool_blk HSP.out
      clear hr ro rl rc rok
      go_wp2_with fail
      refine HCH.out.mono ?_
      rintro _ w7 ⟨v7, xs, k7, rfl, ho7, hl7, hg7, hk7, hsp7, hon7⟩
      obtain ⟨A7, c7, rfl, hc7, _⟩ := ho7.form
      have hV7 : Own (rwE ByteArray) 23 w2.heap.size w7 (.slice (some ⟨b, off, none⟩) vs.length cv) vs := HV.out.keep hon7.below.size fun b hb => hon7.other b (HV.out.lt b hb).2 (by have := (HV.out.lt b hb).1; omega)
      have hR7 := HR.out.keep (strs_only hon7 hcsr)
      have hz7 := Nat.le_trans hzr hon7.below.size
      have hb07 := HB.out.trans (hon7.below.mono (by omega))
      have hvb : vs.length + 1 ≤ big := by rw [HVL.out]; unfold big; omega
      have hpp : ∀ b, b < w7.heap.size → w7.heap.size ≤ w7.heap.size := fun _ _ => Nat.le_refl _
      clear HCH HV HR HSP hon7 hcsr hc0 hpp
      go_wp2_with (at_builtin; refine wpApp1 (rwE ByteArray) tySS rfl _ _ rfl hV7 (⟨A7, c7, xs⟩ : Rw ByteArray) rfl rfl rfl hz7 hvb ?_; intro v8 w8 hown8 hb8 hk8)
      have hst : Strs w2.heap.size w7 w8 := strs_rows hV7 hb8.size hk8
      have hR8 : RwOk w2.heap.size w8 (vs ++ [⟨A7, c7, xs⟩]) := (hR7.keep hst).snoc ⟨hst.own (ho7.base hzr), hl7, hc7, hg7⟩
      have HR8 := Lib.hid hR8
      have HSP8 := Lib.hid (hsp7.below hb8 (by omega))
      have HB8 : Hid (Below w.heap.size w w8) := Lib.hid (hb07.trans (hb8.mono (by omega)))
      have hz8 := Nat.le_trans hz7 hb8.size
      have HVL8 : Hid ((vs ++ [(⟨A7, c7, xs⟩ : Rw ByteArray)]).length = (j + 1) + 1) := Lib.hid (by rw [List.length_append, HVL.out]; rfl)
      clear hst hR8 hR7 hV7 hsp7 hb07
      go_roundw
      case rel => exact ⟨j + 1, vs ++ [⟨A7, c7, xs⟩], k7, by omega, by go_num, HVL8, Lib.hid hown8, HR8, by omega, HSP8, HB8, hz8⟩
      case measure => simp [intOf]; omega
    · have hji : ¬ (j : Int) < (m : Int) := by omega
      obtain rfl : j = m := by omega
      clear hk' HSP hlt hj hv5 hr5 hsp5 hb05 hz5
      generalize wr = w12 at *
      have hvl := HVL.out
      have hv0 : 0 < vs.length := by omega
      have hvl4 : vs.length ≤ 4 := by omega
      obtain ⟨bv, ov, r0, rfl, hb0, hr0, hc0⟩ := Sl.atRw HV.out.sl hv0
      have HSA : Hid (∀ W, Below w12.heap.size w12 W → Sl (rwE ByteArray) W (some ⟨bv, ov, none⟩) vs) := Lib.hid fun W h => HV.out.sl.below h
      have HRA : Hid (∀ W, Below w12.heap.size w12 W → RwOk w2.heap.size W vs) := Lib.hid fun W h => HR.out.keep ⟨h.size, fun g cs fr _ hg => h.block g (Array.getElem?_eq_some_iff.1 hg).1⟩
      have HS1 := Lib.hid (since_at (some ⟨bv, ov, none⟩) cv vs w12 (HSA.out _ (Below.refl _ _)) (HRA.out _ (Below.refl _ _)) 0 r0 hr0 hvl4)
      have RC := run_cutTo (rwE ByteArray) tySS (some ⟨bv, ov, none⟩) vs.length cv 1 (by omega)
      have hl0 : (File.sinceAt (vs.map Rw.xs) 0).length = r0.xs.length := by
        rw [File.since_len, List.getD_eq_getElem?_getD, List.getElem?_map, hr0]; rfl
      have hz0 : ∀ x ∈ File.sinceAt (vs.map Rw.xs) 0, x = 0 := fun x hx => (List.mem_replicate.1 hx).2
      have hm0 : (File.sinceAt (vs.map Rw.xs) 0).length ≤ big := by
        rw [hl0]; have := (HR.out r0 (mem_at hr0)).2.1; unfold big; omega
      obtain ⟨S0, hS0⟩ : ∃ S0, S0 = File.sinceAt (vs.map Rw.xs) 0 := ⟨_, rfl⟩
      rw [← hS0] at hl0 hz0 hm0
      simp only [← hS0] at HS1
      have HZ0 := Lib.hid hz0
      have HL0 := Lib.hid hl0
      have HM0 := Lib.hid hm0
      have HS0 := Lib.hid hS0
      have HVN := Lib.hid hvl
      clear hl0 hz0 hm0 hS0 hvl hr0 HVL HV HR
      go_wp2_with fail
      refine HS1.out.mono ?_
      rintro e w13 ⟨A13, c13, rfl, ho13, hb13⟩
      have hc13 := (hb13.cell (p := ⟨bv, ov + 0, none⟩) hb0).trans hc0
      simp only [Nat.add_zero] at hc13
      have HZC := Lib.hid (zero_contains A13 r0.xs.length c13 S0 w13 ho13.sl HL0.out HM0.out HZ0.out)
      go_wp2_with fail
      refine HZC.out.mono ?_
      rintro e w14 ⟨rfl, hb14⟩
      have ho14 := ho13.below hb14
      have hb1214 := hb13.next hb14 (Nat.le_refl _)
      clear ho13 hb13 hb14 hc13 HZC HZ0 HL0 HM0 hc0
      have HO14 : Hid (Own intE 3 w12.heap.size w14 (.slice A13 r0.xs.length c13) (File.sinceAt (vs.map Rw.xs) 0)) := Lib.hid (HS0.out ▸ ho14)
      clear ho14 HS0 RC hv0
      have hbig : vs.length ≤ 4 := hvl4
      go_wp2_with fail
      go_loopw [8, 10, 11, 12, 13, 14, 15, 17] (fun v8 v10 _ _ _ _ _ _ wr => ∃ k : Nat, 1 ≤ k ∧ k ≤ vs.length ∧ v10 = iv k ∧ Hid (Own intE 3 w12.heap.size wr v8 (File.sinceAt (vs.map Rw.xs) (k - 1))) ∧ Below w12.heap.size w12 wr) (fun _ v10 _ _ _ _ _ _ _ => vs.length - (intOf v10).toNat)
      case atStart => exact ⟨1, by omega, by have := HVN.out; omega, rfl, HO14, hb1214⟩
      case round =>
        obtain ⟨k, hk1, hk, rfl, HO, hbr⟩ := hrel
        by_cases hlt : k < vs.length
        · have hki : (k : Int) < (vs.length : Int) := by omega
          obtain ⟨q, hq⟩ : ∃ q, k = q + 1 := ⟨k - 1, by omega⟩
          obtain ⟨p, hp⟩ : ∃ p, p = k + 1 := ⟨_, rfl⟩
          have hql : q < vs.length := by omega
          have hqli : (q : Int) < (vs.length : Int) := by omega
          have eq2 : (k : Int) - 1 = (q : Int) := by omega
          have eq3 : IntKind.i64.wrap (q : Int) = (q : Int) := IntWalk.i64_in _ (by omega)
          have eq1 : IntKind.i64.wrap ((k : Int) - 1) = (q : Int) := by rw [eq2]; exact eq3
          have ep2 : (k : Int) + 1 = (p : Int) := by omega
          have ep3 : IntKind.i64.wrap (p : Int) = (p : Int) := IntWalk.i64_in _ (by omega)
          have ep1 : IntKind.i64.wrap ((k : Int) + 1) = (p : Int) := by rw [ep2]; exact ep3
          have RC := run_cutTo (rwE ByteArray) tySS (some ⟨bv, ov, none⟩) vs.length cv p (by omega)
          obtain ⟨_, _, y, hA', _, hy, hd0⟩ := Sl.atRw (HSA.out wr hbr) hql
          injection hA' with hA'
          injection hA' with e1 e2 _
          subst e1; subst e2
          obtain ⟨_, _, fr, hA', _, hx, hc0⟩ := Sl.atRw (HSA.out wr hbr) hlt
          injection hA' with hA'
          injection hA' with e1 e2 _
          subst e1; subst e2
          have hbs : bv < wr.heap.size := Nat.lt_of_lt_of_le hb0 hbr.size
          have HY := Lib.hid fun W (h : Below wr.heap.size wr W) => HRA.out W (hbr.next h (Nat.le_refl _)) y (mem_at hy)
          have HX := Lib.hid fun W (h : Below wr.heap.size wr W) => HRA.out W (hbr.next h (Nat.le_refl _)) fr (mem_at hx)
          have hgy := goodLs (Nat.le_trans (HY.out _ (Below.refl _ _)).2.1 (by decide)) (HY.out _ (Below.refl _ _)).2.2.2
          have hgx := goodLs (Nat.le_trans (HX.out _ (Below.refl _ _)).2.1 (by decide)) (HX.out _ (Below.refl _ _)).2.2.2
          have hym := hgy.many
          have hxm := hgx.many
          have herr : errOf y.xs fr.xs = 0 := by unfold errOf; rw [if_pos (check_of_good hgy)]; exact check_of_good hgx
          have hSSx := since_at (some ⟨bv, ov, none⟩) cv vs wr (HSA.out _ hbr) (HRA.out _ hbr) k fr hx hvl4
          rw [← hp] at hSSx
          have HS1 := Lib.hid hSSx
          obtain ⟨V, hV⟩ : ∃ V, V = vs.map Rw.xs := ⟨_, rfl⟩
          have hxv : V.getD k [] = fr.xs := by rw [hV, List.getD_eq_getElem?_getD, List.getElem?_map, hx]; rfl
          have hyv : V.getD q [] = y.xs := by rw [hV, List.getD_eq_getElem?_getD, List.getElem?_map, hy]; rfl
          have hSS : File.sinceAt V k = File.putGo (File.sinceAt V q) (List.replicate fr.xs.length (k : Int)) (File.common y.xs fr.xs) := by
            have hx2 : V.getD (q + 1) [] = fr.xs := by rw [← hq]; exact hxv
            rw [hq]
            show File.putGo (File.sinceAt V q) (List.replicate (V.getD (q + 1) []).length ((q + 1 : Nat) : Int)) (File.common (V.getD q []) (V.getD (q + 1) [])) = _
            rw [hx2, hyv]
          have holn : (File.sinceAt V q).length = y.xs.length := by rw [File.since_len, hyv]
          have hkln : (File.sinceAt V k).length = fr.xs.length := by rw [File.since_len, hxv]
          have hOO := HO.out
          rw [show k - 1 = q by omega, ← hV] at hOO
          obtain ⟨S0, hS0⟩ : ∃ S0, S0 = File.sinceAt V q := ⟨_, rfl⟩
          obtain ⟨S1, hS1⟩ : ∃ S1, S1 = File.sinceAt V k := ⟨_, rfl⟩
          rw [← hS0] at hOO hSS holn
          rw [← hS1] at hSS hkln
          have hSq : File.sinceAt (vs.map Rw.xs) k = S1 := by rw [hS1, hV]
          rw [hSq] at HS1
          have HSQ := Lib.hid hSq
          obtain ⟨L, hL⟩ : ∃ L, L = File.common y.xs fr.xs := ⟨_, rfl⟩
          have HLP : Hid (File.Pairs y.xs fr.xs 0 0 L) := Lib.hid (hL ▸ File.common_pairs _ _)
          have HLM : Hid (∀ p ∈ L, p.1 < S0.length ∧ p.2 < fr.xs.length) := Lib.hid fun p hp => by
            rw [holn]; rw [hL] at hp; exact File.common_at hp
          have hLl : L.length ≤ 24 := by rw [hL, File.common_length]; exact Nat.le_trans (File.lcs_most _ _) hym
          have HC0 := Lib.hid fun W (h : Below wr.heap.size wr W) => Common_spec y.A y.xs y.c fr.A fr.xs fr.c W (by unfold big; omega) (by unfold big; omega) (HY.out W h).1.sl (HX.out W h).1.sl
          simp only [herr, if_true, ← hL] at HC0
          rw [← hL] at hSS
          have HSS := Lib.hid hSS
          have HKL := Lib.hid hkln
          have HOO := Lib.hid hOO
          have HKQ := Lib.hid hq
          clear hx hxv hq hy hyv hOO hSS holn hkln hS0 hS1 hSq hL hV HO hSSx herr hgy hgx hp HO14
          go_wp2_with fail
          refine HS1.out.mono ?_
          rintro _ w6 ⟨A11, c11, rfl, ho11, hb6⟩
          have HYC : Hid (∀ z, Below w6.heap.size w6 z → z.cell? ⟨bv, ov + q, none⟩ = some (.slice y.A y.xs.length y.c)) := Lib.hid fun z h => ((hb6.next h (Nat.le_refl _)).cell (p := ⟨bv, ov + q, none⟩) hbs).trans hd0
          have HXC : Hid (∀ z, Below w6.heap.size w6 z → z.cell? ⟨bv, ov + k, none⟩ = some (.slice fr.A fr.xs.length fr.c)) := Lib.hid fun z h => ((hb6.next h (Nat.le_refl _)).cell (p := ⟨bv, ov + k, none⟩) hbs).trans hc0
          have HCM := Lib.hid fun z (h : Below w6.heap.size w6 z) => HC0.out z (hb6.next h (Nat.le_refl _))
          clear HS1 HC0 hc0 hd0 RC
          go_upto_region 14 with fail
          refine wp_free_lit (by kernel_rfl) 14 (by kernel_rfl) (by kernel_rfl) (by decide) (fun _ x => Below w6.heap.size w6 x) (fun x x' => Below x.heap.size x x')
            [fun _ u _ => u = .slice (some ⟨bv, ov, none⟩) vs.length cv,
             fun _ u _ => u = iv (k : Int),
             fun _ u _ => u = iv (q : Int),
             fun _ u _ => u = .pointer (some ⟨bv, ov + q, none⟩),
             fun _ u _ => u = .slice y.A y.xs.length y.c,
             fun _ u _ => u = .slice (some ⟨bv, ov, none⟩) vs.length cv,
             fun _ u _ => u = iv (k : Int),
             fun _ u _ => u = .pointer (some ⟨bv, ov + k, none⟩),
             fun _ u _ => u = .slice fr.A fr.xs.length fr.c,
             fun _ u x => ∃ A6 c6, u = .tuple #[.slice A6 L.length c6, iv 0] ∧ Own pairE 73 w6.heap.size x (.slice A6 L.length c6) L,
             fun _ u x => ∃ A6 c6, u = .tuple #[.slice A6 L.length c6, iv 0] ∧ Own pairE 73 w6.heap.size x (.slice A6 L.length c6) L,
             fun _ u x => ∃ A6 c6, u = .slice A6 L.length c6 ∧ Own pairE 73 w6.heap.size x (.slice A6 L.length c6) L,
             fun _ u _ => u = iv 0,
             fun _ u x => ∃ A6 c6, u = .slice A6 L.length c6 ∧ Own pairE 73 w6.heap.size x (.slice A6 L.length c6) L]
            (Below.refl _ w6).drew ?_ ?_
          · simp only [List.take_succ_cons, List.take_zero, HopL]
            refine ⟨?_, ?_, ?_, ?_, ?_, ?_, ?_, ?_, ?_, ?_, ?_, ?_, ?_, ?_, trivial⟩
            · refine ⟨fun _ _ _ _ _ h => h, fun _ _ _ _ h _ => h, fun v n x hn hR hk => ?_⟩
              simp only [List.take_succ_cons, List.take_zero, frameF, Act.put, List.setIfInBounds_toArray, List.set_cons_zero, List.set_cons_succ]
              exact stepF_val (by first | rfl | simp [Region.wanted, yielded, *]) (by go_simp <;> omega) ⟨rfl, Below.refl _ _, hR⟩
            · refine ⟨fun _ _ _ _ _ h => h, fun _ _ _ _ h _ => h, fun v n x hn hR hk => ?_⟩
              simp only [List.take_succ_cons, List.take_zero, frameF, Act.put, List.setIfInBounds_toArray, List.set_cons_zero, List.set_cons_succ]
              exact stepF_val (by first | rfl | simp [Region.wanted, yielded, *]) (by go_simp <;> omega) ⟨rfl, Below.refl _ _, hR⟩
            · refine ⟨fun _ _ _ _ _ h => h, fun _ _ _ _ h _ => h, fun v n x hn hR hk => ?_⟩
              have h1 : v 1 = iv (k : Int) := hk 1 (by kernel_rfl)
              simp only [List.take_succ_cons, List.take_zero, frameF, Act.put, List.setIfInBounds_toArray, List.set_cons_zero, List.set_cons_succ]
              exact stepF_val (by first | rfl | simp [Region.wanted, yielded, *]) (by go_simp <;> omega) ⟨rfl, Below.refl _ _, hR⟩
            · refine ⟨fun _ _ _ _ _ h => h, fun _ _ _ _ h _ => h, fun v n x hn hR hk => ?_⟩
              have h0 : v 0 = .slice (some ⟨bv, ov, none⟩) vs.length cv := hk 0 (by kernel_rfl)
              have h2 : v 2 = iv (q : Int) := hk 2 (by kernel_rfl)
              simp only [List.take_succ_cons, List.take_zero, frameF, Act.put, List.setIfInBounds_toArray, List.set_cons_zero, List.set_cons_succ]
              exact stepF_val (by first | rfl | simp [Region.wanted, yielded, *]) (by go_simp <;> omega) ⟨rfl, Below.refl _ _, hR⟩
            · refine ⟨fun _ _ _ _ _ h => h, fun _ _ _ _ h _ => h, fun v n x hn hR hk => ?_⟩
              have h3 : v 3 = .pointer (some ⟨bv, ov + q, none⟩) := hk 3 (by kernel_rfl)
              have g1 := HYC.out x hR
              simp only [List.take_succ_cons, List.take_zero, frameF, Act.put, List.setIfInBounds_toArray, List.set_cons_zero, List.set_cons_succ]
              exact stepF_val (by first | rfl | simp [Region.wanted, yielded, *]) (by go_simp <;> omega) ⟨rfl, Below.refl _ _, hR⟩
            · refine ⟨fun _ _ _ _ _ h => h, fun _ _ _ _ h _ => h, fun v n x hn hR hk => ?_⟩
              simp only [List.take_succ_cons, List.take_zero, frameF, Act.put, List.setIfInBounds_toArray, List.set_cons_zero, List.set_cons_succ]
              exact stepF_val (by first | rfl | simp [Region.wanted, yielded, *]) (by go_simp <;> omega) ⟨rfl, Below.refl _ _, hR⟩
            · refine ⟨fun _ _ _ _ _ h => h, fun _ _ _ _ h _ => h, fun v n x hn hR hk => ?_⟩
              simp only [List.take_succ_cons, List.take_zero, frameF, Act.put, List.setIfInBounds_toArray, List.set_cons_zero, List.set_cons_succ]
              exact stepF_val (by first | rfl | simp [Region.wanted, yielded, *]) (by go_simp <;> omega) ⟨rfl, Below.refl _ _, hR⟩
            · refine ⟨fun _ _ _ _ _ h => h, fun _ _ _ _ h _ => h, fun v n x hn hR hk => ?_⟩
              have h5 : v 5 = .slice (some ⟨bv, ov, none⟩) vs.length cv := hk 5 (by kernel_rfl)
              have h6 : v 6 = iv (k : Int) := hk 6 (by kernel_rfl)
              simp only [List.take_succ_cons, List.take_zero, frameF, Act.put, List.setIfInBounds_toArray, List.set_cons_zero, List.set_cons_succ]
              exact stepF_val (by first | rfl | simp [Region.wanted, yielded, *]) (by go_simp <;> omega) ⟨rfl, Below.refl _ _, hR⟩
            · refine ⟨fun _ _ _ _ _ h => h, fun _ _ _ _ h _ => h, fun v n x hn hR hk => ?_⟩
              have h7 : v 7 = .pointer (some ⟨bv, ov + k, none⟩) := hk 7 (by kernel_rfl)
              have g2 := HXC.out x hR
              simp only [List.take_succ_cons, List.take_zero, frameF, Act.put, List.setIfInBounds_toArray, List.set_cons_zero, List.set_cons_succ]
              exact stepF_val (by first | rfl | simp [Region.wanted, yielded, *]) (by go_simp <;> omega) ⟨rfl, Below.refl _ _, hR⟩
            · refine ⟨fun _ _ _ _ _ h => h, fun _ _ _ _ h hS => (by obtain ⟨A6, c6, e1, o1⟩ := h; exact ⟨A6, c6, e1, o1.below hS⟩), fun v n x hn hR hk => ?_⟩
              have h4 : v 4 = .slice y.A y.xs.length y.c := hk 4 (by kernel_rfl)
              have h8 : v 8 = .slice fr.A fr.xs.length fr.c := hk 8 (by kernel_rfl)
              simp only [List.take_succ_cons, List.take_zero, frameF, Act.put, List.setIfInBounds_toArray, List.set_cons_zero, List.set_cons_succ]
              refine stepF_call (by rfl) (by go_simp) (HCM.out x hR) ?_
              rintro e x' ⟨u, rfl, ho, hb⟩
              obtain ⟨A6, c6, rfl, _, _⟩ := ho.form
              exact ⟨_, rfl, ⟨A6, c6, rfl, ho.base hR.size⟩, hb, hR.next hb (Nat.le_refl _)⟩
            · refine ⟨fun _ _ _ _ _ h => h, fun _ _ _ _ h hS => (by obtain ⟨A6, c6, e1, o1⟩ := h; exact ⟨A6, c6, e1, o1.below hS⟩), fun v n x hn hR hk => ?_⟩
              have h9 := hk 9 (by kernel_rfl)
              obtain ⟨A6, c6, h9, o9⟩ := h9
              simp only [List.take_succ_cons, List.take_zero, frameF, Act.put, List.setIfInBounds_toArray, List.set_cons_zero, List.set_cons_succ]
              exact stepF_val (by first | rfl | simp [Region.wanted, yielded, *]) (by go_simp <;> omega) ⟨⟨A6, c6, rfl, o9⟩, Below.refl _ _, hR⟩
            · refine ⟨fun _ _ _ _ _ h => h, fun _ _ _ _ h hS => (by obtain ⟨A6, c6, e1, o1⟩ := h; exact ⟨A6, c6, e1, o1.below hS⟩), fun v n x hn hR hk => ?_⟩
              have h10 := hk 10 (by kernel_rfl)
              obtain ⟨A6, c6, h10, o10⟩ := h10
              simp only [List.take_succ_cons, List.take_zero, frameF, Act.put, List.setIfInBounds_toArray, List.set_cons_zero, List.set_cons_succ]
              exact stepF_val (by first | rfl | simp [Region.wanted, yielded, *]) (by go_simp <;> omega) ⟨⟨A6, c6, rfl, o10⟩, Below.refl _ _, hR⟩
            · refine ⟨fun _ _ _ _ _ h => h, fun _ _ _ _ h _ => h, fun v n x hn hR hk => ?_⟩
              have h10 := hk 10 (by kernel_rfl)
              obtain ⟨A6, c6, h10, o10⟩ := h10
              simp only [List.take_succ_cons, List.take_zero, frameF, Act.put, List.setIfInBounds_toArray, List.set_cons_zero, List.set_cons_succ]
              exact stepF_val (by first | rfl | simp [Region.wanted, yielded, *]) (by go_simp <;> omega) ⟨rfl, Below.refl _ _, hR⟩
            · refine ⟨fun _ _ _ _ _ h => h, fun _ _ _ _ h hS => (by obtain ⟨A6, c6, e1, o1⟩ := h; exact ⟨A6, c6, e1, o1.below hS⟩), fun v n x hn hR hk => ?_⟩
              have h11 := hk 11 (by kernel_rfl)
              obtain ⟨A6, c6, h11, o11⟩ := h11
              simp only [List.take_succ_cons, List.take_zero, frameF, Act.put, List.setIfInBounds_toArray, List.set_cons_zero, List.set_cons_succ]
              exact stepF_val (by first | rfl | simp [Region.wanted, yielded, *]) (by go_simp <;> omega) ⟨⟨A6, c6, rfl, o11⟩, Below.refl _ _, hR⟩
          · intro v n x1 hn hR hall
            have h12 : v 12 = iv 0 := hall 12 (by decide)
            obtain ⟨A6, c6, h13, o13⟩ := hall 13 (by decide)
            clear hall hn
            simp only [List.drop_succ_cons, List.drop_zero, List.take_succ_cons, List.take_zero, frameF, Act.put, List.setIfInBounds_toArray, List.set_cons_zero, List.set_cons_succ, Nat.zero_add, Nat.reduceAdd, h12, h13]
            have ho11 := ho11.below hR
            have hb7 := hb6.next hR (Nat.le_refl _)
            have HY7 : Hid (∀ z, Below x1.heap.size x1 z → z.cell? ⟨bv, ov + q, none⟩ = some (.slice y.A y.xs.length y.c)) := Lib.hid fun z h => HYC.out z (hR.next h (Nat.le_refl _))
            have HX7 : Hid (∀ z, Below x1.heap.size x1 z → z.cell? ⟨bv, ov + k, none⟩ = some (.slice fr.A fr.xs.length fr.c)) := Lib.hid fun z h => HXC.out z (hR.next h (Nat.le_refl _))
            have HPR := Lib.hid fun z (h : Below x1.heap.size x1 z) => pairs_spec y.A y.xs y.c fr.A fr.xs fr.c A6 L c6 z (by unfold big; omega) (by unfold big; omega) (by unfold big; omega) (HY.out z (hb7.next h (Nat.le_refl _))).1.sl (HX.out z (hb7.next h (Nat.le_refl _))).1.sl (o13.sl.below h) HLP.out
            have ho11' : Own intE 3 wr.heap.size x1 (.slice A11 fr.xs.length c11) S1 := ho11
            have o13' : Own pairE 73 wr.heap.size x1 (.slice A6 L.length c6) L := o13.base hb6.size
            clear HYC HXC HCM o13 ho11 HY HX HLP hb6 hR
            have HYC := HY7; have HXC := HX7
            clear HY7 HX7
            generalize x1 = w7 at *
            go_upto_region 15 with fail
            refine wp_free_lit (by kernel_rfl) 30 (by kernel_rfl) (by kernel_rfl) (by decide) (fun _ x => Below w7.heap.size w7 x) (fun x x' => Below x.heap.size x x')
              [fun _ u _ => u = iv 0,
               fun _ u _ => u = .bool false,
               fun _ u _ => u = .bool false,
               fun _ u _ => u = iv 0,
               fun _ u _ => u = .bool false,
               fun _ u _ => u = .bool false,
               fun _ u _ => u = .bool false,
               fun _ u _ => u = .slice A11 fr.xs.length c11,
               fun _ u _ => u = iv (fr.xs.length : Int),
               fun _ u _ => u = .slice (some ⟨bv, ov, none⟩) vs.length cv,
               fun _ u _ => u = iv (k : Int),
               fun _ u _ => u = .pointer (some ⟨bv, ov + k, none⟩),
               fun _ u _ => u = .slice fr.A fr.xs.length fr.c,
               fun _ u _ => u = iv (fr.xs.length : Int),
               fun _ u _ => u = .bool false,
               fun _ u _ => u = .bool false,
               fun _ u _ => u = .bool false,
               fun _ u _ => u = .slice (some ⟨bv, ov, none⟩) vs.length cv,
               fun _ u _ => u = iv (k : Int),
               fun _ u _ => u = iv (q : Int),
               fun _ u _ => u = .pointer (some ⟨bv, ov + q, none⟩),
               fun _ u _ => u = .slice y.A y.xs.length y.c,
               fun _ u _ => u = .slice (some ⟨bv, ov, none⟩) vs.length cv,
               fun _ u _ => u = iv (k : Int),
               fun _ u _ => u = .pointer (some ⟨bv, ov + k, none⟩),
               fun _ u _ => u = .slice fr.A fr.xs.length fr.c,
               fun _ u _ => u = .slice A6 L.length c6,
               fun _ u _ => u = .bool true,
               fun _ u _ => u = .bool false,
               fun _ u _ => u = .bool false]
              (Below.refl _ w7).drew ?_ ?_
            · simp only [List.take_succ_cons, List.take_zero, HopL]
              refine ⟨?_, ?_, ?_, ?_, ?_, ?_, ?_, ?_, ?_, ?_, ?_, ?_, ?_, ?_, ?_, ?_, ?_, ?_, ?_, ?_, ?_, ?_, ?_, ?_, ?_, ?_, ?_, ?_, ?_, ?_, trivial⟩
              · refine ⟨fun _ _ _ _ _ h => h, fun _ _ _ _ h _ => h, fun v n x hn hR hk => ?_⟩
                simp only [List.take_succ_cons, List.take_zero, frameF, Act.put, List.setIfInBounds_toArray, List.set_cons_zero, List.set_cons_succ]
                exact stepF_val (by first | rfl | simp [Region.wanted, yielded, *]) (by go_simp <;> omega) ⟨rfl, Below.refl _ _, hR⟩
              · refine ⟨fun _ _ _ _ _ h => h, fun _ _ _ _ h _ => h, fun v n x hn hR hk => ?_⟩
                have h0 : v 0 = iv 0 := hk 0 (by kernel_rfl)
                simp only [List.take_succ_cons, List.take_zero, frameF, Act.put, List.setIfInBounds_toArray, List.set_cons_zero, List.set_cons_succ]
                exact stepF_val (by first | rfl | simp [Region.wanted, yielded, *]) (by go_simp <;> omega) ⟨rfl, Below.refl _ _, hR⟩
              · refine ⟨fun _ _ _ _ _ h => h, fun _ _ _ _ h _ => h, fun v n x hn hR hk => ?_⟩
                have h1 : v 1 = .bool false := hk 1 (by kernel_rfl)
                simp only [List.take_succ_cons, List.take_zero, frameF, Act.put, List.setIfInBounds_toArray, List.set_cons_zero, List.set_cons_succ]
                exact stepF_val (by first | rfl | simp [Region.wanted, yielded, *]) (by go_simp <;> omega) ⟨rfl, Below.refl _ _, hR⟩
              · refine ⟨fun _ _ _ _ _ h => h, fun _ _ _ _ h _ => h, fun v n x hn hR hk => ?_⟩
                have h2 : v 2 = .bool false := hk 2 (by kernel_rfl)
                simp only [List.take_succ_cons, List.take_zero, frameF, Act.put, List.setIfInBounds_toArray, List.set_cons_zero, List.set_cons_succ]
                exact stepF_val (by first | rfl | simp [Region.wanted, yielded, *]) (by go_simp <;> omega) ⟨rfl, Below.refl _ _, hR⟩
              · refine ⟨fun _ _ _ _ _ h => h, fun _ _ _ _ h _ => h, fun v n x hn hR hk => ?_⟩
                have h2 : v 2 = .bool false := hk 2 (by kernel_rfl)
                have h3 : v 3 = iv 0 := hk 3 (by kernel_rfl)
                simp only [List.take_succ_cons, List.take_zero, frameF, Act.put, List.setIfInBounds_toArray, List.set_cons_zero, List.set_cons_succ]
                exact stepF_val (by first | rfl | simp [Region.wanted, yielded, *]) (by go_simp <;> omega) ⟨rfl, Below.refl _ _, hR⟩
              · refine ⟨fun _ _ _ _ _ h => h, fun _ _ _ _ h _ => h, fun v n x hn hR hk => ?_⟩
                have h2 : v 2 = .bool false := hk 2 (by kernel_rfl)
                have h4 : v 4 = .bool false := hk 4 (by kernel_rfl)
                simp only [List.take_succ_cons, List.take_zero, frameF, Act.put, List.setIfInBounds_toArray, List.set_cons_zero, List.set_cons_succ]
                exact stepF_val (by first | rfl | simp [Region.wanted, yielded, *]) (by go_simp <;> omega) ⟨rfl, Below.refl _ _, hR⟩
              · refine ⟨fun _ _ _ _ _ h => h, fun _ _ _ _ h _ => h, fun v n x hn hR hk => ?_⟩
                have h5 : v 5 = .bool false := hk 5 (by kernel_rfl)
                simp only [List.take_succ_cons, List.take_zero, frameF, Act.put, List.setIfInBounds_toArray, List.set_cons_zero, List.set_cons_succ]
                exact stepF_val (by first | rfl | simp [Region.wanted, yielded, *]) (by go_simp <;> omega) ⟨rfl, Below.refl _ _, hR⟩
              · refine ⟨fun _ _ _ _ _ h => h, fun _ _ _ _ h _ => h, fun v n x hn hR hk => ?_⟩
                have h6 : v 6 = .bool false := hk 6 (by kernel_rfl)
                simp only [List.take_succ_cons, List.take_zero, frameF, Act.put, List.setIfInBounds_toArray, List.set_cons_zero, List.set_cons_succ]
                exact stepF_val (by first | rfl | simp [Region.wanted, yielded, *]) (by go_simp <;> omega) ⟨rfl, Below.refl _ _, hR⟩
              · refine ⟨fun _ _ _ _ _ h => h, fun _ _ _ _ h _ => h, fun v n x hn hR hk => ?_⟩
                have h6 : v 6 = .bool false := hk 6 (by kernel_rfl)
                have h7 : v 7 = .slice A11 fr.xs.length c11 := hk 7 (by kernel_rfl)
                simp only [List.take_succ_cons, List.take_zero, frameF, Act.put, List.setIfInBounds_toArray, List.set_cons_zero, List.set_cons_succ]
                exact stepF_val (by first | rfl | simp [Region.wanted, yielded, *]) (by go_simp <;> omega) ⟨rfl, Below.refl _ _, hR⟩
              · refine ⟨fun _ _ _ _ _ h => h, fun _ _ _ _ h _ => h, fun v n x hn hR hk => ?_⟩
                have h6 : v 6 = .bool false := hk 6 (by kernel_rfl)
                simp only [List.take_succ_cons, List.take_zero, frameF, Act.put, List.setIfInBounds_toArray, List.set_cons_zero, List.set_cons_succ]
                exact stepF_val (by first | rfl | simp [Region.wanted, yielded, *]) (by go_simp <;> omega) ⟨rfl, Below.refl _ _, hR⟩
              · refine ⟨fun _ _ _ _ _ h => h, fun _ _ _ _ h _ => h, fun v n x hn hR hk => ?_⟩
                have h6 : v 6 = .bool false := hk 6 (by kernel_rfl)
                simp only [List.take_succ_cons, List.take_zero, frameF, Act.put, List.setIfInBounds_toArray, List.set_cons_zero, List.set_cons_succ]
                exact stepF_val (by first | rfl | simp [Region.wanted, yielded, *]) (by go_simp <;> omega) ⟨rfl, Below.refl _ _, hR⟩
              · refine ⟨fun _ _ _ _ _ h => h, fun _ _ _ _ h _ => h, fun v n x hn hR hk => ?_⟩
                have h6 : v 6 = .bool false := hk 6 (by kernel_rfl)
                have h9 : v 9 = .slice (some ⟨bv, ov, none⟩) vs.length cv := hk 9 (by kernel_rfl)
                have h10 : v 10 = iv (k : Int) := hk 10 (by kernel_rfl)
                simp only [List.take_succ_cons, List.take_zero, frameF, Act.put, List.setIfInBounds_toArray, List.set_cons_zero, List.set_cons_succ]
                exact stepF_val (by first | rfl | simp [Region.wanted, yielded, *]) (by go_simp <;> omega) ⟨rfl, Below.refl _ _, hR⟩
              · refine ⟨fun _ _ _ _ _ h => h, fun _ _ _ _ h _ => h, fun v n x hn hR hk => ?_⟩
                have h6 : v 6 = .bool false := hk 6 (by kernel_rfl)
                have h11 : v 11 = .pointer (some ⟨bv, ov + k, none⟩) := hk 11 (by kernel_rfl)
                have g2 := HXC.out x hR
                simp only [List.take_succ_cons, List.take_zero, frameF, Act.put, List.setIfInBounds_toArray, List.set_cons_zero, List.set_cons_succ]
                exact stepF_val (by first | rfl | simp [Region.wanted, yielded, *]) (by go_simp <;> omega) ⟨rfl, Below.refl _ _, hR⟩
              · refine ⟨fun _ _ _ _ _ h => h, fun _ _ _ _ h _ => h, fun v n x hn hR hk => ?_⟩
                have h6 : v 6 = .bool false := hk 6 (by kernel_rfl)
                have h12 : v 12 = .slice fr.A fr.xs.length fr.c := hk 12 (by kernel_rfl)
                simp only [List.take_succ_cons, List.take_zero, frameF, Act.put, List.setIfInBounds_toArray, List.set_cons_zero, List.set_cons_succ]
                exact stepF_val (by first | rfl | simp [Region.wanted, yielded, *]) (by go_simp <;> omega) ⟨rfl, Below.refl _ _, hR⟩
              · refine ⟨fun _ _ _ _ _ h => h, fun _ _ _ _ h _ => h, fun v n x hn hR hk => ?_⟩
                have h6 : v 6 = .bool false := hk 6 (by kernel_rfl)
                have h8 : v 8 = iv (fr.xs.length : Int) := hk 8 (by kernel_rfl)
                have h13 : v 13 = iv (fr.xs.length : Int) := hk 13 (by kernel_rfl)
                simp only [List.take_succ_cons, List.take_zero, frameF, Act.put, List.setIfInBounds_toArray, List.set_cons_zero, List.set_cons_succ]
                exact stepF_val (by first | rfl | simp [Region.wanted, yielded, *]) (by go_simp <;> omega) ⟨rfl, Below.refl _ _, hR⟩
              · refine ⟨fun _ _ _ _ _ h => h, fun _ _ _ _ h _ => h, fun v n x hn hR hk => ?_⟩
                have h6 : v 6 = .bool false := hk 6 (by kernel_rfl)
                have h14 : v 14 = .bool false := hk 14 (by kernel_rfl)
                simp only [List.take_succ_cons, List.take_zero, frameF, Act.put, List.setIfInBounds_toArray, List.set_cons_zero, List.set_cons_succ]
                exact stepF_val (by first | rfl | simp [Region.wanted, yielded, *]) (by go_simp <;> omega) ⟨rfl, Below.refl _ _, hR⟩
              · refine ⟨fun _ _ _ _ _ h => h, fun _ _ _ _ h _ => h, fun v n x hn hR hk => ?_⟩
                have h15 : v 15 = .bool false := hk 15 (by kernel_rfl)
                simp only [List.take_succ_cons, List.take_zero, frameF, Act.put, List.setIfInBounds_toArray, List.set_cons_zero, List.set_cons_succ]
                exact stepF_val (by first | rfl | simp [Region.wanted, yielded, *]) (by go_simp <;> omega) ⟨rfl, Below.refl _ _, hR⟩
              · refine ⟨fun _ _ _ _ _ h => h, fun _ _ _ _ h _ => h, fun v n x hn hR hk => ?_⟩
                have h16 : v 16 = .bool false := hk 16 (by kernel_rfl)
                simp only [List.take_succ_cons, List.take_zero, frameF, Act.put, List.setIfInBounds_toArray, List.set_cons_zero, List.set_cons_succ]
                exact stepF_val (by first | rfl | simp [Region.wanted, yielded, *]) (by go_simp <;> omega) ⟨rfl, Below.refl _ _, hR⟩
              · refine ⟨fun _ _ _ _ _ h => h, fun _ _ _ _ h _ => h, fun v n x hn hR hk => ?_⟩
                have h16 : v 16 = .bool false := hk 16 (by kernel_rfl)
                simp only [List.take_succ_cons, List.take_zero, frameF, Act.put, List.setIfInBounds_toArray, List.set_cons_zero, List.set_cons_succ]
                exact stepF_val (by first | rfl | simp [Region.wanted, yielded, *]) (by go_simp <;> omega) ⟨rfl, Below.refl _ _, hR⟩
              · refine ⟨fun _ _ _ _ _ h => h, fun _ _ _ _ h _ => h, fun v n x hn hR hk => ?_⟩
                have h16 : v 16 = .bool false := hk 16 (by kernel_rfl)
                have h18 : v 18 = iv (k : Int) := hk 18 (by kernel_rfl)
                simp only [List.take_succ_cons, List.take_zero, frameF, Act.put, List.setIfInBounds_toArray, List.set_cons_zero, List.set_cons_succ]
                exact stepF_val (by first | rfl | simp [Region.wanted, yielded, *]) (by go_simp <;> omega) ⟨rfl, Below.refl _ _, hR⟩
              · refine ⟨fun _ _ _ _ _ h => h, fun _ _ _ _ h _ => h, fun v n x hn hR hk => ?_⟩
                have h16 : v 16 = .bool false := hk 16 (by kernel_rfl)
                have h17 : v 17 = .slice (some ⟨bv, ov, none⟩) vs.length cv := hk 17 (by kernel_rfl)
                have h19 : v 19 = iv (q : Int) := hk 19 (by kernel_rfl)
                simp only [List.take_succ_cons, List.take_zero, frameF, Act.put, List.setIfInBounds_toArray, List.set_cons_zero, List.set_cons_succ]
                exact stepF_val (by first | rfl | simp [Region.wanted, yielded, *]) (by go_simp <;> omega) ⟨rfl, Below.refl _ _, hR⟩
              · refine ⟨fun _ _ _ _ _ h => h, fun _ _ _ _ h _ => h, fun v n x hn hR hk => ?_⟩
                have h16 : v 16 = .bool false := hk 16 (by kernel_rfl)
                have h20 : v 20 = .pointer (some ⟨bv, ov + q, none⟩) := hk 20 (by kernel_rfl)
                have g1 := HYC.out x hR
                simp only [List.take_succ_cons, List.take_zero, frameF, Act.put, List.setIfInBounds_toArray, List.set_cons_zero, List.set_cons_succ]
                exact stepF_val (by first | rfl | simp [Region.wanted, yielded, *]) (by go_simp <;> omega) ⟨rfl, Below.refl _ _, hR⟩
              · refine ⟨fun _ _ _ _ _ h => h, fun _ _ _ _ h _ => h, fun v n x hn hR hk => ?_⟩
                have h16 : v 16 = .bool false := hk 16 (by kernel_rfl)
                simp only [List.take_succ_cons, List.take_zero, frameF, Act.put, List.setIfInBounds_toArray, List.set_cons_zero, List.set_cons_succ]
                exact stepF_val (by first | rfl | simp [Region.wanted, yielded, *]) (by go_simp <;> omega) ⟨rfl, Below.refl _ _, hR⟩
              · refine ⟨fun _ _ _ _ _ h => h, fun _ _ _ _ h _ => h, fun v n x hn hR hk => ?_⟩
                have h16 : v 16 = .bool false := hk 16 (by kernel_rfl)
                simp only [List.take_succ_cons, List.take_zero, frameF, Act.put, List.setIfInBounds_toArray, List.set_cons_zero, List.set_cons_succ]
                exact stepF_val (by first | rfl | simp [Region.wanted, yielded, *]) (by go_simp <;> omega) ⟨rfl, Below.refl _ _, hR⟩
              · refine ⟨fun _ _ _ _ _ h => h, fun _ _ _ _ h _ => h, fun v n x hn hR hk => ?_⟩
                have h16 : v 16 = .bool false := hk 16 (by kernel_rfl)
                have h22 : v 22 = .slice (some ⟨bv, ov, none⟩) vs.length cv := hk 22 (by kernel_rfl)
                have h23 : v 23 = iv (k : Int) := hk 23 (by kernel_rfl)
                simp only [List.take_succ_cons, List.take_zero, frameF, Act.put, List.setIfInBounds_toArray, List.set_cons_zero, List.set_cons_succ]
                exact stepF_val (by first | rfl | simp [Region.wanted, yielded, *]) (by go_simp <;> omega) ⟨rfl, Below.refl _ _, hR⟩
              · refine ⟨fun _ _ _ _ _ h => h, fun _ _ _ _ h _ => h, fun v n x hn hR hk => ?_⟩
                have h16 : v 16 = .bool false := hk 16 (by kernel_rfl)
                have h24 : v 24 = .pointer (some ⟨bv, ov + k, none⟩) := hk 24 (by kernel_rfl)
                have g2 := HXC.out x hR
                simp only [List.take_succ_cons, List.take_zero, frameF, Act.put, List.setIfInBounds_toArray, List.set_cons_zero, List.set_cons_succ]
                exact stepF_val (by first | rfl | simp [Region.wanted, yielded, *]) (by go_simp <;> omega) ⟨rfl, Below.refl _ _, hR⟩
              · refine ⟨fun _ _ _ _ _ h => h, fun _ _ _ _ h _ => h, fun v n x hn hR hk => ?_⟩
                have h16 : v 16 = .bool false := hk 16 (by kernel_rfl)
                simp only [List.take_succ_cons, List.take_zero, frameF, Act.put, List.setIfInBounds_toArray, List.set_cons_zero, List.set_cons_succ]
                exact stepF_val (by first | rfl | simp [Region.wanted, yielded, *]) (by go_simp <;> omega) ⟨rfl, Below.refl _ _, hR⟩
              · refine ⟨fun _ _ _ _ _ h => h, fun _ _ _ _ h _ => h, fun v n x hn hR hk => ?_⟩
                have h16 : v 16 = .bool false := hk 16 (by kernel_rfl)
                have h21 : v 21 = .slice y.A y.xs.length y.c := hk 21 (by kernel_rfl)
                have h25 : v 25 = .slice fr.A fr.xs.length fr.c := hk 25 (by kernel_rfl)
                have h26 : v 26 = .slice A6 L.length c6 := hk 26 (by kernel_rfl)
                simp only [List.take_succ_cons, List.take_zero, frameF, Act.put, List.setIfInBounds_toArray, List.set_cons_zero, List.set_cons_succ]
                refine stepF_call (by first | rfl | simp [Region.wanted, yielded, *]) (by go_simp) (HPR.out x hR) ?_
                rintro e x' ⟨rfl, hb⟩
                exact ⟨_, rfl, rfl, hb, hR.next hb (Nat.le_refl _)⟩
              · refine ⟨fun _ _ _ _ _ h => h, fun _ _ _ _ h _ => h, fun v n x hn hR hk => ?_⟩
                have h16 : v 16 = .bool false := hk 16 (by kernel_rfl)
                have h27 : v 27 = .bool true := hk 27 (by kernel_rfl)
                simp only [List.take_succ_cons, List.take_zero, frameF, Act.put, List.setIfInBounds_toArray, List.set_cons_zero, List.set_cons_succ]
                exact stepF_val (by first | rfl | simp [Region.wanted, yielded, *]) (by go_simp <;> omega) ⟨rfl, Below.refl _ _, hR⟩
              · refine ⟨fun _ _ _ _ _ h => h, fun _ _ _ _ h _ => h, fun v n x hn hR hk => ?_⟩
                have h16 : v 16 = .bool false := hk 16 (by kernel_rfl)
                have h28 : v 28 = .bool false := hk 28 (by kernel_rfl)
                simp only [List.take_succ_cons, List.take_zero, frameF, Act.put, List.setIfInBounds_toArray, List.set_cons_zero, List.set_cons_succ]
                exact stepF_val (by first | rfl | simp [Region.wanted, yielded, *]) (by go_simp <;> omega) ⟨rfl, Below.refl _ _, hR⟩
            · intro v n x1 hn hR hall
              have h29 : v 29 = .bool false := hall 29 (by decide)
              clear hall hn
              simp only [List.drop_succ_cons, List.drop_zero, List.drop_nil, List.take_succ_cons, List.take_zero, frameF, Act.put, List.setIfInBounds_toArray, List.set_cons_zero, List.set_cons_succ, Nat.zero_add, Nat.reduceAdd, h29]
              have ho11 := ho11'.below hR
              have HL8 := Lib.hid (o13'.below hR)
              have hb8 := hb7.next hR (Nat.le_refl _)
              have HO8 := Lib.hid (HOO.out.below hb8)
              have H11 := Lib.hid ho11
              have hb128 := hbr.next hb8 (Nat.le_refl _)
              clear HYC HXC HPR ho11' o13' hb7 hR HOO ho11 hbs hb0
              generalize x1 = w8 at *
              have HRP := Lib.hid (repeat1_at (k : Int) fr.xs.length (w8.alloc (.cells #[iv (k : Int)] 3)) (by omega) w8.heap.size (by simp) (by simp [go_sem]))
              have hbA : Below w8.heap.size w8 (w8.alloc (.cells #[iv (k : Int)] 3)) := (Below.refl _ _).alloc (Nat.le_refl _) _
              go_wp2_with fail
              refine HRP.out.mono ?_
              rintro _ w9 ⟨v5, rfl, ho5, hb9⟩
              have hb89 := hbA.next hb9 (Nat.le_refl _)
              have ho5' : Own intE 3 w8.heap.size w9 v5 (List.replicate fr.xs.length (k : Int)) := ho5.base hbA.size
              clear ho5 hb9 HRP hbA
              go_wp2_with fail
              go_loopw [17, 126] (fun _ i wx => ∃ j : Nat, j ≤ L.length ∧ i = iv j ∧ Hid (Own intE 3 w8.heap.size wx v5 (File.putGo S0 (List.replicate fr.xs.length (k : Int)) (L.take j))) ∧ Below w8.heap.size w8 wx) (fun _ i _ => L.length - (intOf i).toNat)
              case atStart => exact ⟨0, by omega, rfl, ho5', hb89⟩
              case round =>
                obtain ⟨j, hj, rfl, HNW, hbx⟩ := hrel
                by_cases hjl : j < L.length
                · have hji : (j : Int) < (L.length : Int) := by omega
                  have HLO := Lib.hid (HL8.out.below hbx)
                  have HOL := Lib.hid (HO8.out.below hbx)
                  obtain ⟨bl, ol, p0, hA6, hbl, hp, hc0, hc1⟩ := Sl.atPr HLO.out.sl hjl
                  subst hA6
                  obtain ⟨hp1, hp2⟩ := HLM.out p0 (mem_at hp)
                  have htk : L.take (j + 1) = L.take j ++ [p0] := by rw [List.take_add_one, hp]; rfl
                  obtain ⟨px, py⟩ := p0
                  simp only at hp1 hp2 hc0 hc1
                  have hnl : (File.putGo S0 (List.replicate fr.xs.length (k : Int)) (L.take j)).length = fr.xs.length := by rw [File.put_len, List.length_replicate]
                  obtain ⟨gn, cn, x0, e5, hgn, hgnl, _, hcn, hfn⟩ := ownI HNW.out (k := py) (by rw [hnl]; exact hp2)
                  rw [hnl] at e5
                  subst e5
                  obtain ⟨go_, co, ov2, e7, _, hgol, hov, hco, _⟩ := ownI HOL.out (k := px) hp1
                  subst e7
                  have hgo3 : go_ < w8.heap.size := (HO8.out.lt go_ rfl).2
                  have hne : go_ ≠ gn := by omega
                  have hgd : S0.getD px 0 = ov2 := by rw [List.getD_eq_getElem?_getD, hov]; rfl
                  have hbM : Below wr.heap.size wr (wr.alloc (.cells #[iv (px : Int), iv (py : Int)] 73)) := (Below.refl _ _).alloc (Nat.le_refl _) _
                  have HBX : Hid (Blk (wr.alloc (.cells #[iv (px : Int), iv (py : Int)] 73)) wr.heap.size 73 #[iv (px : Int), iv (py : Int)]) := Lib.hid (Blk.new _ _ _)
                  go_upto_region 21 with fail
                  generalize wr.alloc (.cells #[iv (px : Int), iv (py : Int)] 73) = wM at *
                  have HOC : Hid (∀ z, Below wM.heap.size wM z → z.cell? ⟨go_, px, none⟩ = some (iv ov2)) := Lib.hid fun z h => ((hbM.next h (Nat.le_refl _)).cell (p := ⟨go_, px, none⟩) hgol).trans hco
                  have HNC : Hid (∀ z, Below wM.heap.size wM z → z.cell? ⟨gn, py, none⟩ = some (iv x0) ∧ (∀ o, z.frozen? ⟨gn, o, none⟩ = false) ∧ gn < z.heap.size) := Lib.hid fun z h => ⟨((hbM.next h (Nat.le_refl _)).cell (p := ⟨gn, py, none⟩) hgnl).trans hcn, fun o => by
                    have := (hbM.next h (Nat.le_refl _)).block gn hgnl
                    have h2 := hfn o
                    unfold World.frozen? at h2 ⊢
                    simp only [this]
                    exact h2, Nat.lt_of_lt_of_le hgnl (hbM.next h (Nat.le_refl _)).size⟩
                  have HNM := Lib.hid fun z (h : Below wM.heap.size wM z) => HNW.out.below (hbM.next h (Nat.le_refl _))
                  have hpxi : (px : Int) < (S0.length : Int) := by omega
                  have hpyi : (py : Int) < (fr.xs.length : Int) := by omega
                  clear hc0 hc1 hp hcn hfn hco hov HLO HOL
                  refine wp_free_lit (by kernel_rfl) 9 (by kernel_rfl) (by kernel_rfl) (by decide) (fun _ x => Below wM.heap.size wM x) (fun x x' => Below x.heap.size x x')
                    [fun _ u _ => u = .slice (some ⟨gn, 0, none⟩) fr.xs.length cn,
                     fun _ u _ => u = .pointer (some ⟨wr.heap.size, 1, none⟩),
                     fun _ u _ => u = iv (py : Int),
                     fun _ u _ => u = .slice (some ⟨go_, 0, none⟩) S0.length co,
                     fun _ u _ => u = .pointer (some ⟨wr.heap.size, 0, none⟩),
                     fun _ u _ => u = iv (px : Int),
                     fun _ u _ => u = .pointer (some ⟨go_, px, none⟩),
                     fun _ u _ => u = iv ov2,
                     fun _ u _ => u = .pointer (some ⟨gn, py, none⟩)]
                    (Below.refl _ wM).drew ?_ ?_
                  · simp only [List.take_succ_cons, List.take_zero, HopL]
                    refine ⟨?_, ?_, ?_, ?_, ?_, ?_, ?_, ?_, ?_, trivial⟩
                    · refine ⟨fun _ _ _ _ _ h => h, fun _ _ _ _ h _ => h, fun v n x hn hR hk => ?_⟩
                      simp only [List.take_succ_cons, List.take_zero, frameF, Act.put, List.setIfInBounds_toArray, List.set_cons_zero, List.set_cons_succ]
                      exact stepF_val (by first | rfl | simp [Region.wanted, yielded, *]) (by go_simp <;> omega) ⟨rfl, Below.refl _ _, hR⟩
                    · refine ⟨fun _ _ _ _ _ h => h, fun _ _ _ _ h _ => h, fun v n x hn hR hk => ?_⟩
                      simp only [List.take_succ_cons, List.take_zero, frameF, Act.put, List.setIfInBounds_toArray, List.set_cons_zero, List.set_cons_succ]
                      exact stepF_val (by first | rfl | simp [Region.wanted, yielded, *]) (by go_simp <;> omega) ⟨rfl, Below.refl _ _, hR⟩
                    · refine ⟨fun _ _ _ _ _ h => h, fun _ _ _ _ h _ => h, fun v n x hn hR hk => ?_⟩
                      have h1 : v 1 = .pointer (some ⟨wr.heap.size, 1, none⟩) := hk 1 (by kernel_rfl)
                      have g0 := (Blk.under HBX.out hR).cell 0
                      have g1 := (Blk.under HBX.out hR).cell 1
                      simp only [List.take_succ_cons, List.take_zero, frameF, Act.put, List.setIfInBounds_toArray, List.set_cons_zero, List.set_cons_succ]
                      exact stepF_val (by first | rfl | simp [Region.wanted, yielded, *]) (by go_simp <;> omega) ⟨rfl, Below.refl _ _, hR⟩
                    · refine ⟨fun _ _ _ _ _ h => h, fun _ _ _ _ h _ => h, fun v n x hn hR hk => ?_⟩
                      simp only [List.take_succ_cons, List.take_zero, frameF, Act.put, List.setIfInBounds_toArray, List.set_cons_zero, List.set_cons_succ]
                      exact stepF_val (by first | rfl | simp [Region.wanted, yielded, *]) (by go_simp <;> omega) ⟨rfl, Below.refl _ _, hR⟩
                    · refine ⟨fun _ _ _ _ _ h => h, fun _ _ _ _ h _ => h, fun v n x hn hR hk => ?_⟩
                      simp only [List.take_succ_cons, List.take_zero, frameF, Act.put, List.setIfInBounds_toArray, List.set_cons_zero, List.set_cons_succ]
                      exact stepF_val (by first | rfl | simp [Region.wanted, yielded, *]) (by go_simp <;> omega) ⟨rfl, Below.refl _ _, hR⟩
                    · refine ⟨fun _ _ _ _ _ h => h, fun _ _ _ _ h _ => h, fun v n x hn hR hk => ?_⟩
                      have h4 : v 4 = .pointer (some ⟨wr.heap.size, 0, none⟩) := hk 4 (by kernel_rfl)
                      have g0 := (Blk.under HBX.out hR).cell 0
                      have g1 := (Blk.under HBX.out hR).cell 1
                      simp only [List.take_succ_cons, List.take_zero, frameF, Act.put, List.setIfInBounds_toArray, List.set_cons_zero, List.set_cons_succ]
                      exact stepF_val (by first | rfl | simp [Region.wanted, yielded, *]) (by go_simp <;> omega) ⟨rfl, Below.refl _ _, hR⟩
                    · refine ⟨fun _ _ _ _ _ h => h, fun _ _ _ _ h _ => h, fun v n x hn hR hk => ?_⟩
                      have h3 : v 3 = .slice (some ⟨go_, 0, none⟩) S0.length co := hk 3 (by kernel_rfl)
                      have h5 : v 5 = iv (px : Int) := hk 5 (by kernel_rfl)
                      simp only [List.take_succ_cons, List.take_zero, frameF, Act.put, List.setIfInBounds_toArray, List.set_cons_zero, List.set_cons_succ]
                      exact stepF_val (by first | rfl | simp [Region.wanted, yielded, *]) (by go_simp <;> omega) ⟨rfl, Below.refl _ _, hR⟩
                    · refine ⟨fun _ _ _ _ _ h => h, fun _ _ _ _ h _ => h, fun v n x hn hR hk => ?_⟩
                      have h6 : v 6 = .pointer (some ⟨go_, px, none⟩) := hk 6 (by kernel_rfl)
                      have g2 := HOC.out x hR
                      simp only [List.take_succ_cons, List.take_zero, frameF, Act.put, List.setIfInBounds_toArray, List.set_cons_zero, List.set_cons_succ]
                      exact stepF_val (by first | rfl | simp [Region.wanted, yielded, *]) (by go_simp <;> omega) ⟨rfl, Below.refl _ _, hR⟩
                    · refine ⟨fun _ _ _ _ _ h => h, fun _ _ _ _ h _ => h, fun v n x hn hR hk => ?_⟩
                      have h0 : v 0 = .slice (some ⟨gn, 0, none⟩) fr.xs.length cn := hk 0 (by kernel_rfl)
                      have h2 : v 2 = iv (py : Int) := hk 2 (by kernel_rfl)
                      simp only [List.take_succ_cons, List.take_zero, frameF, Act.put, List.setIfInBounds_toArray, List.set_cons_zero, List.set_cons_succ]
                      exact stepF_val (by first | rfl | simp [Region.wanted, yielded, *]) (by go_simp <;> omega) ⟨rfl, Below.refl _ _, hR⟩
                  · intro v n x1 hn hR hall
                    have h7 : v 7 = iv ov2 := hall 7 (by decide)
                    have h8 : v 8 = .pointer (some ⟨gn, py, none⟩) := hall 8 (by decide)
                    clear hall hn
                    simp only [List.drop_succ_cons, List.drop_zero, List.take_succ_cons, List.take_zero, frameF, Act.put, List.setIfInBounds_toArray, List.set_cons_zero, List.set_cons_succ, Nat.zero_add, Nat.reduceAdd, h7, h8]
                    obtain ⟨y1, y2, y3⟩ := HNC.out x1 hR
                    have hN2 : Own intE 3 w8.heap.size (x1.setCell ⟨gn, py, none⟩ (iv ov2)) (.slice (some ⟨gn, 0, none⟩) fr.xs.length cn) (File.putGo S0 (List.replicate fr.xs.length (k : Int)) (L.take (j + 1))) := by
                      rw [htk, File.put_snoc, hgd]
                      exact setI (HNM.out x1 hR) (by rw [hnl]; exact hp2) ov2
                    have hbz : Below w8.heap.size w8 (x1.setCell ⟨gn, py, none⟩ (iv ov2)) := ((hbx.trans ((hbM.mono hbx.size).trans (hR.mono (Nat.le_trans hbx.size hbM.size))))).setCell (p := ⟨gn, py, none⟩) hgn _
                    have HN2 := Lib.hid hN2
                    clear hN2
                    go_wp2_with fail
                    go_roundw
                    case rel => exact ⟨j + 1, by omega, by go_num, HN2, hbz⟩
                    case measure => simp [intOf]; omega
                · have hji : ¬ (j : Int) < (L.length : Int) := by omega
                  have hnw := HNW.out
                  rw [List.take_of_length_le (by omega), ← HSS.out] at hnw
                  obtain ⟨Aw, cw, e5, _, _⟩ := hnw.form
                  rw [HKL.out] at e5
                  subst e5
                  have HEQ := Lib.hid (selfI A11 S1 fr.xs.length c11 Aw cw wr HKL.out (by unfold big; omega) (H11.out.below hbx).sl hnw.sl)
                  have hb12x := hb128.next hbx (Nat.le_refl _)
                  clear hnw HNW
                  go_wp2_with fail
                  refine HEQ.out.mono ?_
                  rintro _ w10 ⟨rfl, hb10⟩
                  have h11 : Own intE 3 w12.heap.size w10 (.slice A11 fr.xs.length c11) (File.sinceAt (vs.map Rw.xs) (k + 1 - 1)) := by
                    rw [Nat.add_sub_cancel, HSQ.out]
                    exact ((H11.out.below hbx).below hb10).base hbr.size
                  have H12 := Lib.hid h11
                  have hb1210 := hb12x.next hb10 (Nat.le_refl _)
                  clear h11 HEQ
                  go_wp2_with fail
                  go_roundw
                  case rel => exact ⟨k + 1, by omega, by omega, by go_num, H12, hb1210⟩
                  case measure => simp [intOf]; omega
        · have hki : ¬ (k : Int) < (vs.length : Int) := by omega
          have HBE := HB.out.next hbr (Nat.le_refl _)
          have HAW2 := Lib.hid (HAW.out wr HBE)
          clear HO HO14
          go_wp2_with fail
          refine HAW2.out.mono ?_
          rintro _ w11 ⟨rfl, hb11⟩
          have HBF := HBE.next hb11 (Nat.le_refl _)
          go_wp2_with fail
          go_ret
          exact ⟨rfl, HBF⟩
end Fl
end Go.Proofs.YtkhmkpcihphkcaaDoor
