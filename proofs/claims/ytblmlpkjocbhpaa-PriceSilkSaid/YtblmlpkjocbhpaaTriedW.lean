/- tried, of the statements: a plan that is let, out of a spool. Conditions: lengths are below a great bound. -/
import Derived.Test.YtblmlpkjocbhpaaSoldW
import Derived.Test.YtblmlpkjocbhpaaPlanA
set_option linter.unusedVariables false
set_option linter.unusedSimpArgs false
namespace Go.Proofs.Ytblmlpkjocbhpaa
open Go.RowKit Go.Shelf
set_option maxRecDepth 100000

theorem from_none (B : Nat) (w : World) (g k n : Nat) (h : IsSpool B w g k) (hk : k < 4611686018427387904) (hn : n ≤ 1000000) :
    Calls Try.prog 51 #[.pointer (some ⟨g, 0, none⟩), iv (-1), iv ((n : Int) - 1)] w fun e w' => ∃ x : Int, e = .returned (iv x) ∧ -1 ≤ x ∧ x < n ∧ IsSpool B w' g (k + 1) ∧ Only g w w' := by
  have HU := Lib.hid (upto_spec B w g k n h hk hn)
  have hs : (n : Int) - 1 + 1 = (n : Int) := by omega
  have hs1 : IntKind.i64.wrap ((n : Int) - 1 - -1) = (n : Int) := by rw [show (n : Int) - 1 - -1 = (n : Int) by omega]; exact IntWalk.i64_in _ (by omega)
  go_enter Try.func51, Try.ntmps51
  go_wp2_with (go_at_call 16; (try rw [hs]); refine HU.out.mono ?_; rintro e w1 ⟨r, rfl, hr, hsp, ho⟩; have hs2 : IntKind.i64.wrap (-1 + (r : Int)) = (r : Int) - 1 := by rw [show -1 + (r : Int) = (r : Int) - 1 by omega]; exact IntWalk.i64_in _ (by omega))
  go_ret
  exact ⟨(r : Int) - 1, by first | rfl | (congr 2; omega), by omega, by omega, hsp, ho⟩
/-- A second spool: it is one in whatever memory that has its bytes and itself as they were. -/
theorem wound2_spec (A : Option Addr) (bs : List Int) (c : Nat) (w0 w : World) (hs0 : Sl byteE w0 A bs) (hb : Below w0.heap.size w0 w) :
    Calls Try.prog 15 #[.slice A bs.length c] w fun e w' => ∃ g, e = .returned (.pointer (some ⟨g, 0, none⟩)) ∧ g = w.heap.size ∧ w'.heap.size = w.heap.size + 1 ∧ Below w.heap.size w w' ∧
      Hid (∀ w'' : World, w'.heap.size ≤ w''.heap.size → (∀ b, b < w0.heap.size → w''.heap[b]? = w0.heap[b]?) → w''.heap[g]? = w'.heap[g]? → IsSpool (g + 1) w'' g 0) := by
  have hz := hb.size
  have HB := Lib.hid hb
  clear hb
  go_enter Try.func15, Try.ntmps15
  go_wp2
  go_ret
  refine ⟨w.heap.size, rfl, rfl, by simp, (Below.refl _ _).alloc (Nat.le_refl _) _, fun w'' h1 h2 h3 => ⟨by omega, by simp at h1; omega, A, bs.length, c, IntKind.u64.wrap bs.length, h3.trans (Blk.new _ _ _), fun hn => ?_⟩⟩
  have hne : bs ≠ [] := fun e => by rw [e] at hn; simp at hn
  obtain ⟨b, off, rfl, hb, hc⟩ := hs0 hne
  refine ⟨b, off, rfl, by omega, by omega, fun i hi => ⟨bs[i], ?_⟩⟩
  have := hc i bs[i] (List.getElem?_eq_getElem hi) 0 (.int .u8 bs[i]) rfl
  rw [World.cell?_of_block (w := w0) (h2 b hb)]
  simpa [byteE] using this
/-- What is left of what is bought, behind a plan. -/
structure LeftOk (bought left plan : List Int) : Prop where
  len : left.length = bought.length
  weeks : ∀ x ∈ plan, -1 ≤ x ∧ x < bought.length
  cnt : ∀ j, j < bought.length → left.getD j 0 = bought.getD j 0 - Price.countIn j plan ∧ 0 ≤ left.getD j 0
theorem LeftOk.start {bought : List Int} (h : ∀ m ∈ bought, 0 ≤ m) : LeftOk bought bought [] :=
  ⟨rfl, (fun x hx => by cases hx), fun j hj => ⟨by simp [Price.countIn], by rw [List.getD_eq_getElem?_getD, List.getElem?_eq_getElem hj]; exact h _ (List.getElem_mem hj)⟩⟩
theorem LeftOk.none_ {bought left plan : List Int} (h : LeftOk bought left plan) : LeftOk bought left (plan ++ [-1]) := by
  refine ⟨h.len, fun x hx => ?_, fun j hj => ?_⟩
  · rcases List.mem_append.1 hx with hx | hx
    · exact h.weeks x hx
    · rw [List.mem_singleton.1 hx]; omega
  · rw [Price.countIn_append, if_neg (by omega), Int.add_zero]; exact h.cnt j hj
theorem LeftOk.week {bought left plan : List Int} (h : LeftOk bought left plan) {j : Nat} (hj : j < bought.length) (hp : left.getD j 0 ≠ 0) : LeftOk bought (left.set j (left.getD j 0 - 1)) (plan ++ [(j : Int)]) := by
  refine ⟨by simp [h.len], fun x hx => ?_, fun i hi => ?_⟩
  · rcases List.mem_append.1 hx with hx | hx
    · exact h.weeks x hx
    · rw [List.mem_singleton.1 hx]; omega
  · have h1 := h.cnt i hi
    rw [Price.countIn_append]
    by_cases e : j = i
    · subst e
      rw [if_pos rfl, List.getD_eq_getElem?_getD, List.getElem?_set_self (by rw [h.len]; exact hj), Option.getD_some]
      omega
    · rw [if_neg (by omega), Price.getD_set_ne e]; omega
theorem LeftOk.plan {bought left plan : List Int} (h : LeftOk bought left plan) : Price.Plan bought plan := by
  refine ⟨h.weeks, Price.room_of (w := 0) fun k hk => ?_⟩
  have := h.cnt k hk
  rw [List.getD_eq_getElem?_getD (l := bought), List.getElem?_eq_getElem hk, Option.getD_some] at this
  rw [Nat.zero_add]; omega
/-- What tried answers. -/
def TriedOk (bought : List Int) (n B g k : Nat) (w : World) (e : Ending) (w' : World) : Prop :=
  ∃ (v : Value) (plan : List Int), e = .returned v ∧ Own intE 3 w.heap.size w' v plan ∧ plan.length = n ∧ Price.Plan bought plan ∧ IsSpool B w' g (k + n) ∧ Only g w w'
set_option maxHeartbeats 4000000 in
theorem tried_spec (fall : Int) (Ab : Option Addr) (bought : List Int) (cb n B g k : Nat) (w : World) (hs : Sl intE w Ab bought) (hA : Far g Ab) (hb : ∀ m ∈ bought, 0 ≤ m ∧ m ≤ 9) (hl1 : 1 ≤ bought.length) (hl8 : bought.length ≤ 8) (hn : n ≤ 14) (h : IsSpool B w g k) (hk : k < 1000000) :
    Calls Try.prog 49 #[.pointer (some ⟨g, 0, none⟩), saleV fall Ab bought.length cb, iv n] w (TriedOk bought n B g k w) := by
  have hgB : g < B ∧ B ≤ w.heap.size := ⟨h.1, h.2.1⟩
  have H := Lib.hid h
  have HBM := Lib.hid hb
  clear h hb
  go_enter Try.func49, Try.ntmps49
  go_wp2_with fail
  have hb1 : Below w.heap.size w (w.alloc (.cells #[iv fall, .slice Ab bought.length cb] 31)) := (Below.refl _ _).alloc (Nat.le_refl _) _
  have hz1 : (w.alloc (.cells #[iv fall, .slice Ab bought.length cb] 31)).heap.size = w.heap.size + 1 := by simp
  generalize w.alloc (.cells #[iv fall, .slice Ab bought.length cb] 31) = w1 at *
  refine (cloneI Ab bought cb w1 (by unfold big; omega) (hs.below hb1)).mono ?_
  rintro e w2 ⟨v7, rfl, ho7, hb2⟩
  have hne : bought ≠ [] := fun e => by rw [e] at hl1; simp at hl1
  obtain ⟨gl, cl, rfl⟩ := ho7.some_ hne
  have hgl := ho7.lt gl rfl
  have hsp2 := (H.out.below hb1 (by omega)).below hb2 (by omega)
  have hz2 := hb2.size
  have HO2 := Lib.hid (show Only g w w2 from ⟨(hb1.next hb2 (Nat.le_refl _)).mono (by omega), fun b hb _ => (hb1.next hb2 (Nat.le_refl _)).block b hb⟩)
  clear hb1 hb2 H
  go_wp2_with fail
  go_loopw [8, 9, 14] (fun v8 _ i wr => ∃ (j : Nat) (left plan : List Int), j ≤ n ∧ i = iv j ∧ plan.length = j ∧ Own intE 3 w1.heap.size wr (.slice (some ⟨gl, 0, none⟩) bought.length cl) left ∧ Own intE 3 w2.heap.size wr v8 plan ∧ Hid (LeftOk bought left plan) ∧ IsSpool B wr g (k + j) ∧ Hid (Only g w wr) ∧ w2.heap.size ≤ wr.heap.size) (fun _ _ i _ => n - (intOf i).toNat)
  case atStart => exact ⟨0, bought, [], by omega, rfl, rfl, ho7, Own.nil, LeftOk.start fun m hm => (HBM.out m hm).1, hsp2, HO2.out, Nat.le_refl _⟩
  case round =>
    obtain ⟨j, left, plan, hj, rfl, rfl, hol, hop, hlf, hsp, hon, hzr⟩ := hrel
    by_cases hlt : plan.length < n
    · have HF := Lib.hid (from_none B wr g (k + plan.length) bought.length hsp (by omega) (by omega))
      have hwl : IntKind.i64.wrap ((bought.length : Int) - 1) = (bought.length : Int) - 1 := IntWalk.i64_in _ (by omega)
      have HOL := Lib.hid hol
      have HOP := Lib.hid hop
      clear hol hop hsp
      go_wp2_with fail
      refine HF.out.mono ?_
      rintro e w3 ⟨x, rfl, hx0, hx1, hsp3, ho3⟩
      have hol3 := HOL.out.only (by omega) ho3
      have hop3 := HOP.out.only (by omega) ho3
      have hz3 := ho3.below.size
      have HO3 := Lib.hid (hon.out.trans ho3)
      clear ho3 hon HOL HOP HF hwl
      have hob : ∀ b, (Value.slice (some ⟨gl, 0, none⟩) bought.length cl).ownBlock = some b → b = gl := fun b hb => by
        have : gl = b := by simpa [Value.ownBlock] using hb
        exact this.symm
      have HOB := Lib.hid hob
      clear hob
      by_cases hxn : x = -1
      · subst hxn
        have HOL := Lib.hid hol3
        clear hol3
        go_wp2_with (first
          | (at_builtin; refine wpApp1 intE tyInts rfl _ _ rfl hop3 (-1) rfl rfl rfl (by omega) (by unfold big; omega) ?_; intro v' w5 hown5 hb5 hk5))
        have hol5 := HOL.out.keep hb5.size fun b hb => hb5.block b (by have := HOB.out b hb; omega)
        have hsp5 := hsp3.below hb5 (by omega)
        have HO5 := Lib.hid (HO3.out.next hb5 (by omega) (by omega))
        have hz5 := hb5.size
        clear hb5 hk5
        go_roundw
        case rel => exact ⟨plan.length + 1, left, plan ++ [-1], by omega, by go_num, by simp, hol5, hown5, hlf.out.none_, hsp5, HO5.out, by omega⟩
        case measure => simp [intOf]; omega
      · obtain ⟨jj, rfl⟩ := Int.eq_ofNat_of_zero_le (by omega : 0 ≤ x)
        have hjl : jj < bought.length := by omega
        have hjn : ((jj : Int) != -1) = true := bne_iff_ne.2 (by omega)
        obtain ⟨fz, hBg, hgl3, hce, hst⟩ := hol3.store jj (by rw [hlf.out.len]; exact hjl) (left.getD jj 0 - 1)
        have hbd := hlf.out.cnt jj hjl
        have hbo : bought.getD jj 0 ≤ 9 := by rw [List.getD_eq_getElem?_getD, List.getElem?_eq_getElem hjl]; exact (HBM.out _ (List.getElem_mem hjl)).2
        have hcn : 0 ≤ Price.countIn (jj : Int) plan := by rw [Price.countIn_cn]; exact Price.cn_nonneg _ _
        obtain ⟨lv, hlv⟩ : ∃ lv, lv = left.getD jj 0 := ⟨_, rfl⟩
        have hlb : 0 ≤ lv ∧ lv ≤ 9 := by omega
        rw [← hlv] at hce hst
        have HLV := Lib.hid hlv
        have HST := Lib.hid hst
        have HOL := Lib.hid hol3
        clear hlv hst hol3 hbd hbo hcn
        have hji : (jj : Int) < (bought.length : Int) := by omega
        by_cases h0 : lv = 0
        · have h0' : (lv == 0) = true := by simpa using h0
          go_wp2_with (first
            | (at_builtin; refine wpApp1 intE tyInts rfl _ _ rfl hop3 (-1) rfl rfl rfl (by omega) (by unfold big; omega) ?_; intro v' w5 hown5 hb5 hk5))
          have hol5 := HOL.out.keep hb5.size fun b hb => hb5.block b (by have := HOB.out b hb; omega)
          have hsp5 := hsp3.below hb5 (by omega)
          have HO5 := Lib.hid (HO3.out.next hb5 (by omega) (by omega))
          have hz5 := hb5.size
          clear hb5 hk5
          go_roundw
          case rel => exact ⟨plan.length + 1, left, plan ++ [-1], by omega, by go_num, by simp, hol5, hown5, hlf.out.none_, hsp5, HO5.out, by omega⟩
          case measure => simp [intOf]; omega
        · have h0' : (lv == 0) = false := by simpa using h0
          have hop4 := hop3.setCell (p := ⟨gl, jj, none⟩) hgl.2 (iv (lv - 1))
          have hz4 : (w3.setCell ⟨gl, jj, none⟩ (iv (lv - 1))).heap.size = w3.heap.size := by simp [World.setCell]
          have hz44 : w2.heap.size ≤ (w3.setCell ⟨gl, jj, none⟩ (iv (lv - 1))).heap.size := by omega
          have HO4 := Lib.hid (HO3.out.setCell (p := ⟨gl, jj, none⟩) (by simp; omega) (by simp; omega) (iv (lv - 1)))
          have hsp4 := hsp3.keep (w' := w3.setCell ⟨gl, jj, none⟩ (iv (lv - 1))) (by omega) fun b hb => Below.heap_setCell _ _ _ b (by simp; omega)
          have hlk := hlf.out.week hjl (by rw [← HLV.out]; exact h0)
          rw [← HLV.out] at hlk
          have HLK := Lib.hid hlk
          clear hlk hsp3
          go_wp2_with (first
            | (at_builtin; refine wpApp1G intE tyInts rfl _ _ rfl hop4 (jj : Int) rfl rfl hz4.symm rfl hz44 (by unfold big; omega) ?_; intro v' w5 hown5 hb5 hk5))
          have hol5 := HST.out.keep hb5.size fun b hb => hb5.block b (by have := HOB.out b hb; omega)
          have hsp5 := hsp4.below hb5 (by omega)
          have HO5 := Lib.hid (HO4.out.next hb5 (by omega) (by omega))
          have hz5 := hb5.size
          clear hb5 hk5
          go_roundw
          case rel => exact ⟨plan.length + 1, left.set jj (lv - 1), plan ++ [(jj : Int)], by omega, by go_num, by simp, hol5, hown5, HLK.out, hsp5, HO5.out, Nat.le_trans hz44 hz5⟩
          case measure => simp [intOf]; omega
    · obtain ⟨A8, c8, rfl, _, _⟩ := hop.form
      have HOP := Lib.hid hop
      clear hop hol
      go_wp2
      go_ret
      exact ⟨_, plan, rfl, HOP.out.base (by omega), by omega, hlf.out.plan, by rw [show n = plan.length by omega]; exact hsp, hon.out⟩
end Go.Proofs.Ytblmlpkjocbhpaa
