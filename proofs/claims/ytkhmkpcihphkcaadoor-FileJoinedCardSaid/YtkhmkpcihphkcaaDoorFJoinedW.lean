/- FileJoined: the walk. Condition: the library's table of powers of ten lies as the program's text lays it. -/
import Derived.Test.YtkhmkpcihphkcaaDoorMkF
import Derived.Test.YtkhmkpcihphkcaaDoorFlY
import Derived.Test.YtkhmkpcihphkcaaDoorFileOne
import Derived.Test.YtkhmkpcihphkcaaDoorFileJoin2
set_option linter.unusedVariables false
set_option linter.unusedSimpArgs false
namespace Go.Proofs.YtkhmkpcihphkcaaDoor
namespace Fl
open Go.RowKit Go.Shelf
set_option maxRecDepth 100000
/-- The i-th line of the base. -/
def lnS (i : Nat) : ByteArray := ⟨#[108, 105, 110, 101, 32]⟩ ++ strOfNums [97 + (i : Int)]
theorem lnS_inj {i j : Nat} (hi : i < 20) (hj : j < 20) (h : lnS i = lnS j) : i = j := by
  have h1 : ∀ i : Fin 20, ∀ j : Fin 20, lnS i.val = lnS j.val → i = j := by decide +kernel
  exact congrArg Fin.val (h1 ⟨i, hi⟩ ⟨j, hj⟩ h)
def lns (n : Nat) : List ByteArray := (List.range n).map lnS
theorem lns_len (n : Nat) : (lns n).length = n := by simp [lns]
theorem lns_succ (n : Nat) : lns (n + 1) = lns n ++ [lnS n] := by simp [lns, List.range_succ]
theorem lns_nodup {n : Nat} (h : n ≤ 20) : (lns n).Nodup := by
  unfold lns
  rw [List.nodup_iff_pairwise_ne, List.pairwise_map]
  refine List.Pairwise.imp_of_mem ?_ (List.nodup_iff_pairwise_ne.1 List.nodup_range)
  intro a b ha hb hne he
  exact hne (lnS_inj (by have := List.mem_range.1 ha; omega) (by have := List.mem_range.1 hb; omega) he)
theorem lns_mem {n : Nat} (h : n ≤ 20) : ∀ s ∈ lns n, File.okLine s = true ∧ s.size ≤ 40 ∧ s ≠ ⟨#[102, 105, 114, 115, 116]⟩ ∧ s ≠ ⟨#[115, 101, 99, 111, 110, 100]⟩ := by
  intro s hs
  obtain ⟨i, hi, rfl⟩ := List.mem_map.1 hs
  have hi := List.mem_range.1 hi
  have h1 : ∀ i : Fin 20, File.okLine (lnS i.val) = true ∧ (lnS i.val).size ≤ 40 ∧ lnS i.val ≠ ⟨#[102, 105, 114, 115, 116]⟩ ∧ lnS i.val ≠ ⟨#[115, 101, 99, 111, 110, 100]⟩ := by decide +kernel
  exact h1 ⟨i, by omega⟩
theorem check_of {xs : List ByteArray} (hl : xs.length ≤ 24) (h : ∀ s ∈ xs, File.okLine s = true ∧ s.size ≤ 40) : File.check xs = 0 := by
  unfold File.check File.lined
  rw [if_neg (by omega), if_pos (List.all_eq_true.2 fun s hs => by have := (h s hs).2; simp only [File.wide, decide_eq_true_eq]; omega), if_pos (List.all_eq_true.2 fun s hs => (h s hs).1)]
abbrev fst_ : ByteArray := ⟨#[102, 105, 114, 115, 116]⟩
abbrev snd_ : ByteArray := ⟨#[115, 101, 99, 111, 110, 100]⟩
theorem mem_set_ {α : Type} {l : List α} {i : Nat} {x s : α} (h : s ∈ l.set i x) : s ∈ l ∨ s = x := by
  rcases List.mem_or_eq_of_mem_set h with h | h
  · exact .inl h
  · exact .inr h
/-- What the joins of two lines come to. -/
theorem joined_plain {n i k : Nat} (hn : n ≤ 20) (hi : i < n) (hk : k < n) :
    File.joinAns (lns n) ((lns n).set i fst_) ((lns n).set k snd_) = (0, if i ≤ k + 1 ∧ k ≤ i + 1 then (lns n, [(min i k, max i k + 1)]) else (((lns n).set i fst_).set k snd_, [])) := by
  have hl := lns_len n
  have hm := lns_mem hn
  have hx : fst_ ∉ lns n := fun h => (hm _ h).2.2.1 rfl
  have hy : snd_ ∉ lns n := fun h => (hm _ h).2.2.2 rfl
  have c0 : File.check (lns n) = 0 := check_of (by omega) fun s hs => ⟨(hm s hs).1, (hm s hs).2.1⟩
  have c1 : ∀ (j : Nat) (x : ByteArray), File.okLine x = true ∧ x.size ≤ 40 → File.check ((lns n).set j x) = 0 := fun j x hx => check_of (by rw [List.length_set]; omega) fun s hs => by
    rcases mem_set_ hs with h | rfl
    · exact ⟨(hm s h).1, (hm s h).2.1⟩
    · exact hx
  have he : errOf ((lns n).set i fst_) ((lns n).set k snd_) = 0 := by
    unfold errOf
    rw [if_pos (c1 _ _ (by decide))]
    exact c1 _ _ (by decide)
  have hj : File.join (lns n) ((lns n).set i fst_) ((lns n).set k snd_) = if i ≤ k + 1 ∧ k ≤ i + 1 then (lns n, [(min i k, max i k + 1)]) else (((lns n).set i fst_).set k snd_, []) := by
    by_cases hik : i ≤ k
    · rw [File.join_ones (lns_nodup hn) (by omega) (by omega) hx hy (by decide) hik]
      by_cases h1 : k ≤ i + 1
      · rw [if_pos h1, if_pos ⟨by omega, h1⟩, Nat.min_eq_left hik, Nat.max_eq_right hik]
      · rw [if_neg h1, if_neg (by omega)]
    · rw [File.join_swap, File.join_ones (lns_nodup hn) (by omega) (by omega) hy hx (by decide) (by omega)]
      by_cases h1 : i ≤ k + 1
      · rw [if_pos h1, if_pos ⟨h1, by omega⟩, Nat.min_eq_right (by omega), Nat.max_eq_left (by omega)]
      · rw [if_neg h1, if_neg (by omega), List.set_comm _ _ (by omega)]
  unfold File.joinAns
  rw [if_neg (by simp [c0]), if_neg (by simp [he]), hj]
  split
  · rw [if_neg (by simp only; omega)]
  · rw [if_neg (by simp only [List.length_set]; omega)]
theorem own0 {α : Type} {E : Enc α} {e : TypeId} {B : Nat} {w : World} {v : Value} {xs : List α} (h : Own E e B w v xs) (hne : xs ≠ []) : ∃ g c, v = .slice (some ⟨g, 0, none⟩) xs.length c ∧ xs.length ≤ c ∧ B ≤ g ∧ ∃ cs, Blk w g e cs := by
  rcases h.2 with ⟨_, hn⟩ | ⟨g, cap, cur, rfl, hb, hg, hc, _⟩
  · exact absurd (List.eq_nil_of_length_eq_zero hn) hne
  · exact ⟨g, cap, rfl, hc, hb, cur, hg⟩
theorem setS {e : TypeId} {B : Nat} {w : World} {g n c : Nat} {xs : List ByteArray} (h : Own strE e B w (.slice (some ⟨g, 0, none⟩) n c) xs) {k : Nat} (hk : k < xs.length) (y : ByteArray) : Own strE e B (w.setCell ⟨g, k, none⟩ (.string y)) (.slice (some ⟨g, 0, none⟩) n c) (xs.set k y) := by
  have := Own.setAt h (k := k) (j := 0) (x := xs[k]) (y := y) (u := .string y) (List.getElem?_eq_getElem hk) rfl (by decide)
  simpa [strE] using this
theorem cellS {e : TypeId} {B : Nat} {w : World} {g n c : Nat} {xs : List ByteArray} (h : Own strE e B w (.slice (some ⟨g, 0, none⟩) n c) xs) {k : Nat} (hk : k < xs.length) : ∃ x, w.cell? ⟨g, k, none⟩ = some (.string x) ∧ (∀ o, w.frozen? ⟨g, o, none⟩ = false) ∧ g < w.heap.size := by
  have hg := (h.lt g rfl).2
  obtain ⟨b, off, x, hA, _, _, hc⟩ := Sl.atS h.sl hk
  cases hA
  rw [Nat.zero_add] at hc
  rcases h.2 with ⟨hv, _⟩ | ⟨g', cap, cur, hv, _, hB, _⟩
  · cases hv
  · cases hv
    exact ⟨x, hc, Blk.frozen (t := e) (cs := cur) hB, hg⟩
theorem Own.set1 {e : TypeId} {B : Nat} {w : World} {v : Value} {xs : List ByteArray} (h : Own strE e B w v xs) {g o : Nat} {u : Value} (hne : v.ownBlock ≠ some g) : Own strE e B (w.setCell ⟨g, o, none⟩ u) v xs :=
  h.keep (Only.set_ g o w u).below.size fun b hb => (Only.set_ g o w u).other b (h.lt b hb).2 fun e => hne (by rw [hb, e])
theorem ownb {g n c : Nat} {b : Nat} (h : g ≠ b) : (Value.slice (some ⟨g, 0, none⟩) n c).ownBlock ≠ some b := fun e => h (by simpa [Value.ownBlock] using e)
theorem from920 (g : Nat) (w : World) (h : IsSpool (g + 1) w g 0) : Calls Tryd.prog 19 #[.pointer (some ⟨g, 0, none⟩), .int .i64 9, .int .i64 20] w fun e w' => ∃ r : Nat, e = .returned (iv r) ∧ 9 ≤ r ∧ r ≤ 20 ∧ Only g w w' := by
  have := from_spec (g + 1) w g 0 9 20 h (by decide) (by decide) (by decide)
  refine this.mono ?_
  rintro e w' ⟨r, rfl, h1, h2, _, h3⟩
  exact ⟨r, rfl, h1, h2, h3⟩
set_option maxHeartbeats 4000000 in
theorem joined_law (A : Option Addr) (bs : List Int) (c : Nat) (one two : Nat) (w : World) (hs : Sl byteE w A bs) (ho : one ≤ 255) (ht2 : two ≤ 255) (ht : Tab w) :
    Calls Tryd.prog 5 #[.slice A bs.length c, .int .u8 (one : Int), .int .u8 (two : Int)] w fun e w' => e = .returned (.bool true) ∧ Below w.heap.size w w' := by
  have HT := Lib.hid ht
  clear ht
  go_enter Tryd.func5, Tryd.ntmps5
  go_wp2_with fail
  refine (wound_spec A bs c w hs).mono ?_
  rintro e w1 ⟨_, rfl, rfl, hsp1, hb1⟩
  go_wp2_with fail
  refine (from920 w.heap.size w1 hsp1).mono ?_
  rintro e w2 ⟨n, rfl, hn9, hn20, ho2⟩
  have hz1 := hb1.size
  have hb02 : Below w.heap.size w w2 := hb1.trans (ho2.below.mono (Nat.le_refl _))
  clear hsp1 hb1 ho2 hs
  go_wp2_with fail
  go_loopw [8, 9, 22] (fun v _ i wr => ∃ (j : Nat), j ≤ n ∧ i = iv j ∧ Hid (Own strE 9 w2.heap.size wr v (lns j)) ∧ Below w2.heap.size w2 wr) (fun _ _ i _ => n - (intOf i).toNat)
  case atStart => exact ⟨0, by omega, rfl, Own.nil, Below.refl _ _⟩
  case round =>
    obtain ⟨j, hj, rfl, HO, hbr⟩ := hrel
    by_cases hlt : j < n
    · obtain ⟨A0, c0, rfl, _, _⟩ := HO.out.form
      have hji : (j : Int) < (n : Int) := by omega
      have e1 : IntKind.i64.wrap (97 + (j : Int)) = 97 + (j : Int) := IntWalk.i64_in _ (by omega)
      have e2 : IntKind.u8.wrap (97 + (j : Int)) = 97 + (j : Int) := IntWalk.u8_in _ (by omega)
      have hb3 : Below wr.heap.size wr (wr.alloc (.cells #[.int .u8 (97 + (j : Int))] 5)) := (Below.refl _ _).alloc (Nat.le_refl _) _
      have hcv := conv_run (c := 1) (Sl.fresh byteE wr 5 #[.int .u8 (97 + (j : Int))] [97 + (j : Int)] rfl (by simp [maxLen]))
      simp only [List.length_singleton] at hcv
      have HO3 := Lib.hid (HO.out.below hb3)
      have hz3 := Nat.le_trans hbr.size hb3.size
      have hll : (lns j).length + 1 ≤ big := by rw [lns_len]; unfold big; omega
      clear HO
      go_wp2_with (at_builtin; refine wpApp1G strE tyStrs rfl _ _ rfl HO3.out (lnS j) rfl rfl (G := wr.heap.size + 1) (by simp) rfl hz3 hll ?_; intro v5 w5 hown5 hb5 hk5)
      go_roundw
      case rel => exact ⟨j + 1, by omega, by go_num, by rw [lns_succ]; exact hown5, (hbr.trans (hb3.mono hbr.size)).trans hb5⟩
      case measure => simp [intOf]; omega
    · obtain rfl : j = n := by omega
      have hm1 : Int.tmod (one : Int) (j : Int) = ((one % j : Nat) : Int) := by rw [Int.tmod_eq_emod_of_nonneg (by omega)]; rfl
      have hm2 : Int.tmod (two : Int) (j : Int) = ((two % j : Nat) : Int) := by rw [Int.tmod_eq_emod_of_nonneg (by omega)]; rfl
      have hi : one % j < j := Nat.mod_lt _ (by omega)
      have hk : two % j < j := Nat.mod_lt _ (by omega)
      have hb0r : Below w.heap.size w wr := hb02.next hbr (Nat.le_refl _)
      have HANS := Lib.hid (joined_plain hn20 hi hk)
      have hO := HO.out
      obtain ⟨A8, c8, rfl, hc8, _⟩ := hO.form
      rw [lns_len] at hO hc8
      have HS8 := Lib.hid hO.sl
      have hn0 : ¬ (j : Int) = 0 := by omega
      have hn1 : (0 : Int) < (j : Int) := by omega
      have ew1 : IntKind.i64.wrap (one : Int) = (one : Int) := IntWalk.i64_in _ (by omega)
      have ew2 : IntKind.i64.wrap (two : Int) = (two : Int) := IntWalk.i64_in _ (by omega)
      rw [lns_len]
      clear HO hO
      go_upto_region 8 with fail
      go_quiet (fail)
      have hqd : Below w.heap.size w (wr.drewN nq) := ⟨hb0r.os, hb0r.tape, hb0r.output, hb0r.size, hb0r.block⟩
      have HS9 : Hid (Sl strE (wr.drewN nq) A8 (lns j)) := Lib.hid (HS8.out.below ⟨rfl, rfl, rfl, Nat.le_refl _, fun _ _ => rfl⟩)
      generalize wr.drewN nq = w3 at *
      have hne : lns j ≠ [] := fun h => by have := lns_len j; rw [h] at this; simp at this; omega
      have HCL : Hid (∀ W, Below w3.heap.size w3 W → Calls Tryd.prog 20 #[.slice A8 j c8] W fun e w' => ∃ g c, e = .returned (.slice (some ⟨g, 0, none⟩) j c) ∧ j ≤ c ∧ Own strE 9 W.heap.size w' (.slice (some ⟨g, 0, none⟩) j c) (lns j) ∧ Below W.heap.size W w') := Lib.hid fun W hW => by
        have := cloneS A8 (lns j) c8 W (by rw [lns_len]; unfold big; omega) (HS9.out.below hW)
        rw [lns_len] at this
        refine this.mono ?_
        rintro e w' ⟨v, rfl, ho, hb⟩
        obtain ⟨g, c, rfl, hc, _, _⟩ := own0 ho hne
        rw [lns_len] at ho hc ⊢
        exact ⟨g, c, rfl, hc, ho, hb⟩
      obtain ⟨i, hie⟩ : ∃ i, i = one % j := ⟨_, rfl⟩
      obtain ⟨k, hke⟩ : ∃ k, k = two % j := ⟨_, rfl⟩
      rw [← hie, ← hke] at HANS
      rw [← hie] at hi
      rw [← hke] at hk
      have hc1 : (one : Int) % (j : Int) = (i : Int) := by rw [hie]; rfl
      have hc2 : (two : Int) % (j : Int) = (k : Int) := by rw [hke]; rfl
      rw [hc1, hc2]
      clear hc1 hc2
      clear hie hke hm1 hm2 HS8 hb0r hbr
      go_wp2_with fail
      refine (HCL.out w3 (Below.refl _ _)).mono ?_
      rintro e w4 ⟨ga, ca, rfl, hca, hoa, hb4⟩
      go_wp2_with fail
      refine (HCL.out w4 hb4).mono ?_
      rintro e w5 ⟨gb, cb, rfl, hcb, hob, hb5⟩
      have hb35 := hb4.next hb5 (Nat.le_refl _)
      have hoa5 := hoa.below hb5
      go_wp2_with fail
      refine (HCL.out w5 hb35).mono ?_
      rintro e w6 ⟨gc, cc, rfl, hcc, hoc, hb6⟩
      have hab : ga ≠ gb := by have h1 := (hoa.lt ga rfl).2; have h2 := (hob.lt gb rfl).1; omega
      have hac : ga ≠ gc := by have h1 := (hoa5.lt ga rfl).2; have h2 := (hoc.lt gc rfl).1; omega
      have hbc : gb ≠ gc := by have h1 := (hob.lt gb rfl).2; have h2 := (hoc.lt gc rfl).1; omega
      have hoa6 := hoa5.below hb6
      have hob6 := hob.below hb6
      have hb36 := hb35.next hb6 (Nat.le_refl _)
      have hga := (hoa6.lt ga rfl).1
      have hgb : w3.heap.size ≤ gb := Nat.le_trans hb4.size (hob6.lt gb rfl).1
      have hgc : w3.heap.size ≤ gc := Nat.le_trans hb35.size (hoc.lt gc rfl).1
      have hil : i < (lns j).length := by rw [lns_len]; exact hi
      have hkl : k < (lns j).length := by rw [lns_len]; exact hk
      obtain ⟨xa, ra1, ra2, ra3⟩ := cellS hoa6 hil
      have hoa7 := setS hoa6 hil fst_
      have hob7 := Own.set1 (o := i) (u := .string fst_) hob6 (ownb (Ne.symm hab))
      have hoc7 := Own.set1 (o := i) (u := .string fst_) hoc (ownb (Ne.symm hac))
      obtain ⟨xb, rb1, rb2, rb3⟩ := cellS hob7 hkl
      have hoa8 := Lib.hid (Own.set1 (o := k) (u := .string snd_) hoa7 (ownb hab))
      have hob8 := Lib.hid (setS hob7 hkl snd_)
      have hoc8 := Lib.hid (Own.set1 (o := k) (u := .string snd_) hoc7 (ownb (Ne.symm hbc)))
      have hb38 := Lib.hid ((hb36.setCell (p := ⟨ga, i, none⟩) hga (.string fst_)).setCell (p := ⟨gb, k, none⟩) hgb (.string snd_))
      have hii : (i : Int) < (j : Int) := by omega
      have hki : (k : Int) < (j : Int) := by omega
      clear hoa hob hoa5 hoa6 hob6 hoc hoa7 hob7 hoc7 hb4 hb5 hb6 hb35 hb36 HCL
      go_upto_region 11 with fail
      generalize (w6.setCell ⟨ga, i, none⟩ (.string fst_)).setCell ⟨gb, k, none⟩ (.string snd_) = w8 at *
      clear ra1 ra2 ra3 rb1 rb2 rb3
      have hS8 := HS9.out.below hb38.out
      have HS8' := Lib.hid hS8
      have HJN : Hid (Calls Tryd.prog 21 #[.slice A8 j c8, .slice (some ⟨ga, 0, none⟩) j ca, .slice (some ⟨gb, 0, none⟩) j cb] w8 fun e w' => ∃ v0 v1, e = .returned (.tuple #[v0, v1, iv 0]) ∧ Own strE 9 w8.heap.size w' v0 (if i ≤ k + 1 ∧ k ≤ i + 1 then lns j else ((lns j).set i fst_).set k snd_) ∧ Own pairE 44 w8.heap.size w' v1 (if i ≤ k + 1 ∧ k ≤ i + 1 then [(min i k, max i k + 1)] else []) ∧ Below w8.heap.size w8 w') := Lib.hid (by
        have hbj : j ≤ big := by unfold big; omega
        have := Join_spec A8 (lns j) c8 (some ⟨ga, 0, none⟩) ((lns j).set i fst_) ca (some ⟨gb, 0, none⟩) ((lns j).set k snd_) cb w8 (by rw [lns_len]; exact hbj) (by rw [List.length_set, lns_len]; exact hbj) (by rw [List.length_set, lns_len]; exact hbj) (by rw [lns_len]; exact hc8) (by rw [List.length_set, lns_len]; exact hca) (by rw [List.length_set, lns_len]; exact hcb) hS8 hoa8.out.sl hob8.out.sl
        rw [HANS.out] at this
        simp only [List.length_set, lns_len] at this
        refine this.mono ?_
        rintro e w' ⟨v0, v1, rfl, h0, h1, hb⟩
        refine ⟨v0, v1, rfl, ?_, ?_, hb⟩
        · split
          · rename_i h; rw [if_pos h] at h0; exact h0
          · rename_i h; rw [if_neg h] at h0; exact h0
        · split
          · rename_i h; rw [if_pos h] at h1; exact h1
          · rename_i h; rw [if_neg h] at h1; exact h1)
      have hb08 : Below w.heap.size w w8 := hqd.next hb38.out (Nat.le_refl _)
      have ei1 : IntKind.i64.wrap ((i : Int) - (k : Int)) = (i : Int) - (k : Int) := IntWalk.i64_in _ (by omega)
      have ei2 : IntKind.i64.wrap ((k : Int) - (i : Int)) = (k : Int) - (i : Int) := IntWalk.i64_in _ (by omega)
      have HAW := Lib.hid (fun W (h : Below w.heap.size w W) => awake_spec W (HT.out.below h))
      have hgcw : w.heap.size ≤ gc := Nat.le_trans hqd.size hgc
      clear hS8 HANS hoa8 hob8 hqd hb38
      by_cases hc : i ≤ k + 1 ∧ k ≤ i + 1
      · rw [if_pos hc, if_pos hc] at HJN
        have hi1 : ¬ (1 : Int) < (i : Int) - (k : Int) := by omega
        have hi2 : ¬ (1 : Int) < (k : Int) - (i : Int) := by omega
        clear hc hoc8
        go_wp2_with fail
        refine HJN.out.mono ?_
        rintro e w9 ⟨v0, v1, rfl, h0, h1, hb9⟩
        obtain ⟨A0, c0, rfl, _, _⟩ := h0.form
        obtain ⟨A1, c1, rfl, _, _⟩ := h1.form
        have HEQ : Hid (Calls Tryd.prog 15 #[.slice A0 j c0, .slice A8 j c8] w9 fun e w' => e = .returned (.bool true) ∧ Below w9.heap.size w9 w') := Lib.hid (by
          have := equalS A0 (lns j) c0 A8 (lns j) c8 w9 (by rw [lns_len]; unfold big; omega) h0.sl (by rw [lns_len]; unfold big; omega) (HS8'.out.below hb9)
          rw [decide_eq_true rfl, lns_len] at this
          exact this)
        rw [lns_len]
        obtain ⟨p, hp⟩ : ∃ p, p = min i k := ⟨_, rfl⟩
        obtain ⟨q, hq⟩ : ∃ q, q = max i k := ⟨_, rfl⟩
        have hmn : min (i : Int) (k : Int) = (p : Int) := by omega
        have hmx : max (i : Int) (k : Int) = (q : Int) := by omega
        have hq20 : q ≤ 20 := by omega
        rw [← hp, ← hq] at h1
        clear h0 HJN hp hq
        go_wp2_with fail
        refine HEQ.out.mono ?_
        rintro e w10 ⟨rfl, hb10⟩
        have HSP : Hid (Calls Tryd.prog 22 #[.slice A1 1 c1, .slice (some ⟨w10.heap.size, 0, none⟩) 1 1] (w10.alloc (.cells #[iv (p : Int), iv ((q : Int) + 1)] 44)) fun e w' => e = .returned (.bool true) ∧ Below (w10.alloc (.cells #[iv (p : Int), iv ((q : Int) + 1)] 44)).heap.size (w10.alloc (.cells #[iv (p : Int), iv ((q : Int) + 1)] 44)) w') := Lib.hid (by
          have hA := Sl.fresh pairE w10 44 #[iv (p : Int), iv ((q : Int) + 1)] [(p, q + 1)] rfl (by simp [maxLen])
          have := equalSp A1 [(p, q + 1)] c1 (some ⟨w10.heap.size, 0, none⟩) [(p, q + 1)] 1 (w10.alloc (.cells #[iv (p : Int), iv ((q : Int) + 1)] 44)) (by simp [big]) ((h1.sl.below hb10).alloc _) (by simp [big]) hA
          rw [decide_eq_true rfl] at this
          exact this)
        have hbx : Below w8.heap.size w8 (w10.alloc (.cells #[iv (p : Int), iv ((q : Int) + 1)] 44)) := (hb9.next hb10 (Nat.le_refl _)).alloc (Nat.le_trans hb9.size hb10.size) _
        clear h1 HEQ
        go_wp2_with fail
        refine HSP.out.mono ?_
        rintro e w11 ⟨rfl, hb11⟩
        have hbz := hbx.next hb11 (Nat.le_refl _)
        go_wp2_with fail
        refine (HAW.out w11 (hb08.next hbz (Nat.le_refl _))).mono ?_
        rintro e w12 ⟨rfl, hb12⟩
        go_wp2_with fail
        go_ret
        exact ⟨rfl, hb08.next (hbz.next hb12 (Nat.le_refl _)) (Nat.le_refl _)⟩
      · rw [if_neg hc, if_neg hc] at HJN
        have hne2 : i ≠ k := by omega
        obtain ⟨xc, rc1, rc2, rc3⟩ := cellS (hoc8.out) hil
        -- the lines wanted
        obtain ⟨X, hX⟩ : ∃ X, X = ((lns j).set i fst_).set k snd_ := ⟨_, rfl⟩
        have hXl : X.length = j := by rw [hX, List.length_set, List.length_set, lns_len]
        rw [← hX] at HJN
        have HX := Lib.hid hX
        clear hX
        by_cases hd : k + 1 < i
        · have hi1 : (1 : Int) < (i : Int) - (k : Int) := by omega
          clear hc hd
          go_wp2_with fail
          refine HJN.out.mono ?_
          rintro e w9 ⟨v0, v1, rfl, h0, h1, hb9⟩
          obtain ⟨A0, c0, rfl, _, _⟩ := h0.form
          obtain ⟨A1, c1, rfl, _, _⟩ := h1.form
          rw [hXl] at h0 ⊢
          have hoc9 := hoc8.out.below hb9
          obtain ⟨xd, rd1, rd2, rd3⟩ := cellS hoc9 hil
          have hoc10 := setS hoc9 hil fst_
          obtain ⟨xe, re1, re2, re3⟩ := cellS hoc10 (k := k) (by rw [List.length_set]; exact hkl)
          have hoc11 := setS hoc10 (k := k) (by rw [List.length_set]; exact hkl) snd_
          rw [← HX.out] at hoc11
          have hng : (Value.slice A0 j c0).ownBlock ≠ some gc := fun e => by
            have := (h0.lt gc e).1
            omega
          have h0b := Own.set1 (o := k) (u := .string snd_) (Own.set1 (o := i) (u := .string fst_) h0 hng) hng
          have hbw := ((hb08.next hb9 (Nat.le_refl _)).setCell (p := ⟨gc, i, none⟩) hgcw (.string fst_)).setCell (p := ⟨gc, k, none⟩) hgcw (.string snd_)
          have HEQ : Hid (Calls Tryd.prog 15 #[.slice A0 j c0, .slice (some ⟨gc, 0, none⟩) j cc] ((w9.setCell ⟨gc, i, none⟩ (.string fst_)).setCell ⟨gc, k, none⟩ (.string snd_)) fun e w' => e = .returned (.bool true) ∧ Below ((w9.setCell ⟨gc, i, none⟩ (.string fst_)).setCell ⟨gc, k, none⟩ (.string snd_)).heap.size ((w9.setCell ⟨gc, i, none⟩ (.string fst_)).setCell ⟨gc, k, none⟩ (.string snd_)) w') := Lib.hid (by
            have := equalS A0 X c0 (some ⟨gc, 0, none⟩) X cc ((w9.setCell ⟨gc, i, none⟩ (.string fst_)).setCell ⟨gc, k, none⟩ (.string snd_)) (by rw [hXl]; unfold big; omega) h0b.sl (by rw [hXl]; unfold big; omega) hoc11.sl
            rw [decide_eq_true rfl, hXl] at this
            exact this)
          clear h0 h0b hoc9 hoc10 hoc11 HJN h1
          go_upto_region 16 with fail
          generalize (w9.setCell ⟨gc, i, none⟩ (.string fst_)).setCell ⟨gc, k, none⟩ (.string snd_) = w10 at *
          clear rc1 rc2 rc3 rd1 rd2 rd3 re1 re2 re3 hng
          go_wp2_with fail
          refine HEQ.out.mono ?_
          rintro e w11 ⟨rfl, hb11⟩
          have hbz := hbw.next hb11 (Nat.le_refl _)
          go_wp2_with fail
          refine (HAW.out w11 hbz).mono ?_
          rintro e w12 ⟨rfl, hb12⟩
          go_wp2_with fail
          go_ret
          exact ⟨rfl, hbz.next hb12 (Nat.le_refl _)⟩

        · have hi1 : ¬ (1 : Int) < (i : Int) - (k : Int) := by omega
          have hi2 : (1 : Int) < (k : Int) - (i : Int) := by omega
          clear hc hd
          go_wp2_with fail
          refine HJN.out.mono ?_
          rintro e w9 ⟨v0, v1, rfl, h0, h1, hb9⟩
          obtain ⟨A0, c0, rfl, _, _⟩ := h0.form
          obtain ⟨A1, c1, rfl, _, _⟩ := h1.form
          rw [hXl] at h0 ⊢
          have hoc9 := hoc8.out.below hb9
          obtain ⟨xd, rd1, rd2, rd3⟩ := cellS hoc9 hil
          have hoc10 := setS hoc9 hil fst_
          obtain ⟨xe, re1, re2, re3⟩ := cellS hoc10 (k := k) (by rw [List.length_set]; exact hkl)
          have hoc11 := setS hoc10 (k := k) (by rw [List.length_set]; exact hkl) snd_
          rw [← HX.out] at hoc11
          have hng : (Value.slice A0 j c0).ownBlock ≠ some gc := fun e => by
            have := (h0.lt gc e).1
            omega
          have h0b := Own.set1 (o := k) (u := .string snd_) (Own.set1 (o := i) (u := .string fst_) h0 hng) hng
          have hbw := ((hb08.next hb9 (Nat.le_refl _)).setCell (p := ⟨gc, i, none⟩) hgcw (.string fst_)).setCell (p := ⟨gc, k, none⟩) hgcw (.string snd_)
          have HEQ : Hid (Calls Tryd.prog 15 #[.slice A0 j c0, .slice (some ⟨gc, 0, none⟩) j cc] ((w9.setCell ⟨gc, i, none⟩ (.string fst_)).setCell ⟨gc, k, none⟩ (.string snd_)) fun e w' => e = .returned (.bool true) ∧ Below ((w9.setCell ⟨gc, i, none⟩ (.string fst_)).setCell ⟨gc, k, none⟩ (.string snd_)).heap.size ((w9.setCell ⟨gc, i, none⟩ (.string fst_)).setCell ⟨gc, k, none⟩ (.string snd_)) w') := Lib.hid (by
            have := equalS A0 X c0 (some ⟨gc, 0, none⟩) X cc ((w9.setCell ⟨gc, i, none⟩ (.string fst_)).setCell ⟨gc, k, none⟩ (.string snd_)) (by rw [hXl]; unfold big; omega) h0b.sl (by rw [hXl]; unfold big; omega) hoc11.sl
            rw [decide_eq_true rfl, hXl] at this
            exact this)
          clear h0 h0b hoc9 hoc10 hoc11 HJN h1
          go_upto_region 16 with fail
          generalize (w9.setCell ⟨gc, i, none⟩ (.string fst_)).setCell ⟨gc, k, none⟩ (.string snd_) = w10 at *
          clear rc1 rc2 rc3 rd1 rd2 rd3 re1 re2 re3 hng
          go_wp2_with fail
          refine HEQ.out.mono ?_
          rintro e w11 ⟨rfl, hb11⟩
          have hbz := hbw.next hb11 (Nat.le_refl _)
          go_wp2_with fail
          refine (HAW.out w11 hbz).mono ?_
          rintro e w12 ⟨rfl, hb12⟩
          go_wp2_with fail
          go_ret
          exact ⟨rfl, hbz.next hb12 (Nat.le_refl _)⟩
end Fl
end Go.Proofs.YtkhmkpcihphkcaaDoor
