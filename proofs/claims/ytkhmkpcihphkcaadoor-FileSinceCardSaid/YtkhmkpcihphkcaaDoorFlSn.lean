/- Package file: the versions in which lines came, of files that are right. Conditions: few versions. -/
import Derived.Test.YtkhmkpcihphkcaaDoorRepI
import Derived.Test.YtkhmkpcihphkcaaDoorFlJ
import Derived.Test.YtkhmkpcihphkcaaDoorFlK
import Derived.Test.YtkhmkpcihphkcaaDoorFree
import Derived.Test.YtkhmkpcihphkcaaDoorFlW
set_option linter.unusedVariables false
set_option linter.unusedSimpArgs false
namespace Go.Proofs.YtkhmkpcihphkcaaDoor
namespace File
def putGo (old : List Int) (acc : List Int) (l : List (Nat × Nat)) : List Int := l.foldl (fun acc p => acc.set p.2 (old.getD p.1 0)) acc
/-- For each line of the v-th file the version in which it came. -/
def sinceAt (V : List (List ByteArray)) : Nat → List Int
  | 0 => List.replicate (V.getD 0 []).length 0
  | v + 1 => putGo (sinceAt V v) (List.replicate (V.getD (v + 1) []).length ((v + 1 : Nat) : Int)) (common (V.getD v []) (V.getD (v + 1) []))
theorem put_len (old : List Int) : ∀ (l : List (Nat × Nat)) (acc : List Int), (putGo old acc l).length = acc.length
  | [], _ => rfl
  | p :: l, acc => by
    show (putGo old (acc.set p.2 (old.getD p.1 0)) l).length = _
    rw [put_len old l, List.length_set]
theorem since_len (V : List (List ByteArray)) : ∀ v, (sinceAt V v).length = (V.getD v []).length
  | 0 => by simp [sinceAt]
  | v + 1 => by
    unfold sinceAt
    rw [put_len, List.length_replicate]
theorem put_snoc (old acc : List Int) (l : List (Nat × Nat)) (p : Nat × Nat) : putGo old acc (l ++ [p]) = (putGo old acc l).set p.2 (old.getD p.1 0) := by
  unfold putGo
  rw [List.foldl_append]; rfl
theorem since_take (V : List (List ByteArray)) (n : Nat) : ∀ v, v < n → sinceAt (V.take n) v = sinceAt V v
  | 0, h => by
    unfold sinceAt
    have : (V.take n).getD 0 [] = V.getD 0 [] := by simp [List.getD_eq_getElem?_getD, List.getElem?_take, h]
    rw [this]
  | v + 1, h => by
    have ih := since_take V n v (by omega)
    have e1 : (V.take n).getD v [] = V.getD v [] := by simp [List.getD_eq_getElem?_getD, List.getElem?_take, show v < n by omega]
    have e2 : (V.take n).getD (v + 1) [] = V.getD (v + 1) [] := by simp [List.getD_eq_getElem?_getD, List.getElem?_take, h]
    unfold sinceAt
    rw [ih, e1, e2]
theorem common_at {a b : List ByteArray} {p : Nat × Nat} (h : p ∈ common a b) : p.1 < a.length ∧ p.2 < b.length := by
  have : ∀ (l : List (Nat × Nat)) (i j : Nat), Pairs a b i j l → p ∈ l → p.1 < a.length ∧ p.2 < b.length := by
    intro l
    induction l with
    | nil => intro i j _ h; cases h
    | cons q r ih =>
      intro i j ⟨_, _, ⟨h1, h2, _⟩, h4⟩ hm
      rcases List.mem_cons.1 hm with rfl | hm
      · exact ⟨h1, h2⟩
      · exact ih _ _ h4 hm
  exact this _ 0 0 (common_pairs a b) h
end File
namespace Fl
open Go.RowKit
set_option maxRecDepth 100000
theorem ownI {e : TypeId} {B : Nat} {w : World} {v : Value} {xs : List Int} (h : Own intE e B w v xs) {k : Nat} (hk : k < xs.length) : ∃ g c x, v = .slice (some ⟨g, 0, none⟩) xs.length c ∧ B ≤ g ∧ g < w.heap.size ∧ xs[k]? = some x ∧ w.cell? ⟨g, k, none⟩ = some (iv x) ∧ ∀ o, w.frozen? ⟨g, o, none⟩ = false := by
  rcases h.2 with ⟨_, hn⟩ | ⟨g, cap, cur, rfl, hb, hg, hc, _⟩
  · have := List.eq_nil_of_length_eq_zero hn; subst this; simp at hk
  · obtain ⟨b, off, x, hA, _, hx, hcell⟩ := Sl.atI h.sl hk
    cases hA
    rw [Nat.zero_add] at hcell
    exact ⟨g, cap, x, rfl, hb, Blk.lt (t := e) (cs := cur) hg, hx, hcell, Blk.frozen (t := e) (cs := cur) hg⟩
theorem setI {e : TypeId} {B : Nat} {w : World} {g n c : Nat} {xs : List Int} (h : Own intE e B w (.slice (some ⟨g, 0, none⟩) n c) xs) {k : Nat} (hk : k < xs.length) (y : Int) : Own intE e B (w.setCell ⟨g, k, none⟩ (iv y)) (.slice (some ⟨g, 0, none⟩) n c) (xs.set k y) := by
  have := Own.setAt h (k := k) (j := 0) (x := xs[k]) (y := y) (u := iv y) (List.getElem?_eq_getElem hk) rfl (by decide)
  simpa [intE] using this
set_option maxHeartbeats 8000000 in
theorem since_spec (A : Option Addr) (rs : List (Rw ByteArray)) (c : Nat) (w : World) (n : Nat) (hn : rs.length = n + 1) (hm : n ≤ 100) (hs : Sl (rwE ByteArray) w A rs) (hr : RowsR strE w rs) (hg : ∀ r ∈ rs, Good r.xs) :
    Calls Tryd.prog 47 #[.slice A rs.length c] w fun e w' => ∃ v, e = .returned (.tuple #[v, iv 0]) ∧ Own intE 3 w.heap.size w' v (File.sinceAt (rs.map Rw.xs) n) ∧ Below w.heap.size w w' := by
  obtain ⟨V, hV⟩ : ∃ V, V = rs.map Rw.xs := ⟨_, rfl⟩
  rw [← hV]
  have HV : Hid (∀ (k : Nat) (x : Rw ByteArray), rs[k]? = some x → V.getD k [] = x.xs) := Lib.hid fun k x h => by rw [hV, List.getD_eq_getElem?_getD, List.getElem?_map, h]; rfl
  have HG := Lib.hid hg
  have HRR := Lib.hid fun W (h : Below w.heap.size w W) => hr.below h
  have hm0 : ((rs.length : Int) == 0) = false := by simp; intro h; rw [h] at hn; simp at hn
  have hrl : rs.length ≤ 101 := by omega
  have HN := Lib.hid hn
  clear hV hg hr hn
  go_enter Tryd.func47, Tryd.ntmps47
  go_wp2_with fail
  go_loopw [5, 6, 15] (fun _ _ i wr => ∃ k : Nat, k ≤ rs.length ∧ i = iv k ∧ Below w.heap.size w wr) (fun _ _ i _ => rs.length - (intOf i).toNat)
  case atStart => exact ⟨0, by omega, rfl, Below.refl _ _⟩
  case round =>
    obtain ⟨k, hk, rfl, hbr⟩ := hrel
    by_cases hlt : k < rs.length
    · have hki : (k : Int) < (rs.length : Int) := by omega
      obtain ⟨b, off, x, rfl, hb0, hx, hc0⟩ := Sl.atRw (hs.below hbr) hlt
      have hgx := HG.out x (mem_at hx)
      have hxr := HRR.out _ hbr x (mem_at hx)
      have HC := Lib.hid (check_spec x.A x.xs x.c wr (by have := hgx.many; unfold big; omega) hxr.1)
      rw [check_of_good hgx] at HC
      clear hx hgx hxr
      go_wp2_with fail
      refine HC.out.mono ?_
      rintro _ w1 ⟨rfl, hb1⟩
      go_wp2_with fail
      go_roundw
      case rel => exact ⟨k + 1, by omega, by go_num, hbr.next hb1 (Nat.le_refl _)⟩
      case measure => simp [intOf]; omega
    · have hki : ¬ (k : Int) < (rs.length : Int) := by omega
      clear hk hlt
      generalize wr = w2 at *
      have hb02 := hbr
      go_wp2_with fail
      go_loopw [7, 8, 9, 10, 12, 30] (fun v _ _ _ _ i wr => ∃ k : Nat, k ≤ rs.length ∧ i = iv k ∧ Hid (Own intE 3 w2.heap.size wr v (if k = 0 then [] else File.sinceAt V (k - 1))) ∧ Below w2.heap.size w2 wr) (fun _ _ _ _ _ i _ => rs.length - (intOf i).toNat)
      case atStart => exact ⟨0, by omega, rfl, Own.nil, Below.refl _ _⟩
      case round =>
        obtain ⟨k, hk, rfl, HO, hbr⟩ := hrel
        have hb0r := hb02.next hbr (Nat.le_refl _)
        by_cases hlt : k < rs.length
        · have hki : (k : Int) < (rs.length : Int) := by omega
          obtain ⟨b, off, fr, rfl, hb0, hx, hc0⟩ := Sl.atRw (hs.below hb0r) hlt
          have hgx := HG.out fr (mem_at hx)
          have hxm := hgx.many
          have hxv := HV.out k fr hx
          have HRP := Lib.hid (repeat1_at (k : Int) fr.xs.length (wr.alloc (.cells #[iv (k : Int)] 3)) (by omega) wr.heap.size (by simp) (by simp [go_sem]))
          have hbA : Below wr.heap.size wr (wr.alloc (.cells #[iv (k : Int)] 3)) := (Below.refl _ _).alloc (Nat.le_refl _) _
          have hxr := fun W (h : Below wr.heap.size wr W) => HRR.out W (hb0r.next h (Nat.le_refl _)) fr (mem_at hx)
          by_cases hk0 : k = 0
          · have hkz : ¬ (0 : Int) < (k : Int) := by omega
            have HS0 : Hid (List.replicate fr.xs.length (k : Int) = File.sinceAt V k) := Lib.hid (by rw [hk0]; unfold File.sinceAt; rw [← hk0, hxv, hk0]; rfl)
            clear hx hxr hxv hk0
            go_wp2_with fail
            refine HRP.out.mono ?_
            rintro _ w5 ⟨v5, rfl, ho5, hb5⟩
            have hbr5 := (hbr.next hbA (Nat.le_refl _)).next hb5 (Nat.le_refl _)
            go_wp2_with fail
            go_roundw
            case rel => exact ⟨k + 1, by omega, by go_num, Lib.hid (by rw [if_neg (by omega), Nat.add_sub_cancel, ← HS0.out]; exact ho5.base (hbr.next hbA (Nat.le_refl _)).size), hbr5⟩
            case measure => simp [intOf]; omega
          · obtain ⟨q, hq⟩ : ∃ q, k = q + 1 := ⟨k - 1, by omega⟩
            have hkz : (0 : Int) < (k : Int) := by omega
            have hql : q < rs.length := by omega
            have hqli : (q : Int) < (rs.length : Int) := by omega
            have eq2 : (k : Int) - 1 = (q : Int) := by omega
            have eq3 : IntKind.i64.wrap (q : Int) = (q : Int) := IntWalk.i64_in _ (by omega)
            have eq1 : IntKind.i64.wrap ((k : Int) - 1) = (q : Int) := by rw [eq2]; exact eq3
            obtain ⟨b', off', y, hA', _, hy, hd0⟩ := Sl.atRw (hs.below hb0r) hql
            injection hA' with hA'
            injection hA' with e1 e2 _
            subst e1; subst e2
            have hgy := HG.out y (mem_at hy)
            have hym := hgy.many
            have hyv := HV.out q y hy
            have hyr := fun W (h : Below wr.heap.size wr W) => HRR.out W (hb0r.next h (Nat.le_refl _)) y (mem_at hy)
            have hOO := HO.out
            rw [if_neg hk0, show k - 1 = q by omega] at hOO
            have hSS : File.sinceAt V k = File.putGo (File.sinceAt V q) (List.replicate fr.xs.length (k : Int)) (File.common y.xs fr.xs) := by
              have hx2 : V.getD (q + 1) [] = fr.xs := by rw [← hq]; exact hxv
              rw [hq]
              show File.putGo (File.sinceAt V q) (List.replicate (V.getD (q + 1) []).length ((q + 1 : Nat) : Int)) (File.common (V.getD q []) (V.getD (q + 1) [])) = _
              rw [hx2, hyv]
            have holn : (File.sinceAt V q).length = y.xs.length := by rw [File.since_len, hyv]
            obtain ⟨S0, hS0⟩ : ∃ S0, S0 = File.sinceAt V q := ⟨_, rfl⟩
            rw [← hS0] at hOO hSS holn
            obtain ⟨L, hL⟩ : ∃ L, L = File.common y.xs fr.xs := ⟨_, rfl⟩
            have HLM : Hid (∀ p ∈ L, p.1 < S0.length ∧ p.2 < fr.xs.length) := Lib.hid fun p hp => by
              rw [holn]; rw [hL] at hp; exact File.common_at hp
            have hLl : L.length ≤ 24 := by rw [hL, File.common_length]; exact Nat.le_trans (File.lcs_most _ _) hym
            have HCM := Lib.hid fun W (h : Below wr.heap.size wr W) => common_spec y.A y.xs y.c fr.A fr.xs fr.c W hym hxm (hyr W h).1 (hxr W h).1 (fun s hs => by have := hgy.wide s hs; omega) (fun s hs => by have := hgx.wide s hs; omega)
            rw [← hL] at hSS
            simp only [← hL] at HCM
            have HSS := Lib.hid hSS
            have HOO := Lib.hid hOO
            have HKQ := Lib.hid hq
            have hd1 := (hbA.cell (p := ⟨b, off + q, none⟩) hb0).trans hd0
            clear hx hxr hxv hk0 hq hy hyv hyr hOO hSS holn hS0 hL HO
            go_wp2_with fail
            refine HRP.out.mono ?_
            rintro _ w5 ⟨v5, rfl, ho5, hb5⟩
            have hbr5 := hbA.next hb5 (Nat.le_refl _)
            have hd5 := (hb5.cell (p := ⟨b, off + q, none⟩) (Nat.lt_of_lt_of_le hb0 hbA.size)).trans hd1
            have hb5s : b < w5.heap.size := Nat.lt_of_lt_of_le (Nat.lt_of_lt_of_le hb0 hbA.size) hb5.size
            go_wp2_with fail
            refine (HCM.out _ hbr5).mono ?_
            rintro _ w6 ⟨v6, rfl, ho6, hb6⟩
            obtain ⟨A6, c6, rfl, _, _⟩ := ho6.form
            have hbr6 := hbr5.next hb6 (Nat.le_refl _)
            have HL6 := Lib.hid (ho6.base hbr5.size)
            have ho5' : Own intE 3 wr.heap.size w6 v5 (List.replicate fr.xs.length (k : Int)) := (ho5.below hb6).base hbA.size
            have HOO6 := Lib.hid (HOO.out.below hbr6)
            clear ho5 hb5 hd5 hd1 hd0 ho6 hb6 HCM HRP hbA hc0
            generalize wr = w3 at *
            go_wp2_with fail
            go_loopw [12, 50] (fun _ i wx => ∃ j : Nat, j ≤ L.length ∧ i = iv j ∧ Hid (Own intE 3 w3.heap.size wx v5 (File.putGo S0 (List.replicate fr.xs.length (k : Int)) (L.take j))) ∧ Hid (Own intE 3 w2.heap.size wx u7 S0) ∧ Hid (Own pairE 146 w3.heap.size wx (.slice A6 L.length c6) L) ∧ Below w3.heap.size w6 wx) (fun _ i _ => L.length - (intOf i).toNat)
            case atStart => exact ⟨0, by omega, rfl, ho5', HOO6, HL6, Below.refl _ _⟩
            case round =>
              obtain ⟨j, hj, rfl, HNW, HOL, HLO, hbx⟩ := hrel
              by_cases hjl : j < L.length
              · have hji : (j : Int) < (L.length : Int) := by omega
                obtain ⟨bl, ol, p, hA6, hbl, hp, hc0, hc1⟩ := Sl.atPr HLO.out.sl hjl
                subst hA6
                obtain ⟨hp1, hp2⟩ := HLM.out p (mem_at hp)
                have htk : L.take (j + 1) = L.take j ++ [p] := by rw [List.take_add_one, hp]; rfl
                obtain ⟨px, py⟩ := p
                simp only at hp1 hp2 hc0 hc1
                have hnl : (File.putGo S0 (List.replicate fr.xs.length (k : Int)) (L.take j)).length = fr.xs.length := by rw [File.put_len, List.length_replicate]
                obtain ⟨gn, cn, x0, e5, hgn, hgnl, _, hcn, hfn⟩ := ownI HNW.out (k := py) (by rw [hnl]; exact hp2)
                rw [hnl] at e5
                subst e5
                obtain ⟨go_, co, ov, e7, _, hgol, hov, hco, _⟩ := ownI HOL.out (k := px) hp1
                subst e7
                have hgo3 : go_ < w3.heap.size := (HOO.out.lt go_ rfl).2
                have hne : go_ ≠ gn := by omega
                have hgd : S0.getD px 0 = ov := by rw [List.getD_eq_getElem?_getD, hov]; rfl
                have hbM : Below wr.heap.size wr (wr.alloc (.cells #[iv (px : Int), iv (py : Int)] 146)) := (Below.refl _ _).alloc (Nat.le_refl _) _
                have HBX : Hid (Blk (wr.alloc (.cells #[iv (px : Int), iv (py : Int)] 146)) wr.heap.size 146 #[iv (px : Int), iv (py : Int)]) := Lib.hid (Blk.new _ _ _)
                go_upto_region 19 with fail
                generalize wr.alloc (.cells #[iv (px : Int), iv (py : Int)] 146) = wM at *
                have HOC : Hid (∀ z, Below wM.heap.size wM z → z.cell? ⟨go_, px, none⟩ = some (iv ov)) := Lib.hid fun z h => ((hbM.next h (Nat.le_refl _)).cell (p := ⟨go_, px, none⟩) hgol).trans hco
                have HNC : Hid (∀ z, Below wM.heap.size wM z → z.cell? ⟨gn, py, none⟩ = some (iv x0) ∧ (∀ o, z.frozen? ⟨gn, o, none⟩ = false) ∧ gn < z.heap.size) := Lib.hid fun z h => ⟨((hbM.next h (Nat.le_refl _)).cell (p := ⟨gn, py, none⟩) hgnl).trans hcn, fun o => by
                  have := (hbM.next h (Nat.le_refl _)).block gn hgnl
                  have h2 := hfn o
                  unfold World.frozen? at h2 ⊢
                  simp only [this]
                  exact h2, Nat.lt_of_lt_of_le hgnl (hbM.next h (Nat.le_refl _)).size⟩
                have HNM := Lib.hid fun z (h : Below wM.heap.size wM z) => HNW.out.below (hbM.next h (Nat.le_refl _))
                have HOM := Lib.hid fun z (h : Below wM.heap.size wM z) => HOL.out.below (hbM.next h (Nat.le_refl _))
                have HLX := Lib.hid fun z (h : Below wM.heap.size wM z) => HLO.out.below (hbM.next h (Nat.le_refl _))
                have hpxi : (px : Int) < (S0.length : Int) := by omega
                have hpyi : (py : Int) < (fr.xs.length : Int) := by omega
                clear hc0 hc1 hp hcn hfn hco hov
                refine wp_free_lit (by kernel_rfl) 9 (by kernel_rfl) (by kernel_rfl) (by decide) (fun _ x => Below wM.heap.size wM x) (fun x x' => Below x.heap.size x x')
                  [fun _ u _ => u = .slice (some ⟨gn, 0, none⟩) fr.xs.length cn,
                   fun _ u _ => u = .pointer (some ⟨wr.heap.size, 1, none⟩),
                   fun _ u _ => u = iv (py : Int),
                   fun _ u _ => u = .slice (some ⟨go_, 0, none⟩) S0.length co,
                   fun _ u _ => u = .pointer (some ⟨wr.heap.size, 0, none⟩),
                   fun _ u _ => u = iv (px : Int),
                   fun _ u _ => u = .pointer (some ⟨go_, px, none⟩),
                   fun _ u _ => u = iv ov,
                   fun _ u _ => u = .pointer (some ⟨gn, py, none⟩)]
                  (Below.refl _ wM).drew ?_ ?_
                · simp only [List.take_succ_cons, List.take_zero, HopL]
                  refine ⟨?_, ?_, ?_, ?_, ?_, ?_, ?_, ?_, ?_, trivial⟩
                  · refine ⟨fun _ _ _ _ _ h => h, fun _ _ _ _ h _ => h, fun v n x hn hR hk => ?_⟩
                    simp only [List.take_succ_cons, List.take_zero, frameF, Act.put, List.setIfInBounds_toArray, List.set_cons_zero, List.set_cons_succ]
                    exact stepF_val (by first | rfl | simp [Region.wanted, yielded, *]) (by go_simp <;> omega) ⟨rfl, Below.refl _ _, hR⟩
                  · refine ⟨fun _ _ _ _ _ h => h, fun _ _ _ _ h _ => h, fun v n x hn hR hk => ?_⟩
                    simp only [List.take_succ_cons, List.take_zero, frameF, Act.put, List.setIfInBounds_toArray, List.set_cons_zero, List.set_cons_succ]
                    exact stepF_val (by first | rfl | simp [Region.wanted, yielded, *]) (by go_simp <;> omega) ⟨rfl, Below.refl _ _, hR⟩
                  · refine ⟨fun _ _ _ _ _ h => h, fun _ _ _ _ h _ => h, fun v n x hn hR hk => ?_⟩
                    have h1 : v 1 = .pointer (some ⟨wr.heap.size, 1, none⟩) := hk 1 (by kernel_rfl)
                    have g0 := (Blk.under HBX.out hR).cell 0
                    have g1 := (Blk.under HBX.out hR).cell 1
                    simp only [List.take_succ_cons, List.take_zero, frameF, Act.put, List.setIfInBounds_toArray, List.set_cons_zero, List.set_cons_succ]
                    exact stepF_val (by first | rfl | simp [Region.wanted, yielded, *]) (by go_simp <;> omega) ⟨rfl, Below.refl _ _, hR⟩
                  · refine ⟨fun _ _ _ _ _ h => h, fun _ _ _ _ h _ => h, fun v n x hn hR hk => ?_⟩
                    simp only [List.take_succ_cons, List.take_zero, frameF, Act.put, List.setIfInBounds_toArray, List.set_cons_zero, List.set_cons_succ]
                    exact stepF_val (by first | rfl | simp [Region.wanted, yielded, *]) (by go_simp <;> omega) ⟨rfl, Below.refl _ _, hR⟩
                  · refine ⟨fun _ _ _ _ _ h => h, fun _ _ _ _ h _ => h, fun v n x hn hR hk => ?_⟩
                    simp only [List.take_succ_cons, List.take_zero, frameF, Act.put, List.setIfInBounds_toArray, List.set_cons_zero, List.set_cons_succ]
                    exact stepF_val (by first | rfl | simp [Region.wanted, yielded, *]) (by go_simp <;> omega) ⟨rfl, Below.refl _ _, hR⟩
                  · refine ⟨fun _ _ _ _ _ h => h, fun _ _ _ _ h _ => h, fun v n x hn hR hk => ?_⟩
                    have h4 : v 4 = .pointer (some ⟨wr.heap.size, 0, none⟩) := hk 4 (by kernel_rfl)
                    have g0 := (Blk.under HBX.out hR).cell 0
                    have g1 := (Blk.under HBX.out hR).cell 1
                    simp only [List.take_succ_cons, List.take_zero, frameF, Act.put, List.setIfInBounds_toArray, List.set_cons_zero, List.set_cons_succ]
                    exact stepF_val (by first | rfl | simp [Region.wanted, yielded, *]) (by go_simp <;> omega) ⟨rfl, Below.refl _ _, hR⟩
                  · refine ⟨fun _ _ _ _ _ h => h, fun _ _ _ _ h _ => h, fun v n x hn hR hk => ?_⟩
                    have h3 : v 3 = .slice (some ⟨go_, 0, none⟩) S0.length co := hk 3 (by kernel_rfl)
                    have h5 : v 5 = iv (px : Int) := hk 5 (by kernel_rfl)
                    simp only [List.take_succ_cons, List.take_zero, frameF, Act.put, List.setIfInBounds_toArray, List.set_cons_zero, List.set_cons_succ]
                    exact stepF_val (by first | rfl | simp [Region.wanted, yielded, *]) (by go_simp <;> omega) ⟨rfl, Below.refl _ _, hR⟩
                  · refine ⟨fun _ _ _ _ _ h => h, fun _ _ _ _ h _ => h, fun v n x hn hR hk => ?_⟩
                    have h6 : v 6 = .pointer (some ⟨go_, px, none⟩) := hk 6 (by kernel_rfl)
                    have g2 := HOC.out x hR
                    simp only [List.take_succ_cons, List.take_zero, frameF, Act.put, List.setIfInBounds_toArray, List.set_cons_zero, List.set_cons_succ]
                    exact stepF_val (by first | rfl | simp [Region.wanted, yielded, *]) (by go_simp <;> omega) ⟨rfl, Below.refl _ _, hR⟩
                  · refine ⟨fun _ _ _ _ _ h => h, fun _ _ _ _ h _ => h, fun v n x hn hR hk => ?_⟩
                    have h0 : v 0 = .slice (some ⟨gn, 0, none⟩) fr.xs.length cn := hk 0 (by kernel_rfl)
                    have h2 : v 2 = iv (py : Int) := hk 2 (by kernel_rfl)
                    simp only [List.take_succ_cons, List.take_zero, frameF, Act.put, List.setIfInBounds_toArray, List.set_cons_zero, List.set_cons_succ]
                    exact stepF_val (by first | rfl | simp [Region.wanted, yielded, *]) (by go_simp <;> omega) ⟨rfl, Below.refl _ _, hR⟩
                · intro v n x1 hn hR hall
                  have h7 : v 7 = iv ov := hall 7 (by decide)
                  have h8 : v 8 = .pointer (some ⟨gn, py, none⟩) := hall 8 (by decide)
                  clear hall hn
                  simp only [List.drop_succ_cons, List.drop_zero, List.take_succ_cons, List.take_zero, frameF, Act.put, List.setIfInBounds_toArray, List.set_cons_zero, List.set_cons_succ, Nat.zero_add, Nat.reduceAdd, h7, h8]
                  obtain ⟨y1, y2, y3⟩ := HNC.out x1 hR
                  have hN2 : Own intE 3 w3.heap.size (x1.setCell ⟨gn, py, none⟩ (iv ov)) (.slice (some ⟨gn, 0, none⟩) fr.xs.length cn) (File.putGo S0 (List.replicate fr.xs.length (k : Int)) (L.take (j + 1))) := by
                    rw [htk, File.put_snoc, hgd]
                    exact setI (HNM.out x1 hR) (by rw [hnl]; exact hp2) ov
                  have hO2 : Own intE 3 w2.heap.size (x1.setCell ⟨gn, py, none⟩ (iv ov)) (.slice (some ⟨go_, 0, none⟩) S0.length co) S0 := (HOM.out x1 hR).keep (by simp [World.setCell]) fun b hb => Below.heap_setCell _ _ _ _ (by
                    have : go_ = b := by simpa [Value.ownBlock] using hb
                    show b ≠ gn; omega)
                  have hBn : ∃ cs, Blk x1 gn 3 cs := by
                    rcases (HNM.out x1 hR).2 with ⟨hv, _⟩ | ⟨g', cap, cur, hv, _, hB, _⟩
                    · cases hv
                    · injection hv with k1 _ _; injection k1 with k1; injection k1 with k1 _ _; subst k1; exact ⟨cur, hB⟩
                  have hL2 : Own pairE 146 w3.heap.size (x1.setCell ⟨gn, py, none⟩ (iv ov)) (.slice (some ⟨bl, ol, none⟩) L.length c6) L := (HLX.out x1 hR).keep (by simp [World.setCell]) fun b hb => Below.heap_setCell _ _ _ _ (by
                    obtain ⟨cs, hB⟩ := hBn
                    intro e
                    have e : b = gn := e
                    subst e
                    exact ownNeBlk (HLX.out x1 hR) hB (by decide) hb)
                  have hbz : Below w3.heap.size w6 (x1.setCell ⟨gn, py, none⟩ (iv ov)) := ((hbx.trans ((hbM.mono (Nat.le_trans hbr6.size hbx.size)).trans (hR.mono (Nat.le_trans (Nat.le_trans hbr6.size hbx.size) hbM.size))))).setCell (p := ⟨gn, py, none⟩) hgn _
                  have HN2 := Lib.hid hN2
                  have HO2 := Lib.hid hO2
                  have HL2 := Lib.hid hL2
                  clear hN2 hO2 hL2 hBn
                  go_wp2_with fail
                  go_roundw
                  case rel => exact ⟨j + 1, by omega, by go_num, HN2, HO2, HL2, hbz⟩
                  case measure => simp [intOf]; omega
              · have hji : ¬ (j : Int) < (L.length : Int) := by omega
                have hnw := HNW.out
                rw [List.take_of_length_le (by omega), ← HSS.out] at hnw
                have HNK := Lib.hid hnw
                have hb23 := hbr.next hbr6 (Nat.le_refl _)
                have hb2x : Below w2.heap.size w2 wr := hb23.trans (hbx.mono hbr.size)
                clear hnw HNW HOL
                go_wp2_with fail
                go_roundw
                case rel => exact ⟨k + 1, by omega, by go_num, Lib.hid (by rw [if_neg (by omega), Nat.add_sub_cancel]; exact HNK.out.base hbr.size), hb2x⟩
                case measure => simp [intOf]; omega
        · have hki : ¬ (k : Int) < (rs.length : Int) := by omega
          have hn := HN.out
          have hO := HO.out
          rw [if_neg (by omega), show k - 1 = n by omega] at hO
          have HO2 := Lib.hid (hO.base hb02.size)
          clear hn hO HO
          go_wp2_with fail
          go_ret2
          exact ⟨_, rfl, HO2.out, hb0r⟩
end Fl
end Go.Proofs.YtkhmkpcihphkcaaDoor
