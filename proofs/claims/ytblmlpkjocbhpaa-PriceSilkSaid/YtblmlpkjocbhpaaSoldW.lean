/- Sold, of the statements: a sale and a stock out of a spool. Conditions: lengths are below a great bound; the list is not the spool. -/
import Derived.Test.YtblmlpkjocbhpaaLawW
import Derived.Test.YtblmlpkjocbhpaaPriceV
import Derived.Test.YtblmlpkjocbhpaaStep
set_option linter.unusedVariables false
set_option linter.unusedSimpArgs false
namespace Go.Proofs.Ytblmlpkjocbhpaa
open Go.RowKit Go.Shelf
set_option maxRecDepth 100000

/-- No row of the slice at A is block g. -/
def Far (g : Nat) (A : Option Addr) : Prop := ∀ b off s, A = some ⟨b, off, s⟩ → b ≠ g
theorem Sl.only {α : Type} {E : Enc α} {w w' : World} {A : Option Addr} {xs : List α} {g : Nat} (h : Sl E w A xs) (hf : Far g A) (ho : Only g w w') : Sl E w' A xs := fun hx => by
  obtain ⟨b, off, hA, hb, hc⟩ := h hx
  have hk := ho.other b hb (hf b off none hA)
  exact ⟨b, off, hA, Nat.lt_of_lt_of_le hb ho.below.size, fun i x hi j u hu => by rw [World.cell?_of_block (w := w) hk]; exact hc i x hi j u hu⟩
theorem Blk.only {w w' : World} {b g : Nat} {t : TypeId} {cs : Array Value} (h : Blk w b t cs) (hg : b ≠ g) (ho : Only g w w') : Blk w' b t cs := (ho.other b h.lt hg).trans h
theorem Own.only {α : Type} {E : Enc α} {e : TypeId} {B : Nat} {w w' : World} {v : Value} {xs : List α} {g : Nat} (h : Own E e B w v xs) (hg : g < B) (ho : Only g w w') : Own E e B w' v xs :=
  h.keep ho.below.size fun b hb => ho.other b (h.lt b hb).2 (by have := (h.lt b hb).1; omega)
/-- What Sold answers. -/
def SoldOk (l : List Rule) (B g k : Nat) (w : World) (e : Ending) (w' : World) : Prop :=
  ∃ (fall : Int) (bought : List Int) (stock : List Piece) (vb vs : Value) (k' : Nat), e = .returned (.tuple #[.agg #[iv fall, vb], vs]) ∧ 0 ≤ fall ∧ fall ≤ 30 ∧ 1 ≤ bought.length ∧ bought.length ≤ 8 ∧ (∀ x ∈ bought, 0 ≤ x ∧ x ≤ 3) ∧
    stock.length ≤ 10 ∧ (∀ p ∈ stock, (0 ≤ p.b ∧ p.b ≤ 3) ∧ (0 ≤ p.s ∧ p.s ≤ 2) ∧ (0 ≤ p.e ∧ p.e ≤ 2) ∧ ((Price.lawPriced l p).2 = 0 ∨ (Price.lawPriced l p).2 = 7)) ∧
    Own intE 3 w.heap.size w' vb bought ∧ Own pieceE 42 w.heap.size w' vs stock ∧ k' ≤ k + 60 ∧ IsSpool B w' g k' ∧ Only g w w'
set_option maxHeartbeats 4000000 in
theorem sold_spec (A : Option Addr) (l : List Rule) (c B g k : Nat) (w : World) (hm : l.length ≤ big) (hs : Sl ruleE w A l) (hA : Far g A) (h : IsSpool B w g k) (hk : k < 1000000) :
    Calls Try.prog 17 #[.pointer (some ⟨g, 0, none⟩), .slice A l.length c] w (SoldOk l B g k w) := by
  have hgB : g < B ∧ B ≤ w.heap.size := ⟨h.1, h.2.1⟩
  have H := Lib.hid h
  clear h
  go_enter Try.func17, Try.ntmps17
  go_wp2_with fail
  have hb0 : Below w.heap.size w (w.alloc (.cells #[iv 0, .slice none 0 0] 31)) := (Below.refl _ _).alloc (Nat.le_refl _) _
  have k0 : Blk (w.alloc (.cells #[iv 0, .slice none 0 0] 31)) w.heap.size 31 #[iv 0, .slice none 0 0] := Blk.new _ _ _
  have hz0 : (w.alloc (.cells #[iv 0, .slice none 0 0] 31)).heap.size = w.heap.size + 1 := by simp
  generalize w.alloc (.cells #[iv 0, .slice none 0 0] 31) = w0 at *
  have hs0 := hs.below hb0
  have h0 := H.out.below hb0 (Nat.le_trans hgB.2 (Nat.le_refl _))
  refine (upto_spec B w0 g k 30 h0 (by omega) (by omega)).mono ?_
  rintro e w1 ⟨fall, rfl, hfall, hsp1, ho1⟩
  have k1 := k0.only (by omega) ho1
  have hs1 := hs0.only hA ho1
  go_wp2_with fail
  have hz1 := ho1.below.size
  have k2 : Blk (w1.alloc (.cells #[iv fall, .slice none 0 0] 31)) w1.heap.size 31 #[iv fall, .slice none 0 0] := Blk.new _ _ _
  have kk := k1.alloc (.cells #[iv fall, .slice none 0 0] 31)
  have hb2 : Below w1.heap.size w1 (w1.alloc (.cells #[iv fall, .slice none 0 0] 31)) := (Below.refl _ _).alloc (Nat.le_refl _) _
  have hz2 : (w1.alloc (.cells #[iv fall, .slice none 0 0] 31)).heap.size = w1.heap.size + 1 := by simp
  have hs2 := hs1.below hb2
  have hsp2 := hsp1.below hb2 (by omega)
  have HO2 := Lib.hid ((Only.next ((⟨hb0.mono (by omega), fun b hb _ => hb0.block b hb⟩ : Only g w w0).trans ho1) hb2 (by omega) (by omega)))
  clear hs0 h0 hs1 hsp1 hb2 hb0 k0 k1 ho1
  generalize w1.alloc (.cells #[iv fall, .slice none 0 0] 31) = w2 at *
  refine (from_spec B w2 g (k + 1) 1 8 hsp2 (by omega) (by omega) (by omega)).mono ?_
  rintro e w3 ⟨n, rfl, hn1, hn8, hsp3, ho3⟩
  have k3 := k2.only (by omega) ho3
  have kk3 := kk.only (by omega) ho3
  have hs3 := hs2.only hA ho3
  have HO3 := Lib.hid (HO2.out.trans ho3)
  have hz3 := ho3.below.size
  clear hs2 hsp2 k2 kk ho3 HO2
  go_wp2_with fail
  go_loopw [16] (fun i wr => ∃ (j : Nat) (v : Value) (acc : List Int), j ≤ n ∧ i = iv j ∧ Blk wr w1.heap.size 31 #[iv fall, v] ∧ Own intE 3 (w1.heap.size + 1) wr v acc ∧ acc.length = j ∧ Hid (∀ x ∈ acc, 0 ≤ x ∧ x ≤ 3) ∧ IsSpool B wr g (k + 2 + j) ∧ Blk wr w.heap.size 31 #[iv 0, .slice none 0 0] ∧ Hid (Only g w wr)) (fun i _ => n - (intOf i).toNat)
  case atStart => exact ⟨0, _, [], by omega, rfl, k3, Own.nil, rfl, by exact fun x hx => by simp at hx, hsp3, kk3, HO3.out⟩
  case round =>
    obtain ⟨j, v, acc, hj, rfl, hB, hown, rfl, hacc, hsp, hk0, hon⟩ := hrel
    have HK0 := Lib.hid hk0
    have hz00 := hk0.lt
    clear hk0
    obtain ⟨m0, m1, m2, m3, m4, m5⟩ := hB.facts
    by_cases hlt : acc.length < n
    · obtain ⟨A', c', rfl, hcc, hcm⟩ := hown.form
      have hU := Lib.hid (upto_spec B wr.drew g (k + 2 + acc.length) 3 (hsp.keep (Nat.le_refl _) fun _ _ => rfl) (by omega) (by omega))
      have hz4 := hon.out.below.size
      have hgx : w1.heap.size ≠ g := by omega
      have hgx' : g < w1.heap.size + 1 := by omega
      have HO := Lib.hid (show Own intE 3 (w1.heap.size + 1) wr.drew (.slice A' acc.length c') acc from hown.keep (Nat.le_refl _) fun _ _ => rfl)
      have HB := Lib.hid hB
      have m01 : wr.cell? ⟨w1.heap.size, 1, none⟩ = some (.slice A' acc.length c') := m0 1
      clear hown hB m0 m4 m5 hsp
      go_wp2_with fail
      go_region_law
        (first
          | (refine stepCall (by rfl) hU.out (by go_simp) ?_; rintro e wc ⟨r, rfl, hr, hspc, hoc⟩; refine ⟨_, rfl, ?_⟩; have m22 : w1.heap.size < wc.heap.size := Nat.lt_of_lt_of_le m2 hoc.below.size; have m02 : wc.cell? ⟨w1.heap.size, 1, none⟩ = some (.slice A' acc.length c') := (World.cell?_of_block (w := wr) (hoc.other w1.heap.size m2 hgx)).trans m01)
          | (refine stepApp1 intE tyInts (by rfl) _ _ (by rfl) (w := wc) (HO.out.only hgx' hoc) (r : Int) (by rfl) (by rfl) rfl (by rfl) rfl (by have h : wr.heap.size ≤ wc.heap.size := hoc.below.size; omega) (by unfold big; omega) ?_; intro v' w5 hown5 hb5 hk5; obtain ⟨A5, c5, rfl, hc5, hm5⟩ := hown5.form; have B5 : Blk w5 w1.heap.size 31 #[iv fall, .slice A' acc.length c'] := (hk5 w1.heap.size (Nat.lt_of_lt_of_le m2 hoc.below.size) (fun e => by have := ((HO.out.only hgx' hoc).lt _ e).1; omega)).trans ((hoc.other w1.heap.size m2 hgx).trans HB.out); have m03 := B5.cell 1; have f03 := B5.frozen 1))
      all_goals
        have HB6 := B5.set_ 1 (.slice A5 (acc.length + 1) c5)
        have hown6 := hown5.setCell (p := ⟨w1.heap.size, 1, none⟩) (by simp) (.slice A5 (acc.length + 1) c5)
        simp only [List.length_append, List.length_cons, List.length_nil, Nat.zero_add] at hown6
        have HS6 := Lib.hid (hspc.keep (w' := w5.setCell ⟨w1.heap.size, 1, none⟩ (.slice A5 (acc.length + 1) c5)) (by simpa [World.setCell] using hb5.size) (fun b hb => by rw [Below.heap_setCell w5 _ _ b (by simp; omega), hb5.block b (by omega)]))
        have HC6 : Hid (∀ x ∈ acc ++ [(r : Int)], 0 ≤ x ∧ x ≤ 3) := fun x hx => by
          rcases List.mem_append.1 hx with hx | hx
          · exact hacc.out x hx
          · rw [List.mem_singleton.1 hx]; omega
        have HN6 := Lib.hid ((((hon.out.trans ⟨(Below.refl _ wr).drew, fun _ _ _ => rfl⟩).trans hoc).next (B := w1.heap.size + 1) hb5 (by omega) (by omega)).setCell (p := ⟨w1.heap.size, 1, none⟩) (by simp; omega) (by simp; omega) (.slice A5 (acc.length + 1) c5))
        have HKK := Lib.hid ((((show Blk wc w.heap.size 31 #[iv 0, .slice none 0 0] from (hoc.other w.heap.size hz00 (by omega)).trans HK0.out).below hb5 (by omega)).far (p := ⟨w1.heap.size, 1, none⟩) (by simp; omega) (.slice A5 (acc.length + 1) c5)))
        clear hown5 B5 hb5 hk5 hspc hoc m02 m03 f03
        go_wp2
        go_roundw
        case rel => exact ⟨acc.length + 1, _, acc ++ [(r : Int)], by omega, by go_num, HB6, hown6, by simp, HC6, HS6.out, HKK.out, HN6⟩
        case measure => simp [intOf]; omega
    · obtain ⟨Ab, cb, rfl, hcb, hcbm⟩ := hown.form
      have hne : 1 ≤ acc.length ∧ acc.length ≤ 8 := by omega
      have hz4 := hon.out.below.size
      obtain ⟨w4, rfl⟩ : ∃ w4 : World, w4 = wr := ⟨_, rfl⟩
      have HU := Lib.hid (upto_spec B w4 g (k + 2 + acc.length) 10 hsp (by omega) (by omega))
      clear hsp
      go_wp2_with fail
      refine HU.out.mono ?_
      rintro e w5 ⟨n2, rfl, hn2, hsp5, ho5⟩
      have hz5 := ho5.below.size
      have hB5 := hB.only (by omega) ho5
      have hk5 := HK0.out.only (by omega) ho5
      have hown5 := hown.only (by omega) ho5
      have hl5 : ∀ b, (Value.slice Ab acc.length cb).ownBlock = some b → b < w5.heap.size := fun b hb => (hown5.lt b hb).2
      have HO5 := Lib.hid (hon.out.trans ho5)
      have hs5 := Lib.hid (hs.only hA HO5.out)
      clear hB hown HK0 hon ho5
      go_wp2_with fail
      go_loopw [7, 8, 9, 10, 28] (fun v u8 u9 u10 i wr => ∃ (j : Nat) (st : List Piece) (k' : Nat), j ≤ n2 ∧ i = iv j ∧ Own pieceE 42 w5.heap.size wr v st ∧ st.length ≤ j ∧
        Hid (∀ p ∈ st, (0 ≤ p.b ∧ p.b ≤ 3) ∧ (0 ≤ p.s ∧ p.s ≤ 2) ∧ (0 ≤ p.e ∧ p.e ≤ 2) ∧ ((Price.lawPriced l p).2 = 0 ∨ (Price.lawPriced l p).2 = 7)) ∧ k' ≤ k + 12 + 4 * j ∧ IsSpool B wr g k' ∧ Hid (Only g w5 wr)) (fun _ _ _ _ i _ => n2 - (intOf i).toNat)
      case atStart => exact ⟨0, [], _, by omega, rfl, Own.nil, by simp, by exact fun x hx => (by simp at hx), by omega, hsp5, Only.refl _ _⟩
      case round =>
        obtain ⟨j, st, k', hj, rfl, hown, hst, hall, hk', hsp, hon⟩ := hrel
        by_cases hlt : j < n2
        · have hzr := hon.out.below.size
          have HS := Lib.hid (hs5.out.only hA hon.out)
          have HON := Lib.hid hon.out
          have HOW := Lib.hid hown
          clear hon hown
          have HU1 := Lib.hid (upto_spec B wr g k' 3 hsp (by omega) (by omega))
          clear hsp
          go_wp2_with fail
          refine HU1.out.mono ?_
          rintro e x1 ⟨a, rfl, ha, hp1, q1⟩
          have HU2 := Lib.hid (upto_spec B x1 g (k' + 1) 2 hp1 (by omega) (by omega))
          clear hp1
          go_wp2_with fail
          refine HU2.out.mono ?_
          rintro e x2 ⟨b, rfl, hb, hp2, q2⟩
          have HU3 := Lib.hid (upto_spec B x2 g (k' + 1 + 1) 2 hp2 (by omega) (by omega))
          clear hp2
          go_wp2_with fail
          refine HU3.out.mono ?_
          rintro e x3 ⟨d, rfl, hd, hp3, q3⟩
          have HQ := Lib.hid ((q1.trans q2).trans q3)
          have hzx := HQ.out.below.size
          clear q1 q2 q3
          go_wp2_with fail
          have hbx : Below x3.heap.size x3 (x3.alloc (.cells #[iv a, iv b, iv d] 42)) := (Below.refl _ _).alloc (Nat.le_refl _) _
          have hB9 : Blk (x3.alloc (.cells #[iv a, iv b, iv d] 42)) x3.heap.size 42 #[iv a, iv b, iv d] := Blk.new _ _ _
          have hz9 : (x3.alloc (.cells #[iv a, iv b, iv d] 42)).heap.size = x3.heap.size + 1 := by simp
          generalize x3.alloc (.cells #[iv a, iv b, iv d] 42) = x4 at *
          obtain ⟨pn, pe, hpe⟩ : ∃ pn pe, Price.lawPriced l ⟨a, b, d⟩ = (pn, pe) := ⟨_, _, rfl⟩
          have HP := Lib.hid (lpriced_spec A l c ⟨a, b, d⟩ x4 hm ((HS.out.only hA HQ.out).below hbx))
          rw [hpe] at HP
          have HPE := Lib.hid hpe
          clear hpe
          refine HP.out.mono ?_
          rintro e x5 ⟨rfl, hb5⟩
          have hz6 := hb5.size
          have hB5' := hB9.under hb5
          have hp5 := (hp3.below hbx (by omega)).below hb5 (by omega)
          have HO6 := Lib.hid (((HQ.out.next (B := x3.heap.size) hbx (by omega) (by omega))).next hb5 (by omega) (by omega))
          have HOW5 := Lib.hid ((((HOW.out.only (by omega) HQ.out).below hbx)).below hb5)
          have q0 := hB5'.cell 0
          have q1 := hB5'.cell 1
          have q2 := hB5'.cell 2
          have f0 := hB5'.frozen
          clear hp3 hbx hb5 hB9 hB5'
          by_cases h0 : pe = 0
          · subst h0
            go_wp2_with (first
              | (at_builtin; refine wpApp1 pieceE tyPieces rfl _ _ rfl HOW5.out ⟨a, b, d⟩ rfl rfl rfl (by omega) (by unfold big; omega) ?_; intro v' w7 hown7 hb7 hk7))
            have hp7 := hp5.below hb7 (by omega)
            have HO7 := Lib.hid ((HON.out.trans HO6.out).next hb7 (by omega) (Nat.le_refl _))
            have HA7 : Hid (∀ p ∈ st ++ [(⟨a, b, d⟩ : Piece)], (0 ≤ p.b ∧ p.b ≤ 3) ∧ (0 ≤ p.s ∧ p.s ≤ 2) ∧ (0 ≤ p.e ∧ p.e ≤ 2) ∧ ((Price.lawPriced l p).2 = 0 ∨ (Price.lawPriced l p).2 = 7)) := fun p hp => by
              rcases List.mem_append.1 hp with hp | hp
              · exact hall.out p hp
              · rw [List.mem_singleton.1 hp, HPE.out]; dsimp only; omega
            clear hb7 hk7
            go_roundw
            case rel => exact ⟨j + 1, st ++ [⟨a, b, d⟩], k' + 1 + 1 + 1, by omega, by go_num, hown7, by simp; omega, HA7, by omega, hp7, HO7⟩
            case measure => simp [intOf]; omega
          · have h0' : (pe == 0) = false := by simpa using h0
            have HC := Lib.hid (once_spec B x5 g (k' + 1 + 1 + 1) 9 hp5 (by omega) (by omega) (by omega))
            clear hp5
            go_wp2_with fail
            refine HC.out.mono ?_
            rintro e x6 ⟨bb, rfl, hp6, ho6⟩
            have HOW6 := Lib.hid (HOW5.out.only (by omega) ho6)
            have HO66 := Lib.hid (HO6.out.trans ho6)
            have hz7 := ho6.below.size
            have g0 : x6.cell? ⟨x3.heap.size, 0, none⟩ = some (iv a) := (World.cell?_of_block (w := x5) (ho6.other x3.heap.size (by omega) (by omega))).trans q0
            have g1 : x6.cell? ⟨x3.heap.size, 1, none⟩ = some (iv b) := (World.cell?_of_block (w := x5) (ho6.other x3.heap.size (by omega) (by omega))).trans q1
            have g2 : x6.cell? ⟨x3.heap.size, 2, none⟩ = some (iv d) := (World.cell?_of_block (w := x5) (ho6.other x3.heap.size (by omega) (by omega))).trans q2
            have hl3 : x3.heap.size < x6.heap.size := by omega
            clear ho6 HO6 HOW5 HC q0 q1 q2 f0
            by_cases h7 : pe = 7
            · subst h7
              cases bb
              · go_wp2
                go_roundw
                case rel => exact ⟨j + 1, st, k' + 1 + 1 + 1 + 1, by omega, by go_num, HOW6.out, by omega, hall, by omega, hp6, HON.out.trans HO66.out⟩
                case measure => simp [intOf]; omega
              · go_wp2_with (first
                  | (at_builtin; refine wpApp1 pieceE tyPieces rfl _ _ rfl HOW6.out ⟨a, b, d⟩ rfl rfl rfl (by omega) (by unfold big; omega) ?_; intro v' w7 hown7 hb7 hk7))
                have hp7 := hp6.below hb7 (by omega)
                have HO7 := Lib.hid ((HON.out.trans HO66.out).next hb7 (by omega) (Nat.le_refl _))
                have HA7 : Hid (∀ p ∈ st ++ [(⟨a, b, d⟩ : Piece)], (0 ≤ p.b ∧ p.b ≤ 3) ∧ (0 ≤ p.s ∧ p.s ≤ 2) ∧ (0 ≤ p.e ∧ p.e ≤ 2) ∧ ((Price.lawPriced l p).2 = 0 ∨ (Price.lawPriced l p).2 = 7)) := fun p hp => by
                  rcases List.mem_append.1 hp with hp | hp
                  · exact hall.out p hp
                  · rw [List.mem_singleton.1 hp, HPE.out]; dsimp only; omega
                clear hb7 hk7
                go_roundw
                case rel => exact ⟨j + 1, st ++ [⟨a, b, d⟩], k' + 1 + 1 + 1 + 1, by omega, by go_num, hown7, by simp; omega, HA7, by omega, hp7, HO7⟩
                case measure => simp [intOf]; omega
            · have h7' : (pe == 7) = false := by simpa using h7
              cases bb
              all_goals
                go_wp2
                go_roundw
                case rel => exact ⟨j + 1, st, k' + 1 + 1 + 1 + 1, by omega, by go_num, HOW6.out, by omega, hall, by omega, hp6, HON.out.trans HO66.out⟩
                case measure => simp [intOf]; omega
        · have hB6 := hB5.only (by omega) hon.out
          have hk6 := hk5.only (by omega) hon.out
          have hown6 := Lib.hid (hown5.only (by omega) hon.out)
          have HON := Lib.hid (HO5.out.trans hon.out)
          have hzr := hon.out.below.size
          have a0 := hB6.cell 0
          have a1 := hB6.cell 1
          have b0 := hk6.cell 0
          have b1 := hk6.cell 1
          have fb := hk6.frozen
          have HK6 := Lib.hid hk6
          clear hon hB6 hk6 hs5 HO5 hown5 hB5 hk5 HU hl5
          have HACC := Lib.hid hacc.out
          clear hacc
          obtain ⟨As, cs, rfl, hcs, hcsm⟩ := hown.form
          have HOWN := Lib.hid hown
          have HALL := Lib.hid hall.out
          clear hown hall
          go_wp2
          have k5 := (HK6.out.set_ 0 (iv fall)).set_ 1 (.slice Ab acc.length cb)
          have d5 := k5.cell
          refine bodyPost_ret (v := .tuple #[.agg #[iv fall, .slice Ab acc.length cb], .slice As st.length cs]) (by simp [results, Try.f17, go_sem, d5]) rfl
            ⟨fall, acc, st, _, _, k', rfl, by omega, by omega, hne.1, hne.2, HACC.out, by omega, HALL.out, ?_, ?_, by omega, ?_, (HON.out.setCell (p := ⟨w.heap.size, 0, none⟩) (by simp; omega) (by simp) _).setCell (p := ⟨w.heap.size, 1, none⟩) (by simp; omega) (by simp) _⟩
          · exact ((hown6.out.setCell (p := ⟨w.heap.size, 0, none⟩) (by simp; omega) _).setCell (p := ⟨w.heap.size, 1, none⟩) (by simp; omega) _).base (by omega)
          · exact ((HOWN.out.setCell (p := ⟨w.heap.size, 0, none⟩) (by simp; omega) _).setCell (p := ⟨w.heap.size, 1, none⟩) (by simp; omega) _).base (by omega)
          · exact hsp.keep (by simp [World.setCell]) fun b hb => by rw [Below.heap_setCell _ _ _ b (by simp; omega), Below.heap_setCell _ _ _ b (by simp; omega)]
end Go.Proofs.Ytblmlpkjocbhpaa
