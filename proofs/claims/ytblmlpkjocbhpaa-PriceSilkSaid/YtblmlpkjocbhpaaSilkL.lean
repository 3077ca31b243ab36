/- PriceSilk: the edge of a piece by its lot, the rules of edges, and the law's walk. No condition. -/
import Derived.Test.YtblmlpkjocbhpaaSilkJ
import Derived.Test.YtblmlpkjocbhpaaSilkK
import Derived.Test.YtblmlpkjocbhpaaSilkP
import Derived.Test.YtblmlpkjocbhpaaTriedW
set_option linter.unusedVariables false
set_option linter.unusedSimpArgs false
namespace Go.Proofs.Ytblmlpkjocbhpaa
open Go.RowKit Go.Maps
set_option maxRecDepth 100000
theorem edge_spec (Al : Option Addr) (cl : Nat) (Aw : Option Addr) (ws : List Weigh) (c g : Nat) (w : World) (hB : Blk w g 119 #[iv 1, .slice Al 1 cl, .slice Aw ws.length c]) (hl : Sl lotE w Al [⟨-1, 2⟩]) (hw : Sl weighE w Aw ws) (hn : ws.length ≤ 10) (hok : ∀ x ∈ ws, x.Ok) (h : (Price.sbnd ws).1 ≤ (Price.sbnd ws).2) (hlo : 0 ≤ (Price.sbnd ws).1) (hhi : (Price.sbnd ws).2 ≤ 10000) :
    Calls Try.prog 77 #[.pointer (some ⟨g, 0, none⟩)] w fun e w' => e = .returned (.tuple #[iv (Price.silkEdge (Price.sbnd ws)), .bool true]) ∧ Below w.heap.size w w' := by
  have HW := Lib.hid (where_spec Al cl Aw ws c w hl hw hn hok h hlo hhi)
  have m0 := hB.cell
  have m1 := hB.lt
  clear hok hl hw h hlo hhi
  unfold Price.silkEdge
  generalize Price.sbnd ws = b at *
  obtain ⟨lo, hi⟩ := b
  dsimp only at HW ⊢
  by_cases h1 : 0 < lo
  · rw [if_pos h1]
    go_enter Try.func77, Try.ntmps77
    go_wp2_with fail
    refine HW.out.mono ?_
    rintro e w1 ⟨rfl, hb1⟩
    go_wp2_with fail
    go_ret2
    exact ⟨rfl, hb1.alloc hb1.size _⟩
  · rw [if_neg h1]
    by_cases h2 : 0 < hi
    · rw [if_pos h2]
      go_enter Try.func77, Try.ntmps77
      go_wp2_with fail
      refine HW.out.mono ?_
      rintro e w1 ⟨rfl, hb1⟩
      go_wp2_with fail
      go_ret2
      exact ⟨rfl, hb1.alloc hb1.size _⟩
    · rw [if_neg h2]
      go_enter Try.func77, Try.ntmps77
      go_wp2_with fail
      refine HW.out.mono ?_
      rintro e w1 ⟨rfl, hb1⟩
      go_wp2_with fail
      go_ret2
      exact ⟨rfl, hb1.alloc hb1.size _⟩
namespace Price
def silkPart (b : Bool) (e p : Int) : List Rule := if b then [⟨-1, -1, e, p⟩] else []
/-- The rules of edges, as far as k edges. -/
def silkTo (f : Nat → Bool) : Nat → List Rule
  | 0 => []
  | k + 1 => silkTo f k ++ silkPart (f k) k (10 + k)
def silkList (f : Nat → Bool) : List Rule := silkTo f 3 ++ silkPart (f 3) (-1) 5
theorem silkTo_length (f : Nat → Bool) (k : Nat) : (silkTo f k).length ≤ k := by
  induction k with
  | zero => exact Nat.le_refl _
  | succ k ih =>
    simp only [silkTo, List.length_append]
    have : (silkPart (f k) k (10 + k)).length ≤ 1 := by unfold silkPart; split <;> simp
    omega
theorem silk_price (f : Nat → Bool) (e : Nat) (he : e < 3) : price (silkList f) ⟨0, 0, e⟩ = if f e then (10 + (e : Int), 0) else if f 3 then (5, 0) else (0, 6) := by
  unfold silkList silkTo
  simp only [silkTo]
  match e, he with
  | 0, _ => cases f 0 <;> cases f 1 <;> cases f 2 <;> cases f 3 <;> decide
  | 1, _ => cases f 0 <;> cases f 1 <;> cases f 2 <;> cases f 3 <;> decide
  | 2, _ => cases f 0 <;> cases f 1 <;> cases f 2 <;> cases f 3 <;> decide
end Price
/-- A bit of a number. -/
def wbit (n : Int) (k : Nat) : Bool := bits BinOp.and IntKind.u8 (n / 2 ^ k) 1 == 1
/-- What holds after k weighings. -/
structure SilkInv (dry : Int) (g2 gm : Nat) (l : List Rule) (v9 : Value) (w : World) (k : Nat) (ws : List Weigh) (Al : Option Addr) (cl : Nat) (Aw : Option Addr) (cw : Nat) (x : World) : Prop where
  len : ws.length = k
  ok : ∀ y ∈ ws, y.Ok ∧ y.sLo ≤ dry ∧ dry ≤ y.sHi
  lots : Own lotE 115 (g2 + 1) x (.slice Al 1 cl) [⟨-1, 2⟩]
  weighs : Own weighE 129 (g2 + 1) x (.slice Aw k cw) ws
  mill : Blk x gm 119 #[iv 1, .slice Al 1 cl, .slice Aw k cw]
  rules : Own ruleE 27 (g2 + 1) x v9 l
  spool : IsSpool (g2 + 1) x g2 k
  below : Below w.heap.size w x
  lt : g2 < gm
  wlt : w.heap.size < g2
theorem SilkInv.under {dry : Int} {g2 gm : Nat} {l : List Rule} {v9 : Value} {w : World} {k : Nat} {ws : List Weigh} {Al : Option Addr} {cl : Nat} {Aw : Option Addr} {cw : Nat} {x y : World} (h : SilkInv dry g2 gm l v9 w k ws Al cl Aw cw x) (hb : Below x.heap.size x y) : SilkInv dry g2 gm l v9 w k ws Al cl Aw cw y :=
  ⟨h.len, h.ok, h.lots.below hb, h.weighs.below hb, h.mill.under hb, h.rules.below hb, h.spool.below hb h.spool.2.1, h.below.next hb (Nat.le_refl _), h.lt, h.wlt⟩
theorem sbnd_within {ws : List Weigh} {d : Int} (h : ∀ y ∈ ws, y.Ok ∧ y.sLo ≤ d ∧ d ≤ y.sHi) (h0 : 0 ≤ d) (h1 : d ≤ 10000) : (Price.sbnd ws).1 ≤ d ∧ d ≤ (Price.sbnd ws).2 ∧ 0 ≤ (Price.sbnd ws).1 ∧ (Price.sbnd ws).2 ≤ 10000 := by
  suffices H : ∀ (ws : List Weigh) (b : Int × Int), (∀ y ∈ ws, y.Ok ∧ y.sLo ≤ d ∧ d ≤ y.sHi) → b.1 ≤ d → d ≤ b.2 → 0 ≤ b.1 → b.2 ≤ 10000 → (ws.foldl (fun b x => (max b.1 x.sLo, min b.2 x.sHi)) b).1 ≤ d ∧ d ≤ (ws.foldl (fun b x => (max b.1 x.sLo, min b.2 x.sHi)) b).2 ∧ 0 ≤ (ws.foldl (fun b x => (max b.1 x.sLo, min b.2 x.sHi)) b).1 ∧ (ws.foldl (fun b x => (max b.1 x.sLo, min b.2 x.sHi)) b).2 ≤ 10000 from
    H ws (0, 10000) h h0 h1 (by decide) (by decide)
  intro ws
  induction ws with
  | nil => intro b _ h1 h2 h3 h4; exact ⟨h1, h2, h3, h4⟩
  | cons x ws ih =>
    intro b h h1 h2 h3 h4
    have hx := h x (List.mem_cons_self ..)
    exact ih _ (fun y hy => h y (List.mem_cons_of_mem _ hy)) (by dsimp only; omega) (by dsimp only; omega) (by dsimp only; omega) (by dsimp only; omega)
set_option maxHeartbeats 4000000 in
theorem silk_walk (A : Option Addr) (bs : List Int) (c : Nat) (A' : Option Addr) (bs' : List Int) (c' : Nat) (n : Int) (w : World) (hs : Sl byteE w A bs) (hs' : Sl byteE w A' bs') (hn0 : 0 ≤ n) (hn1 : n ≤ 255) :
    Calls Try.prog 14 #[.slice A bs.length c, .slice A' bs'.length c', .int .u8 n] w fun e w' => e = .returned (.bool true) ∧ Below w.heap.size w w' := by
  have HS' := Lib.hid hs'
  go_enter Try.func14, Try.ntmps14
  go_wp2_with fail
  refine (wound_spec A bs c w hs).mono ?_
  rintro e w1 ⟨g, rfl, hg, hsp, hb1⟩
  clear hs
  go_wp2_with fail
  refine (wound2_spec A' bs' c' w w1 hs' hb1).mono ?_
  rintro e w2 ⟨g2, rfl, hg2, hz2, hb2, HSP2⟩
  clear hs' HS'
  go_wp2_with fail
  go_loopw [9, 10, 27] (fun v _ i wr => ∃ k : Nat, k ≤ 3 ∧ i = iv k ∧ Own ruleE 27 w2.heap.size wr v (Price.silkTo (wbit n) k) ∧ Below w2.heap.size w2 wr) (fun _ _ i _ => 3 - (intOf i).toNat)
  case atStart => exact ⟨0, by omega, rfl, Own.nil, Below.refl _ _⟩
  case round =>
    obtain ⟨k, hk, rfl, hown, hbr⟩ := hrel
    by_cases hlt : k < 3
    · have hki : (k : Int) < 3 := by omega
      have hzr := hbr.size
      have hlen := Price.silkTo_length (wbit n) k
      have HB := Lib.hid (show Price.silkTo (wbit n) (k + 1) = Price.silkTo (wbit n) k ++ Price.silkPart (wbit n k) k (10 + k) from rfl)
      generalize Price.silkTo (wbit n) k = l at *
      cases hb : (bits BinOp.and IntKind.u8 (n / 2 ^ k) 1 == 1)
      · have HB2 : Hid (Price.silkTo (wbit n) (k + 1) = l) := Lib.hid (by rw [HB.out, show wbit n k = false from hb]; simp [Price.silkPart])
        clear HB
        go_wp2_with fail
        go_roundw
        case rel => exact ⟨k + 1, by omega, by go_num, by rw [HB2.out]; exact hown, hbr⟩
        case measure => simp [intOf]; omega
      · have HB2 : Hid (Price.silkTo (wbit n) (k + 1) = l ++ [⟨-1, -1, k, 10 + k⟩]) := Lib.hid (by rw [HB.out, show wbit n k = true from hb]; simp [Price.silkPart])
        clear HB
        go_wp2_with (at_builtin; refine wpApp1G ruleE tyRules rfl _ _ rfl hown (⟨-1, -1, k, 10 + k⟩ : Rule) (by rfl) rfl rfl rfl hzr (by unfold big; omega) ?_; intro v5 w5 hown5 hb5 hot5; clear hot5)
        go_roundw
        case rel => exact ⟨k + 1, by omega, by go_num, by rw [HB2.out]; exact hown5, hbr.trans hb5⟩
        case measure => simp [intOf]; omega
    · have hki : ¬ (k : Int) < 3 := by omega
      have hk3 : k = 3 := by omega
      have hown3 : Own ruleE 27 w2.heap.size wr u9 (Price.silkTo (wbit n) 3) := hk3 ▸ hown
      clear hown hk3
      go_upto_if 46 with fail
      go_cut [9] from 46 to 50 (fun v wx => Own ruleE 27 w2.heap.size wx v (Price.silkList (wbit n)) ∧ Below w2.heap.size w2 wx)
      case first =>
        have hzr := hbr.size
        have hlen := Price.silkTo_length (wbit n) 3
        have HB := Lib.hid (show Price.silkList (wbit n) = Price.silkTo (wbit n) 3 ++ Price.silkPart (wbit n 3) (-1) 5 from rfl)
        generalize Price.silkTo (wbit n) 3 = l at *
        cases hb : (bits BinOp.and IntKind.u8 (n / 8) 1 == 1)
        · have HB2 : Hid (Price.silkList (wbit n) = l) := Lib.hid (by rw [HB.out, show wbit n 3 = false from hb]; simp [Price.silkPart])
          clear HB
          go_wp2_with fail
          go_meet
          exact ⟨by rw [HB2.out]; exact hown3, hbr⟩
        · have HB2 : Hid (Price.silkList (wbit n) = l ++ [⟨-1, -1, -1, 5⟩]) := Lib.hid (by rw [HB.out, show wbit n 3 = true from hb]; simp [Price.silkPart])
          clear HB
          go_wp2_with (at_builtin; refine wpApp1G ruleE tyRules rfl _ _ rfl hown3 (⟨-1, -1, -1, 5⟩ : Rule) (by rfl) rfl rfl rfl hzr (by unfold big; omega) ?_; intro v5 w5 hown5 hb5 hot5; clear hot5)
          go_meet
          exact ⟨by rw [HB2.out]; exact hown5, hbr.trans hb5⟩
      case rest =>
        clear hown3 hbr
        obtain ⟨hown, hbr⟩ := hcut
        go_upto_region 12 with fail
        have hL : Blk ((wc.alloc (.cells #[iv (-1), iv 2] 115)).alloc (.cells #[iv 1, .slice (some ⟨wc.heap.size, 0, none⟩) 1 1, .slice none 0 0] 119)) wc.heap.size 115 #[iv (-1), iv 2] := (Blk.new _ _ _).alloc _
        have hM : Blk ((wc.alloc (.cells #[iv (-1), iv 2] 115)).alloc (.cells #[iv 1, .slice (some ⟨wc.heap.size, 0, none⟩) 1 1, .slice none 0 0] 119)) (wc.heap.size + 1) 119 #[iv 1, .slice (some ⟨wc.heap.size, 0, none⟩) 1 1, .slice none 0 0] := Blk.new_ _ _ _ (by simp)
        have hb3 : Below wc.heap.size wc ((wc.alloc (.cells #[iv (-1), iv 2] 115)).alloc (.cells #[iv 1, .slice (some ⟨wc.heap.size, 0, none⟩) 1 1, .slice none 0 0] 119)) := ((Below.refl _ _).alloc (Nat.le_refl _) _).alloc (by simp) _
        change Code.wp _ _ _ _ ((wc.alloc (.cells #[iv (-1), iv 2] 115)).alloc (.cells #[iv 1, .slice (some ⟨wc.heap.size, 0, none⟩) 1 1, .slice none 0 0] 119))
        have hzc : w2.heap.size ≤ wc.heap.size := hbr.size
        have hown3 := hown.below hb3
        have hb23 := hbr.trans (hb3.mono hbr.size)
        have hLo : Own lotE 115 w2.heap.size ((wc.alloc (.cells #[iv (-1), iv 2] 115)).alloc (.cells #[iv 1, .slice (some ⟨wc.heap.size, 0, none⟩) 1 1, .slice none 0 0] 119)) (.slice (some ⟨wc.heap.size, 0, none⟩) 1 1) [⟨-1, 2⟩] := Own.ofBlk (xs := [(⟨-1, 2⟩ : SLot)]) (by exact hL) hzc (by simp [maxLen])
        generalize (wc.alloc (.cells #[iv (-1), iv 2] 115)).alloc (.cells #[iv 1, .slice (some ⟨wc.heap.size, 0, none⟩) 1 1, .slice none 0 0] 119) = w3 at *
        have hgm : w2.heap.size < wc.heap.size + 1 := by omega
        generalize wc.heap.size + 1 = gm at *
        generalize some (⟨wc.heap.size, 0, none⟩ : Addr) = Al at *
        have hg12 : g + 1 ≤ w1.heap.size := hsp.2.1
        have hg2e : g2 < w2.heap.size := by omega
        have hgg : g < g2 := by omega
        have HSP3 := Lib.hid ((hsp.below (hb2.trans (hb23.mono hb2.size)) hg12))
        have HW := Lib.hid (hb1.trans (hb2.trans (hb23.mono hb2.size) |>.mono hb1.size))
        have HQ3 : Hid (∀ x : World, w3.heap.size ≤ x.heap.size → (∀ b, b < w.heap.size → x.heap[b]? = w.heap[b]?) → x.heap[g2]? = w3.heap[g2]? → IsSpool (g2 + 1) x g2 0) := Lib.hid fun x hz hk hq => HSP2.out x (Nat.le_trans hb23.size hz) hk (hq.trans (hb23.block g2 hg2e))
        have HG := Lib.hid hg
        have HG2 := Lib.hid hg2
        clear hL hbr hb3 hown hb23 HSP2 hsp hb1 hb2 hg12
        have HUP := Lib.hid (upto_spec (g + 1) w3 g 0 40 HSP3.out (by omega) (by omega))
        rw [← hg, ← hg2]
        clear hg hg2 hz2
        go_wp2_with fail
        refine HUP.out.mono ?_
        rintro e w4 ⟨dry, rfl, hdry, _, ho4⟩
        have hz34 := ho4.below.size
        have hown4 := hown3.keep hz34 fun b hv => ho4.other b (hown3.lt b hv).2 (by have := (hown3.lt b hv).1; omega)
        have hLo4 := hLo.keep hz34 fun b hv => ho4.other b (hLo.lt b hv).2 (by have := (hLo.lt b hv).1; omega)
        have hM4 := hM.only (by omega) ho4
        have hW4 : Below w.heap.size w w4 := HW.out.trans (ho4.below.mono (by rw [HG.out]; exact Nat.le_refl _))
        have HSPQ : Hid (IsSpool (g2 + 1) w4 g2 0) := Lib.hid (HQ3.out w4 hz34 (fun b hb => hW4.block b hb) (ho4.other g2 (by have := hM.lt; omega) (by omega)))
        have hdry40 : (dry : Int) ≤ 40 := by omega
        have hdry0 : (0 : Int) ≤ (dry : Int) := by omega
        clear HUP HSP3 HW HQ3 hown3 hLo hM ho4 hdry
        have hcf := callFunc_run (P := Try.prog) (K := 77) (by kernel_rfl)
        have HE4 := Lib.hid (edge_spec Al 1 none [] 0 gm w4 (by simpa using hM4) hLo4.sl Sl.nil (by simp) (fun _ h => by cases h) (by decide) (by decide) (by decide))
        rw [show Price.silkEdge (Price.sbnd []) = 1 from rfl] at HE4
        have hmf : ∀ (fn : Fn) (first cap : Array Value) (w : World), (Instr.makeFunc fn first cap).run Try.prog w = .ok (.func fn first cap) w := fun _ _ _ _ => rfl
        go_wp2_with fail
        refine HE4.out.mono ?_
        rintro e w5 ⟨rfl, hb5⟩
        go_wp2_with fail
        have hinv : SilkInv dry g2 gm (Price.silkList (wbit n)) u9 w 0 [] Al 1 none 0 w5 := ⟨rfl, (fun _ h => by cases h), (hLo4.below hb5).base (by omega), Own.nil, hM4.under hb5, (hown4.below hb5).base (by omega), HSPQ.out.below hb5 HSPQ.out.2.1, hW4.next hb5 (Nat.le_refl _), by omega, by have := HG.out; omega⟩
        clear HE4 hown4 hLo4 hM4 hW4 HSPQ hb5
        go_loopw [14, 64] (fun was i x => ∃ (k : Nat) (ws : List Weigh) (Al : Option Addr) (cl : Nat) (Aw : Option Addr) (cw : Nat), k ≤ 3 ∧ i = iv k ∧ was = iv (Price.silkEdge (Price.sbnd ws)) ∧ SilkInv dry g2 gm (Price.silkList (wbit n)) u9 w k ws Al cl Aw cw x) (fun _ i _ => 3 - (intOf i).toNat)
        case atStart => exact ⟨0, [], Al, 1, none, 0, by omega, rfl, rfl, hinv⟩
        case round =>
          clear hinv
          obtain ⟨k, ws, Al, cl, Aw, cw, hk3, rfl, rfl, hinv⟩ := hrel
          by_cases hlt : k < 3
          · have hki : (k : Int) < 3 := by omega
            have hHU := upto_spec (g2 + 1) wr g2 k 30 hinv.spool (by omega) (by omega)
            have HU := Lib.hid hHU
            have HI := Lib.hid hinv
            clear hHU hinv
            have HBD := Lib.hid (sbnd_within (fun y hy => HI.out.ok y hy) hdry0 (by omega))
            generalize hq : Price.sbnd ws = q at *
            have HQ := Lib.hid hq
            clear hq
            go_wp2_with fail
            refine HU.out.mono ?_
            rintro e w6 ⟨damp, rfl, hdamp, hsp6, ho6⟩
            have hz6 := ho6.below.size
            have hM6 := HI.out.mill.only (by have := HI.out.lt; omega) ho6
            have m0 := hM6.cell
            have m1 := hM6.lt
            have hM6l := hM6.lt
            have hd30 : (damp : Int) ≤ 30 := by omega
            have hd0 : (0 : Int) ≤ (damp : Int) := by omega
            clear HU
            have hp0 : 0 ≤ (dry : Int) * (100 + (damp : Int)) := Int.mul_nonneg hdry0 (by omega)
            have hp1 : (dry : Int) * (100 + (damp : Int)) ≤ 40 * 130 := Int.mul_le_mul hdry40 (by omega) (by omega) (by omega)
            have e1 : RowKit.wrap64 ((RowKit.wrap64 (RowKit.wrap64 ((dry : Int) * (100 + (damp : Int))) + 50)).tdiv 100) = ((dry : Int) * (100 + (damp : Int)) + 50) / 100 := by
              generalize (dry : Int) * (100 + (damp : Int)) = p at hp0 hp1
              rw [IntWalk.wrap64_in p ⟨by omega, by omega⟩, IntWalk.wrap64_in (p + 50) ⟨by omega, by omega⟩, Int.tdiv_eq_ediv_of_nonneg (by omega), IntWalk.wrap64_in ((p + 50) / 100) ⟨by omega, by omega⟩]
            have E1 := Lib.hid e1
            have HF := Lib.hid (says_fits dry damp hdry0 hdry40 hd0 hd30)
            generalize hx : (⟨0, ((dry : Int) * (100 + (damp : Int)) + 50) / 100, max 0 ((damp : Int) - 2), (damp : Int) + 2⟩ : Weigh) = x at HF
            have HX := Lib.hid hx
            have hlo6 := HI.out.lots.keep hz6 fun b hv => ho6.other b (HI.out.lots.lt b hv).2 (by have := (HI.out.lots.lt b hv).1; omega)
            have hwo6 := HI.out.weighs.keep hz6 fun b hv => ho6.other b (HI.out.weighs.lt b hv).2 (by have := (HI.out.weighs.lt b hv).1; omega)
            have hro6 := HI.out.rules.keep hz6 fun b hv => ho6.other b (HI.out.rules.lt b hv).2 (by have := (HI.out.rules.lt b hv).1; omega)
            have hb06 : Below w.heap.size w w6 := HI.out.below.trans (ho6.below.mono (by have := HI.out.wlt; omega))
            have hwg := weigh_spec Al cl Aw ws cw x w6 hlo6.sl hwo6.sl (by rw [HI.out.len]; omega) (fun y hy => (HI.out.ok y hy).1) HF.out.1
            rw [HI.out.len] at hwg
            have HWG := Lib.hid hwg
            clear hp0 hp1 e1 hx hwg
            go_wp2_with fail
            rw [E1.out]
            refine (show Calls Try.prog 79 #[millV Al cl Aw k cw, Weigh.v ⟨0, ((dry : Int) * (100 + (damp : Int)) + 50) / 100, max 0 ((damp : Int) - 2), (damp : Int) + 2⟩] w6 _ from by rw [HX.out]; exact HWG.out).mono ?_
            rintro e w7 ⟨A2, c2, A3, c3, rfl, hl7, hw7, hb7⟩
            have hM7 := hM6.under hb7
            have n1 := hM7.cell
            have n2 := hM7.frozen
            have n3 := hM7.lt
            have HM7 := Lib.hid hM7
            clear m0 m1 hM7 hM6
            go_upto_region 24 with fail
            change Code.wp _ _ _ _ ((((w7.setCell ⟨gm, 0, none⟩ (iv 1)).setCell ⟨gm, 1, none⟩ (.slice A2 1 c2)).setCell ⟨gm, 2, none⟩ (.slice A3 (k + 1) c3)).alloc (.cells #[iv 1, .slice A2 1 c2, .slice A3 (k + 1) c3] 119))
            have hgl := HI.out.lt
            have hgw := HI.out.wlt
            have hM9 : Blk ((w7.setCell ⟨gm, 0, none⟩ (iv 1)).setCell ⟨gm, 1, none⟩ (.slice A2 1 c2) |>.setCell ⟨gm, 2, none⟩ (.slice A3 (k + 1) c3)) gm 119 #[iv 1, .slice A2 1 c2, .slice A3 (k + 1) c3] := by simpa using ((HM7.out.set_ 0 (iv 1)).set_ 1 (.slice A2 1 c2)).set_ 2 (.slice A3 (k + 1) c3)
            have hgm6 : gm < w6.heap.size := by have := hM6l; omega
            have hl9 := ((hl7.setCell (p := ⟨gm, 0, none⟩) hgm6 (iv 1)).setCell (p := ⟨gm, 1, none⟩) hgm6 (.slice A2 1 c2)).setCell (p := ⟨gm, 2, none⟩) hgm6 (.slice A3 (k + 1) c3)
            have hw9 := ((hw7.setCell (p := ⟨gm, 0, none⟩) hgm6 (iv 1)).setCell (p := ⟨gm, 1, none⟩) hgm6 (.slice A2 1 c2)).setCell (p := ⟨gm, 2, none⟩) hgm6 (.slice A3 (k + 1) c3)
            have hro7 := hro6.below hb7
            have hr9 : Own ruleE 27 (g2 + 1) ((w7.setCell ⟨gm, 0, none⟩ (iv 1)).setCell ⟨gm, 1, none⟩ (.slice A2 1 c2) |>.setCell ⟨gm, 2, none⟩ (.slice A3 (k + 1) c3)) u9 (Price.silkList (wbit n)) := hro7.keep (by simp [World.setCell]) fun b hv => by
              have hne : b ≠ gm := fun e => Own.ne_blkS hro7 HM7.out (by decide) (by rw [hv, e])
              rw [Below.heap_setCell _ _ _ b hne, Below.heap_setCell _ _ _ b hne, Below.heap_setCell _ _ _ b hne]
            have hs9 : IsSpool (g2 + 1) ((w7.setCell ⟨gm, 0, none⟩ (iv 1)).setCell ⟨gm, 1, none⟩ (.slice A2 1 c2) |>.setCell ⟨gm, 2, none⟩ (.slice A3 (k + 1) c3)) g2 (k + 1) := (hsp6.below hb7 hsp6.2.1).keep (by simp [World.setCell]) fun b hv => by
              have hne : b ≠ gm := by omega
              rw [Below.heap_setCell _ _ _ b hne, Below.heap_setCell _ _ _ b hne, Below.heap_setCell _ _ _ b hne]
            have hb9 : Below w.heap.size w ((w7.setCell ⟨gm, 0, none⟩ (iv 1)).setCell ⟨gm, 1, none⟩ (.slice A2 1 c2) |>.setCell ⟨gm, 2, none⟩ (.slice A3 (k + 1) c3)) := (((hb06.next hb7 (Nat.le_refl _)).setCell (by simp; omega) _).setCell (by simp; omega) _).setCell (by simp; omega) _
            generalize ((w7.setCell ⟨gm, 0, none⟩ (iv 1)).setCell ⟨gm, 1, none⟩ (.slice A2 1 c2)).setCell ⟨gm, 2, none⟩ (.slice A3 (k + 1) c3) = w9 at *
            have hok9 : ∀ y ∈ ws ++ [x], y.Ok ∧ y.sLo ≤ (dry : Int) ∧ (dry : Int) ≤ y.sHi := fun y hy => by
              rcases List.mem_append.1 hy with h | h
              · exact HI.out.ok y h
              · rw [List.mem_singleton.1 h]; exact HF.out
            have hlen9 : (ws ++ [x]).length = k + 1 := by rw [List.length_append, HI.out.len]; rfl
            have hb10 : Below w9.heap.size w9 (w9.alloc (.cells #[iv 1, .slice A2 1 c2, .slice A3 (k + 1) c3] 119)) := (Below.refl _ _).alloc (Nat.le_refl _) _
            have hsb := sbnd_within hok9 hdry0 (by omega)
            have hinv : SilkInv dry g2 gm (Price.silkList (wbit n)) u9 w (k + 1) (ws ++ [x]) A2 c2 A3 c3 (w9.alloc (.cells #[iv 1, .slice A2 1 c2, .slice A3 (k + 1) c3] 119)) :=
              ⟨hlen9, hok9, (hl9.below hb10).base (by omega), (hw9.below hb10).base (by omega), hM9.under hb10, hr9.below hb10, hs9.below hb10 hs9.2.1, hb9.next hb10 (Nat.le_refl _), hgl, hgw⟩
            have hed := edge_spec A2 c2 A3 (ws ++ [x]) c3 gm _ (by rw [hlen9]; exact hinv.mill) hinv.lots.sl hinv.weighs.sl (by rw [hlen9]; omega) (fun y hy => (hok9 y hy).1) (by omega) hsb.2.2.1 hsb.2.2.2
            have HED := Lib.hid hed
            have HINV := Lib.hid hinv
            have hsn := sbnd_snoc ws x
            rw [HQ.out] at hsn
            have hkp : Price.silkEdge q ≠ 1 → Price.silkEdge (Price.sbnd (ws ++ [x])) = Price.silkEdge q := fun h => by
              rw [hsn]
              exact silkEdge_keeps HBD.out.1 HBD.out.2.1 HF.out.2.1 HF.out.2.2 hdry0 h
            have HKP := Lib.hid hkp
            clear hed hinv hsn hkp hsb hb10 hlen9 hok9 hb9 hs9 hr9 hw9 hl9 hM9 hro7 hro6 hb7 hl7 hw7 hsp6 hgm6 n1 n2 n3 HM7 hb06 hlo6 hwo6
            generalize (w9.alloc (.cells #[iv 1, .slice A2 1 c2, .slice A3 (k + 1) c3] 119)) = w10 at *
            go_upto_region 25 with (go_at_call 77; refine HED.out.mono ?_; rintro e w11 ⟨rfl, hb11⟩)
            generalize hq2 : Price.silkEdge (Price.sbnd (ws ++ [x])) = e2 at *
            generalize hq1 : Price.silkEdge q = e1 at *
            have HE2 : Hid (Price.silkEdge (Price.sbnd (ws ++ [x])) = e2) := Lib.hid hq2
            clear hq1 hq2
            have HI11 := Lib.hid (HINV.out.under hb11)
            by_cases h1 : e1 = 1
            · subst h1
              go_wp2_with fail
              go_roundw
              case rel => exact ⟨k + 1, ws ++ [x], A2, c2, A3, c3, by omega, by go_num, by rw [HE2.out], HI11.out⟩
              case measure => simp [intOf]; omega
            · obtain rfl : e2 = e1 := HKP.out h1
              have hne : ¬ (e2 : Int) = 1 := by omega
              clear h1
              go_wp2_with fail
              go_roundw
              case rel => exact ⟨k + 1, ws ++ [x], A2, c2, A3, c3, by omega, by go_num, by rw [HE2.out], HI11.out⟩
              case measure => simp [intOf]; omega
          · have hki : ¬ (k : Int) < 3 := by omega
            have hI := Lib.hid hinv
            have hsb := sbnd_within (fun y hy => hinv.ok y hy) hdry0 (by omega)
            have he2 := silkEdge_two hsb.1
            have he0 := silkEdge_zero hsb.2.1
            have hel := silkEdge_lt (Price.sbnd ws)
            generalize Price.silkEdge (Price.sbnd ws) = e at *
            have hpr := Price.silk_price (wbit n) e hel
            obtain ⟨Ar, cr, rfl, hcr, hcm⟩ := hinv.rules.form
            have hlen : (Price.silkList (wbit n)).length ≤ 4 := by
              have := Price.silkTo_length (wbit n) 3
              unfold Price.silkList
              rw [List.length_append]
              have : (Price.silkPart (wbit n 3) (-1) 5).length ≤ 1 := by unfold Price.silkPart; split <;> simp
              omega
            have hsl := hinv.rules.sl
            have hps : ∀ X, Below wr.heap.size wr X → _ := fun X hX => price_spec Ar (Price.silkList (wbit n)) cr ⟨0, 0, e⟩ X (by unfold big; omega) hcr (hsl.below hX)
            rw [hpr] at hps
            have hbw := hinv.below
            clear hinv hpr hsl hsb
            generalize (Price.silkList (wbit n)).length = ll at *
            clear hI
            have HPS := Lib.hid hps
            have H2 := Lib.hid he2
            have H0 := Lib.hid he0
            clear hps he2 he0
            go_upto_region 29 with fail
            go_cut [120] from 107 to 120 (fun v wx => v = .bool false ∧ wx = wr)
            case first =>
              rcases (by omega : e = 0 ∨ e = 1 ∨ e = 2) with h | h | h
              · have b2 : ((e : Int) == 2) = false := by simp; omega
                have b0 : ((e : Int) == 0) = true := by simp; omega
                have d0 : ¬ 0 < dry := by have := H0.out h; omega
                clear h
                go_wp2_with fail
                go_meet
                exact ⟨rfl, rfl⟩
              · have b2 : ((e : Int) == 2) = false := by simp; omega
                have b0 : ((e : Int) == 0) = false := by simp; omega
                clear h
                go_wp2_with fail
                go_meet
                exact ⟨rfl, rfl⟩
              · have b2 : ((e : Int) == 2) = true := by simp; omega
                have b0 : ((e : Int) == 0) = false := by simp; omega
                have d0 : ((dry : Int) == 0) = false := by have := H2.out h; simp; omega
                clear h
                go_wp2_with fail
                go_meet
                exact ⟨rfl, rfl⟩
            case rest =>
              obtain ⟨rfl, rfl⟩ := hcut
              have HPS2 := Lib.hid (HPS.out _ (Below.refl _ _))
              clear HPS H2 H0
              cases hb : wbit n e
              · rw [hb] at HPS2
                have hbe : (bits BinOp.and IntKind.u8 (n / 2 ^ e) 1 == 1) = false := hb
                clear hb
                simp only [Bool.false_eq_true, if_false] at HPS2
                cases hb3 : wbit n 3
                · rw [hb3] at HPS2
                  have hb8 : (bits BinOp.and IntKind.u8 (n / 8) 1 == 1) = false := hb3
                  clear hb3
                  simp only [Bool.false_eq_true, if_false] at HPS2
                  go_wp2_with (first
                    | (go_at_call 28; refine HPS2.out.mono ?_; rintro e0 wa ⟨rfl, hba⟩)
                    | (go_at_call 20; refine (awake_spec _).mono ?_; rintro e0 wb ⟨rfl, hbb⟩))
                  go_ret
                  exact ⟨rfl, (hbw.next hba (Nat.le_refl _)).next hbb (Nat.le_refl _)⟩
                · rw [hb3] at HPS2
                  have hb8 : (bits BinOp.and IntKind.u8 (n / 8) 1 == 1) = true := hb3
                  clear hb3
                  simp only [if_true] at HPS2
                  go_wp2_with (first
                    | (go_at_call 28; refine HPS2.out.mono ?_; rintro e0 wa ⟨rfl, hba⟩)
                    | (go_at_call 20; refine (awake_spec _).mono ?_; rintro e0 wb ⟨rfl, hbb⟩))
                  go_ret
                  exact ⟨rfl, (hbw.next hba (Nat.le_refl _)).next hbb (Nat.le_refl _)⟩
              · rw [hb] at HPS2
                have hbe : (bits BinOp.and IntKind.u8 (n / 2 ^ e) 1 == 1) = true := hb
                clear hb
                simp only [if_true] at HPS2
                go_wp2_with (first
                  | (go_at_call 28; refine HPS2.out.mono ?_; rintro e0 wa ⟨rfl, hba⟩)
                  | (go_at_call 20; refine (awake_spec _).mono ?_; rintro e0 wb ⟨rfl, hbb⟩))
                go_ret
                exact ⟨rfl, (hbw.next hba (Nat.le_refl _)).next hbb (Nat.le_refl _)⟩
end Go.Proofs.Ytblmlpkjocbhpaa
