/- Exchange of package price. Conditions: lengths are below a great bound. -/
import Derived.Test.YtkailkfiakagfaaGreatPriceJ
import Derived.Test.YtkailkfiakagfaaGreatDraw
import Derived.WalkMore
import Derived.Deep.RegionHeld3
set_option linter.unusedVariables false
set_option linter.unusedSimpArgs false
namespace Go.Proofs.YtkailkfiakagfaaGreat
open Go.RowKit
set_option maxRecDepth 100000

theorem len3 {α : Type} (l : List α) (h : l.length = 3) : ∃ a b c, l = [a, b, c] := by
  match l, h with
  | [a, b, c], _ => exact ⟨a, b, c, rfl⟩
theorem fieldsPiece : ((Tryz.prog).fieldsOf 26).toList.map (fun f => (f.name, f.type, f.offset)) = [("Breadth", 3, 0), ("Shade", 3, 1), ("Edge", 3, 2)] := by kernel_rfl
theorem eqPiece (a b c d e f : Int) (w : World) : (Op.equalIn 10000 26 (.agg #[iv a, iv b, iv c]) (.agg #[iv d, iv e, iv f])).run Tryz.prog w = .ok (a == d && (b == e && c == f)) w := by
  have h := run_equalIn_agg (P := Tryz.prog) w 9999 26 #[iv a, iv b, iv c] #[iv d, iv e, iv f] (by kernel_rfl) (by kernel_rfl)
  rw [h]
  have h3 : ∀ (x y : Int) (d : Nat), (Op.equalIn (d + 1) 3 (iv x) (iv y)).run Tryz.prog w = .ok (x == y) w := fun x y d => run_equalIn_int w d _ _ _ _ _ Tryz.underlying3
  have hf := fieldsPiece
  have hlen : ((Tryz.prog).fieldsOf 26).toList.length = 3 := by have := congrArg List.length hf; simpa using this
  obtain ⟨f0, f1, f2, hl⟩ := len3 _ hlen
  rw [hl] at hf ⊢
  simp only [List.map_cons, List.map_nil, List.cons.injEq, Prod.mk.injEq, and_true] at hf
  obtain ⟨⟨n0, t0, o0⟩, ⟨n1, t1, o1⟩, n2, t2, o2⟩ := hf
  have hp0 : ∀ a b c : Int, (part 3 #[iv a, iv b, iv c] 0).run Tryz.prog w = .ok (iv a) w := fun _ _ _ => by kernel_rfl
  have hp1 : ∀ a b c : Int, (part 3 #[iv a, iv b, iv c] 1).run Tryz.prog w = .ok (iv b) w := fun _ _ _ => by kernel_rfl
  have hp2 : ∀ a b c : Int, (part 3 #[iv a, iv b, iv c] 2).run Tryz.prog w = .ok (iv c) w := fun _ _ _ => by kernel_rfl
  simp only [Op.eqFields, n0, n1, n2, t0, t1, t2, o0, o1, o2]
  by_cases h1 : a = d <;> by_cases h2 : b = e <;> by_cases h3' : c = f <;>
    simp [hp0, hp1, hp2, h3, Result.andThen, h1, h2, h3', Sem.run_bind]
namespace Price
def searchK (f : Nat → Bool) (k : Nat) : Nat → Option Nat
  | 0 => none
  | c + 1 => if f k then some k else searchK f (k + 1) c
def searchIK (f : Nat → Nat → Bool) (n i : Nat) : Nat → Option (Nat × Nat)
  | 0 => none
  | c + 1 => match searchK (f i) (i + 1) (n - (i + 1)) with
    | some k => some (i, k)
    | none => searchIK f n (i + 1) c
def betterExch (fall : Int) (stock : List Piece) (prices plan : List Int) (i k : Nat) : Bool :=
  stock[i]? != stock[k]? && decide (earns fall prices plan < earns fall prices (exch plan i k))
def exchangeOf (l : List Rule) (fall : Int) (bought : List Int) (stock : List Piece) (plan : List Int) : Int × Int × Int :=
  if planErr l fall bought stock plan = 0 then
    (match searchIK (betterExch fall stock (stocked l stock).1 plan) stock.length 0 stock.length with
     | some (i, k) => ((i : Int), (k : Int), 0)
     | none => (0, 0, 6))
  else (0, 0, planErr l fall bought stock plan)
end Price
set_option maxHeartbeats 4000000 in
theorem Exchange_spec
    (A : Option Addr) (l : List Rule) (c : Nat) (fall : Int) (Ab : Option Addr) (bought : List Int) (cb : Nat) (As : Option Addr) (stock : List Piece) (cs : Nat) (w : World) (hm : l.length ≤ big) (hc : l.length ≤ c) (hs : Sl ruleE w A l) (hmb : bought.length ≤ big) (hsb : Sl intE w Ab bought) (hms : stock.length ≤ big) (hss : Sl pieceE w As stock)
    (App : Option Addr) (plan : List Int) (cp : Nat) (hmp : plan.length ≤ big) (hsp : Sl intE w App plan)
    : Calls Tryz.prog 52 #[.slice A l.length c, saleV fall Ab bought.length cb, .slice As stock.length cs, .slice App plan.length cp] w fun e w' =>
      e = .returned (.tuple #[iv (Price.exchangeOf l fall bought stock plan).1, iv (Price.exchangeOf l fall bought stock plan).2.1, iv (Price.exchangeOf l fall bought stock plan).2.2]) ∧ Below w.heap.size w w' := by
  have hop := planned_spec A l c fall Ab bought cb As stock cs (w.alloc (.cells #[iv fall, .slice Ab bought.length cb] 30)) hm hc (hs.alloc _) hmb (hsb.alloc _) hms (hss.alloc _) App plan cp hmp (hsp.alloc _)
  have HOP := Lib.hid hop
  clear hop
  by_cases h0 : Price.planErr l fall bought stock plan = 0
  · have ho := Price.planErr_ok h0
    rw [h0] at HOP
    have HO := Lib.hid ho
    have H0 := Lib.hid h0
    clear ho h0
    go_enter Tryz.func52, Tryz.ntmps52
    go_wp2_with (first
      | go_step3
      | (go_at_call 80; refine HOP.out.mono ?_; rintro e w1 ⟨hb1, ⟨h, _⟩ | ⟨_, g, Ap, cpp, rfl, hd⟩⟩; exact absurd rfl h))
    have hb1' := hb1.of_alloc
    have hd1 := hd
    obtain ⟨prices, hpr⟩ : ∃ ps, ps = (Price.stocked l stock).1 := ⟨_, rfl⟩
    rw [← hpr] at hd
    have HPR := Lib.hid hpr
    clear hpr hd1
    go_loopw [8, 9, 10, 27] (fun a b e i wr => ∃ (k : Nat), k ≤ stock.length ∧ i = iv k ∧ a = iv 0 ∧ b = iv 0 ∧ e = iv 6 ∧ Below w1.heap.size w1 wr ∧
      Hid (Price.searchIK (Price.betterExch fall stock prices plan) stock.length k (stock.length - k) = Price.searchIK (Price.betterExch fall stock prices plan) stock.length 0 stock.length)) (fun _ _ _ i _ => stock.length - (intOf i).toNat)
    case atStart => exact ⟨0, by omega, rfl, rfl, rfl, rfl, Below.refl _ _, rfl⟩
    case round =>
      obtain ⟨i, hi, rfl, rfl, rfl, rfl, hbw, hf⟩ := hrel
      by_cases hlt : i < stock.length
      · have hnn : stock.length ≤ 10 := HO.out.hstock
        have hf' := hf.out
        rw [show stock.length - i = (stock.length - (i + 1)) + 1 from by omega] at hf'
        simp only [Price.searchIK] at hf'
        have HF := Lib.hid hf'
        clear hf hf'
        go_wp2
        obtain ⟨wo, rfl⟩ : ∃ wo : World, wo = wr := ⟨_, rfl⟩
        go_loopw [8, 9, 10, 13] (fun a b e i2 wr => ∃ (k : Nat), i + 1 ≤ k ∧ k ≤ stock.length ∧ i2 = iv k ∧ a = iv 0 ∧ b = iv 0 ∧ e = iv 6 ∧ Below wo.heap.size wo wr ∧
          Hid (Price.searchK (Price.betterExch fall stock prices plan i) k (stock.length - k) = Price.searchK (Price.betterExch fall stock prices plan i) (i + 1) (stock.length - (i + 1)))) (fun _ _ _ i2 _ => stock.length - (intOf i2).toNat)
        case atStart => exact ⟨i + 1, by omega, by omega, by go_num, rfl, rfl, rfl, Below.refl _ _, rfl⟩
        case round =>
          obtain ⟨k, hk1, hk, rfl, rfl, rfl, rfl, hbi, hg⟩ := hrel
          by_cases hkt : k < stock.length
          · have hg' := hg.out
            rw [show stock.length - k = (stock.length - (k + 1)) + 1 from by omega] at hg'
            simp only [Price.searchK] at hg'
            have HG := Lib.hid hg'
            clear hg hg'
            have hd' := (hd.below hbw).below hbi
            obtain ⟨b, off, p, rfl, hb, hp, hp0, hp1, hp2⟩ := hd'.ss.atP hlt
            obtain ⟨b', off', q, hA, hb', hq, hq0, hq1, hq2⟩ := hd'.ss.atP hkt
            injection hA with hA
            injection hA with e1 e2
            subst e1 e2
            have hcg : wr.cell? ⟨g, 2, none⟩ = some (.slice (some ⟨b, off, none⟩) stock.length cs) := hd'.c2
            obtain ⟨pa, pb, pc⟩ := p
            obtain ⟨qa, qb, qc⟩ := q
            dsimp only at hp0 hp1 hp2 hq0 hq1 hq2
            have hgl := hd'.lt
            have heq : ∀ w, (Op.equalIn 10000 26 (.agg #[iv pa, iv pb, iv pc]) (.agg #[iv qa, iv qb, iv qc])).run Tryz.prog w = .ok (pa == qa && (pb == qb && pc == qc)) w := eqPiece pa pb pc qa qb qc
            have hin : (i : Int) < (stock.length : Int) := by omega
            have hkn : (k : Int) < (stock.length : Int) := by omega
            have hF : ∀ a : World, Below wr.heap.size wr a → a.cell? ⟨g, 2, none⟩ = some (.slice (some ⟨b, off, none⟩) stock.length cs) ∧ (a.cell? ⟨b, off + i * 3, none⟩ = some (iv pa) ∧ a.cell? ⟨b, off + i * 3 + 1, none⟩ = some (iv pb) ∧ a.cell? ⟨b, off + i * 3 + 2, none⟩ = some (iv pc)) ∧
                (a.cell? ⟨b, off + k * 3, none⟩ = some (iv qa) ∧ a.cell? ⟨b, off + k * 3 + 1, none⟩ = some (iv qb) ∧ a.cell? ⟨b, off + k * 3 + 2, none⟩ = some (iv qc)) := fun a h => by
              have e1 := fun o => h.cell (p := ⟨g, o, none⟩) hgl
              have e2 := fun o => h.cell (p := ⟨b, o, none⟩) hb
              simp only [e1, e2]
              exact ⟨hcg, ⟨hp0, hp1, hp2⟩, hq0, hq1, hq2⟩
            have HFF := Lib.hid hF
            clear hF hcg hp0 hp1 hp2 hq0 hq1 hq2
            go_wp2
            cases hn : (pa == qa && (pb == qb && pc == qc))
            · rw [hn] at heq
              have hne : Price.betterExch fall stock prices plan i k = decide (Price.earns fall prices plan < Price.earns fall prices (Price.exch plan i k)) := by
                unfold Price.betterExch
                rw [hp, hq]
                have : (some (⟨pa, pb, pc⟩ : Piece) != some ⟨qa, qb, qc⟩) = true := by
                  rw [bne_iff_ne]
                  intro e
                  injection e with e
                  injection e with e1 e2 e3
                  subst e1 e2 e3
                  simp at hn
                rw [this, Bool.true_and]
              rw [hne] at HG
              have hsp' : Sl intE wr App plan := ((hsp.below hb1').below hbw).below hbi
              have hpl : plan.length = stock.length := HO.out.hplan
              have hprl : prices.length = stock.length := by rw [HPR.out]; exact HO.out.hlength
              have hpb : ∀ p ∈ prices, 0 ≤ p ∧ p ≤ 500 := by rw [HPR.out]; exact HO.out.hprices
              have hwk : ∀ x ∈ plan, -1 ≤ x ∧ x ≤ 100 := fun x hx => by have := HO.out.hplanweeks x hx; have := HO.out.hweeks1; omega
              have hwx : ∀ x ∈ Price.exch plan i k, -1 ≤ x ∧ x ≤ 100 := fun x hx => by
                unfold Price.exch at hx
                rcases List.mem_or_eq_of_mem_set hx with hx | rfl
                · rcases List.mem_or_eq_of_mem_set hx with hx | rfl
                  · exact hwk x hx
                  · have hkp : k < plan.length := by omega
                    rw [List.getD_eq_getElem?_getD, List.getElem?_eq_getElem hkp]
                    exact hwk _ (List.getElem_mem hkp)
                · have hkp : i < plan.length := by omega
                  rw [List.getD_eq_getElem?_getD, List.getElem?_eq_getElem hkp]
                  exact hwk _ (List.getElem_mem hkp)
              have hxl : (Price.exch plan i k).length = plan.length := by simp [Price.exch]
              have hE1 : ∀ (a : World) (A' : Option Addr) (c' : Nat), Below wr.heap.size wr a → Sl intE a A' (Price.exch plan i k) → Calls Tryz.prog 81 #[.pointer (some ⟨g, 0, none⟩), .slice A' (Price.exch plan i k).length c'] a fun e w' => e = .returned (iv (Price.earns fall prices (Price.exch plan i k))) ∧ Below a.heap.size a w' :=
                fun a A' c' ha hsl => earns_spec g fall bought stock prices Ab cb _ cs Ap cpp A' _ c' a (hd'.below ha) hsl (by omega) (by omega) HO.out.hfall0 HO.out.hfall1 hpb hwx
              have hE2 : ∀ a : World, Below wr.heap.size wr a → Calls Tryz.prog 81 #[.pointer (some ⟨g, 0, none⟩), .slice App plan.length cp] a fun e w' => e = .returned (iv (Price.earns fall prices plan)) ∧ Below a.heap.size a w' :=
                fun a ha => earns_spec g fall bought stock prices Ab cb _ cs Ap cpp App plan cp a (hd'.below ha) (hsp'.below ha) (by omega) (by omega) HO.out.hfall0 HO.out.hfall1 hpb hwk
              have hX : ∀ a : World, Below wr.heap.size wr a → Calls Tryz.prog 82 #[.slice App plan.length cp, iv i, iv k] a fun e w' => ∃ v, e = .returned v ∧ Own intE 3 a.heap.size w' v (Price.exch plan i k) ∧ Below a.heap.size a w' :=
                fun a ha => exchanged_spec App plan cp i k a hmp (hsp'.below ha) (by omega) (by omega) (by omega)
              have HE1 := Lib.hid hE1
              have HE2 := Lib.hid hE2
              have HX := Lib.hid hX
              generalize Price.earns fall prices plan = e0 at *
              generalize Price.earns fall prices (Price.exch plan i k) = e1 at *
              clear hE1 hE2 hX hwx hwk hpb hprl hpl hsp' hxl hne
              have hK : ∀ a wx : World, Below wr.heap.size wr a → Below a.heap.size a wx → Below wr.heap.size wr wx ∧ (wx.cell? ⟨g, 2, none⟩ = some (.slice (some ⟨b, off, none⟩) stock.length cs) ∧ (wx.cell? ⟨b, off + i * 3, none⟩ = some (iv pa) ∧ wx.cell? ⟨b, off + i * 3 + 1, none⟩ = some (iv pb) ∧ wx.cell? ⟨b, off + i * 3 + 2, none⟩ = some (iv pc)) ∧ (wx.cell? ⟨b, off + k * 3, none⟩ = some (iv qa) ∧ wx.cell? ⟨b, off + k * 3 + 1, none⟩ = some (iv qb) ∧ wx.cell? ⟨b, off + k * 3 + 2, none⟩ = some (iv qc))) := fun a wx h hab => ⟨h.next hab (Nat.le_refl _), HFF.out wx (h.next hab (Nat.le_refl _))⟩
              have hK0 : Below wr.heap.size wr wr.drew ∧ (wr.drew.cell? ⟨g, 2, none⟩ = some (.slice (some ⟨b, off, none⟩) stock.length cs) ∧ (wr.drew.cell? ⟨b, off + i * 3, none⟩ = some (iv pa) ∧ wr.drew.cell? ⟨b, off + i * 3 + 1, none⟩ = some (iv pb) ∧ wr.drew.cell? ⟨b, off + i * 3 + 2, none⟩ = some (iv pc)) ∧ (wr.drew.cell? ⟨b, off + k * 3, none⟩ = some (iv qa) ∧ wr.drew.cell? ⟨b, off + k * 3 + 1, none⟩ = some (iv qb) ∧ wr.drew.cell? ⟨b, off + k * 3 + 2, none⟩ = some (iv qc))) := ⟨(Below.refl _ _).drew, HFF.out wr.drew (Below.refl _ _).drew⟩
              have HK := Lib.hid hK
              have HK0 := Lib.hid hK0
              clear hK hK0
              by_cases hcmp : e0 < e1
              · have he : Price.exchangeOf l fall bought stock plan = ((i : Int), (k : Int), 0) := by
                  have h1 := HG.out
                  rw [decide_eq_true hcmp] at h1
                  have h2 := HF.out
                  rw [← h1] at h2
                  unfold Price.exchangeOf
                  rw [if_pos H0.out, ← HPR.out, ← h2]
                  rfl
                have HE := Lib.hid he
                clear he
                go_region_held3 (fun a => Below wr.heap.size wr a ∧ (a.cell? ⟨g, 2, none⟩ = some (.slice (some ⟨b, off, none⟩) stock.length cs) ∧ (a.cell? ⟨b, off + i * 3, none⟩ = some (iv pa) ∧ a.cell? ⟨b, off + i * 3 + 1, none⟩ = some (iv pb) ∧ a.cell? ⟨b, off + i * 3 + 2, none⟩ = some (iv pc)) ∧ (a.cell? ⟨b, off + k * 3, none⟩ = some (iv qa) ∧ a.cell? ⟨b, off + k * 3 + 1, none⟩ = some (iv qb) ∧ a.cell? ⟨b, off + k * 3 + 2, none⟩ = some (iv qc)))) (first | exact HK0.out | exact HK.out _ _ (And.left ‹Below wr.heap.size wr _ ∧ _›) (by assumption))
                  (first
                    | (go_at_call 82; refine (HX.out _ (And.left ‹Below wr.heap.size wr _ ∧ _›)).mono ?_; rintro e w' ⟨v, rfl, hown, hbx⟩; obtain ⟨A', c', rfl, _, _⟩ := hown.form; have hsl := hown.sl)
                    | (go_at_call 81; (first | with_reducible refine (HE2.out _ (And.left ‹Below wr.heap.size wr _ ∧ _›)).mono ?_ | refine (HE1.out _ _ _ (And.left ‹Below wr.heap.size wr _ ∧ _›) (by assumption)).mono ?_); rintro e w' ⟨rfl, hbx⟩))
                have hbx := (And.left ‹Below wr.heap.size wr w' ∧ _›)
                go_wp2_with go_step3
                rw [Exit.noGoto_ret]
                go_ret3
                exact ⟨(by rw [HE.out]; rfl), hb1'.next ((hbw.next hbi (Nat.le_refl _)).next hbx (Nat.le_refl _)) (Nat.le_refl _)⟩
              · have hz : Price.searchK (Price.betterExch fall stock prices plan i) (k + 1) (stock.length - (k + 1)) = Price.searchK (Price.betterExch fall stock prices plan i) (i + 1) (stock.length - (i + 1)) := by
                  have h1 := HG.out
                  rw [decide_eq_false hcmp] at h1
                  exact h1
                have HZ := Lib.hid hz
                clear hz
                go_region_held3 (fun a => Below wr.heap.size wr a ∧ (a.cell? ⟨g, 2, none⟩ = some (.slice (some ⟨b, off, none⟩) stock.length cs) ∧ (a.cell? ⟨b, off + i * 3, none⟩ = some (iv pa) ∧ a.cell? ⟨b, off + i * 3 + 1, none⟩ = some (iv pb) ∧ a.cell? ⟨b, off + i * 3 + 2, none⟩ = some (iv pc)) ∧ (a.cell? ⟨b, off + k * 3, none⟩ = some (iv qa) ∧ a.cell? ⟨b, off + k * 3 + 1, none⟩ = some (iv qb) ∧ a.cell? ⟨b, off + k * 3 + 2, none⟩ = some (iv qc)))) (first | exact HK0.out | exact HK.out _ _ (And.left ‹Below wr.heap.size wr _ ∧ _›) (by assumption))
                  (first
                    | (go_at_call 82; refine (HX.out _ (And.left ‹Below wr.heap.size wr _ ∧ _›)).mono ?_; rintro e w' ⟨v, rfl, hown, hbx⟩; obtain ⟨A', c', rfl, _, _⟩ := hown.form; have hsl := hown.sl)
                    | (go_at_call 81; (first | with_reducible refine (HE2.out _ (And.left ‹Below wr.heap.size wr _ ∧ _›)).mono ?_ | refine (HE1.out _ _ _ (And.left ‹Below wr.heap.size wr _ ∧ _›) (by assumption)).mono ?_); rintro e w' ⟨rfl, hbx⟩))
                have hbx := (And.left ‹Below wr.heap.size wr w' ∧ _›)
                go_wp2
                go_roundw
                case rel => exact ⟨k + 1, by omega, by omega, by go_num, rfl, rfl, rfl, hbi.next hbx (Nat.le_refl _), HZ.out⟩
                case measure => simp [intOf]; omega
            · rw [hn] at heq
              refine wp_havoc_lit (by kernel_rfl) (by kernel_rfl) ?_
              repeat (first
                | (refine hv_skip (by rfl) ?_; simp only [Act.put, List.setIfInBounds_toArray, List.set_cons_zero, List.set_cons_succ])
                | (apply hv_val (by rfl); (intro w hw; have F := HFF.out w hw; go_simp; exact rfl); simp only [Act.put, List.setIfInBounds_toArray, List.set_cons_zero, List.set_cons_succ]))
              refine hv_nil ?_
              rintro w4 hb4
              go_wp2
              go_roundw
              case rel => exact ⟨k + 1, by omega, by omega, by go_num, rfl, rfl, rfl, hbi.next hb4 (Nat.le_refl _), by
                have := HG.out
                rw [show Price.betterExch fall stock prices plan i k = false from by
                  unfold Price.betterExch
                  rw [hp, hq]
                  simp only [Bool.and_eq_true, beq_iff_eq] at hn
                  obtain ⟨rfl, rfl, rfl⟩ := hn
                  simp] at this
                exact this⟩
              case measure => simp [intOf]; omega
          · have hg' := hg.out
            rw [show stock.length - k = 0 from by omega] at hg'
            simp only [Price.searchK] at hg'
            have hf' := HF.out
            rw [← hg'] at hf'
            have HF' := Lib.hid hf'
            clear hg hg' hf'
            go_wp2
            go_roundw
            case rel => exact ⟨i + 1, by omega, by go_num, rfl, rfl, rfl, hbw.next hbi (Nat.le_refl _), HF'.out⟩
            case measure => simp [intOf]; omega
      · have hf' := hf.out
        rw [show stock.length - i = 0 from by omega] at hf'
        simp only [Price.searchIK] at hf'
        have he : Price.exchangeOf l fall bought stock plan = (0, 0, 6) := by
          unfold Price.exchangeOf
          rw [if_pos H0.out, ← HPR.out, ← hf']
        have HE := Lib.hid he
        clear hf hf' he
        go_wp2_with go_step3
        rw [Exit.noGoto_ret]
        go_ret3
        exact ⟨(by rw [HE.out]; rfl), hb1'.next hbw (Nat.le_refl _)⟩
  · have he : Price.exchangeOf l fall bought stock plan = (0, 0, Price.planErr l fall bought stock plan) := by simp [Price.exchangeOf, h0]
    rw [he]
    clear he
    have h0' : (Price.planErr l fall bought stock plan != 0) = true := by simpa using h0
    go_enter Tryz.func52, Tryz.ntmps52
    go_wp2_with (first
      | go_step3
      | (go_at_call 80; refine HOP.out.mono ?_; rintro e w1 ⟨hb1, ⟨_, rfl⟩ | ⟨h, _⟩⟩; rotate_left; exact absurd h h0))
    rw [Exit.noGoto_ret]
    go_ret3
    exact ⟨rfl, hb1.of_alloc⟩
end Go.Proofs.YtkailkfiakagfaaGreat
-- Move of package price. Conditions: lengths are below a great bound.
namespace Go.Proofs.YtkailkfiakagfaaGreat
open Go.RowKit
set_option maxRecDepth 100000

namespace Price
def searchW (f : Nat → Bool) (k : Nat) : Nat → Option Nat
  | 0 => none
  | c + 1 => if f k then some k else searchW f (k + 1) c
def searchIW (f : Nat → Nat → Bool) (weeks i : Nat) : Nat → Option (Nat × Nat)
  | 0 => none
  | c + 1 => match searchW (f i) 0 weeks with
    | some k => some (i, k)
    | none => searchIW f weeks (i + 1) c
def betterMove (fall : Int) (bought prices plan : List Int) (i k : Nat) : Bool :=
  room bought (plan.set i k) && decide (earns fall prices plan < earns fall prices (plan.set i k))
def moveOf (l : List Rule) (fall : Int) (bought : List Int) (stock : List Piece) (plan : List Int) : Int × Int × Int :=
  if planErr l fall bought stock plan = 0 then
    (match searchIW (betterMove fall bought (stocked l stock).1 plan) bought.length 0 stock.length with
     | some (i, k) => ((i : Int), (k : Int), 0)
     | none => (0, 0, 6))
  else (0, 0, planErr l fall bought stock plan)
end Price
/-- Storing into a slice of the call's own. -/
theorem Own.store {e : TypeId} {B : Nat} {w : World} {g n cap : Nat} {xs : List Int} (h : Own intE e B w (.slice (some ⟨g, 0, none⟩) n cap) xs) (k : Nat) (hk : k < xs.length) (x : Int) :
    w.frozen? ⟨g, k, none⟩ = false ∧ B ≤ g ∧ g < w.heap.size ∧ w.cell? ⟨g, k, none⟩ = some (iv (xs.getD k 0)) ∧ Own intE e B (w.setCell ⟨g, k, none⟩ (iv x)) (.slice (some ⟨g, 0, none⟩) n cap) (xs.set k x) := by
  have h0 := h
  obtain ⟨A, c, hv, _, _⟩ := h.form
  injection hv with hA hn hc
  subst hn
  have h' : w.ownsRow B e 1 (.slice (some ⟨g, 0, none⟩) xs.length cap) xs.length (xs.map iv) := by
    have := h; unfold Own at this; rw [flat_int] at this; exact this
  have hlt := h0.lt g rfl
  refine ⟨h'.frozenAt k, hlt.1, hlt.2, ?_, ?_⟩
  · rw [h'.cellAt k (by omega)]
    simp [List.getD_eq_getElem?_getD, hk]
  · have hs := h'.stored k (iv x)
    unfold Own
    rw [flat_int, List.length_set, List.map_set]
    exact hs.1
theorem Own.some_ {α : Type} {E : Enc α} {e : TypeId} {B : Nat} {w : World} {v : Value} {xs : List α} (h : Own E e B w v xs) (hx : xs ≠ []) : ∃ g c, v = .slice (some ⟨g, 0, none⟩) xs.length c := by
  rcases h.2 with ⟨_, hn⟩ | ⟨g, cap, cur, hv, _⟩
  · exact absurd (List.eq_nil_of_length_eq_zero hn) hx
  · exact ⟨g, cap, hv⟩
set_option maxHeartbeats 4000000 in
theorem Move_spec
    (A : Option Addr) (l : List Rule) (c : Nat) (fall : Int) (Ab : Option Addr) (bought : List Int) (cb : Nat) (As : Option Addr) (stock : List Piece) (cs : Nat) (w : World) (hm : l.length ≤ big) (hc : l.length ≤ c) (hs : Sl ruleE w A l) (hmb : bought.length ≤ big) (hsb : Sl intE w Ab bought) (hms : stock.length ≤ big) (hss : Sl pieceE w As stock)
    (App : Option Addr) (plan : List Int) (cp : Nat) (hmp : plan.length ≤ big) (hsp : Sl intE w App plan)
    : Calls Tryz.prog 53 #[.slice A l.length c, saleV fall Ab bought.length cb, .slice As stock.length cs, .slice App plan.length cp] w fun e w' =>
      e = .returned (.tuple #[iv (Price.moveOf l fall bought stock plan).1, iv (Price.moveOf l fall bought stock plan).2.1, iv (Price.moveOf l fall bought stock plan).2.2]) ∧ Below w.heap.size w w' := by
  have hop := planned_spec A l c fall Ab bought cb As stock cs (w.alloc (.cells #[iv fall, .slice Ab bought.length cb] 30)) hm hc (hs.alloc _) hmb (hsb.alloc _) hms (hss.alloc _) App plan cp hmp (hsp.alloc _)
  have HOP := Lib.hid hop
  clear hop
  by_cases h0 : Price.planErr l fall bought stock plan = 0
  · have ho := Price.planErr_ok h0
    rw [h0] at HOP
    have HO := Lib.hid ho
    have H0 := Lib.hid h0
    clear ho h0
    go_enter Tryz.func53, Tryz.ntmps53
    go_wp2_with (first
      | (go_at_call 80; refine HOP.out.mono ?_; rintro e w1 ⟨hb1, ⟨h, _⟩ | ⟨_, g, Ap, cpp, rfl, hd⟩⟩; exact absurd rfl h; obtain ⟨k0, k0f, k0l, k0e, k0n, k0x⟩ := aft hb1 (w.heap.size) (by (try simp [go_sem]); (try omega)); (try simp [go_sem] at k0 k0f)))
    have hb1' := hb1.of_alloc
    have hd1 := hd
    obtain ⟨prices, hpr⟩ : ∃ ps, ps = (Price.stocked l stock).1 := ⟨_, rfl⟩
    rw [← hpr] at hd
    have HPR := Lib.hid hpr
    clear hpr hd1
    go_loopw [28] (fun i wr => ∃ (k : Nat), k ≤ stock.length ∧ i = iv k ∧ Below w1.heap.size w1 wr ∧
      Hid (Price.searchIW (Price.betterMove fall bought prices plan) bought.length k (stock.length - k) = Price.searchIW (Price.betterMove fall bought prices plan) bought.length 0 stock.length)) (fun i _ => stock.length - (intOf i).toNat)
    case atStart => exact ⟨0, by omega, rfl, Below.refl _ _, rfl⟩
    case round =>
      obtain ⟨i, hi, rfl, hbw, hf⟩ := hrel
      obtain ⟨k1, k1f, k1l, k1e, k1n, k1x⟩ := aft hbw (w.heap.size) (by (try simp [go_sem]); (try omega)); (try simp [go_sem] at k1 k1f)
      by_cases hlt : i < stock.length
      · have hnn : stock.length ≤ 10 := HO.out.hstock
        have hbn : bought.length ≤ 8 := HO.out.hweeks1
        have hf' := hf.out
        rw [show stock.length - i = (stock.length - (i + 1)) + 1 from by omega] at hf'
        simp only [Price.searchIW] at hf'
        have HF := Lib.hid hf'
        clear hf hf'
        go_wp2
        obtain ⟨wo, rfl⟩ : ∃ wo : World, wo = wr := ⟨_, rfl⟩
        go_loopw [34] (fun i2 wr => ∃ (k : Nat), k ≤ bought.length ∧ i2 = iv k ∧ Below wo.heap.size wo wr ∧
          Hid (Price.searchW (Price.betterMove fall bought prices plan i) k (bought.length - k) = Price.searchW (Price.betterMove fall bought prices plan i) 0 bought.length)) (fun i2 _ => bought.length - (intOf i2).toNat)
        case atStart => exact ⟨0, by omega, rfl, Below.refl _ _, rfl⟩
        case round =>
          obtain ⟨k, hk, rfl, hbi, hg⟩ := hrel
          obtain ⟨k2, k2f, k2l, k2e, k2n, k2x⟩ := aft hbi (w.heap.size) (by (try simp [go_sem]); (try omega)); (try simp [go_sem] at k2 k2f)
          by_cases hkt : k < bought.length
          · have hg' := hg.out
            rw [show bought.length - k = (bought.length - (k + 1)) + 1 from by omega] at hg'
            simp only [Price.searchW] at hg'
            have HG := Lib.hid hg'
            clear hg hg'
            have hd' := (hd.below hbw).below hbi
            have hsp' : Sl intE wr App plan := ((hsp.below hb1').below hbw).below hbi
            have hsb' : Sl intE wr Ab bought := hd'.sb
            have hpl : plan.length = stock.length := HO.out.hplan
            have hprl : prices.length = stock.length := by rw [HPR.out]; exact HO.out.hlength
            have hpb : ∀ p ∈ prices, 0 ≤ p ∧ p ≤ 500 := by rw [HPR.out]; exact HO.out.hprices
            have hwk : ∀ x ∈ plan, -1 ≤ x ∧ x ≤ 100 := fun x hx => by have := HO.out.hplanweeks x hx; omega
            have hwx : ∀ x ∈ plan.set i (k : Int), -1 ≤ x ∧ x ≤ 100 := fun x hx => by
              rcases List.mem_or_eq_of_mem_set hx with hx | rfl
              · exact hwk x hx
              · omega
            have hxl : (plan.set i (k : Int)).length = plan.length := by simp
            have hE1 : ∀ (a : World) (A' : Option Addr) (c' : Nat), Below wr.heap.size wr a → Sl intE a A' (plan.set i (k : Int)) → Calls Tryz.prog 81 #[.pointer (some ⟨g, 0, none⟩), .slice A' plan.length c'] a fun e w' => e = .returned (iv (Price.earns fall prices (plan.set i (k : Int)))) ∧ Below a.heap.size a w' :=
              fun a A' c' ha hsl => by
                have := earns_spec g fall bought stock prices Ab cb As cs Ap cpp A' _ c' a (hd'.below ha) hsl (by omega) (by omega) HO.out.hfall0 HO.out.hfall1 hpb hwx
                rw [hxl] at this
                exact this
            have hE2 : ∀ a : World, Below wr.heap.size wr a → Calls Tryz.prog 81 #[.pointer (some ⟨g, 0, none⟩), .slice App plan.length cp] a fun e w' => e = .returned (iv (Price.earns fall prices plan)) ∧ Below a.heap.size a w' :=
              fun a ha => earns_spec g fall bought stock prices Ab cb As cs Ap cpp App plan cp a (hd'.below ha) (hsp'.below ha) (by omega) (by omega) HO.out.hfall0 HO.out.hfall1 hpb hwk
            have hR : ∀ (a : World) (A' : Option Addr) (c' : Nat), Below wr.heap.size wr a → Sl intE a A' (plan.set i (k : Int)) → Calls Tryz.prog 83 #[saleV fall Ab bought.length cb, .slice A' plan.length c'] a fun e w' => e = .returned (.bool (Price.room bought (plan.set i (k : Int)))) ∧ Below a.heap.size a w' :=
              fun a A' c' ha hsl => by
                have := room_spec fall Ab bought cb A' _ c' a hmb (by rw [hxl]; exact hmp) (hsb'.below ha) hsl
                rw [hxl] at this
                exact this
            have hne : Price.betterMove fall bought prices plan i k = (Price.room bought (plan.set i (k : Int)) && decide (Price.earns fall prices plan < Price.earns fall prices (plan.set i (k : Int)))) := rfl
            rw [hne] at HG
            have HE1 := Lib.hid hE1
            have HE2 := Lib.hid hE2
            have HR := Lib.hid hR
            have hip : (i : Int) < (plan.length : Int) := by omega
            have hip' : i < plan.length := by omega
            have HXL := Lib.hid hxl
            generalize Price.earns fall prices plan = e0 at *
            generalize Price.earns fall prices (plan.set i (k : Int)) = e1 at *
            generalize Price.room bought (plan.set i (k : Int)) = r at *
            clear hE1 hE2 hR hwx hwk hpb hprl hpl hsb' hxl hne
            cases r with
            | false =>
              go_wp2_with (first
                | (go_at_call 64; refine (cloneI App plan cp _ hmp hsp').mono ?_; rintro e w2 ⟨v, rfl, hown, hb2⟩; obtain ⟨g', c', rfl⟩ := hown.some_ (by intro h; rw [h] at hip'; simp at hip'); obtain ⟨hfz, hBg, hgl, hcl, hown2⟩ := hown.store i hip' (k : Int); obtain ⟨k3, k3f, k3l, k3e, k3n, k3x⟩ := aft hb2 (w.heap.size) (by (try simp [go_sem]); (try omega)); (try simp [go_sem] at k3 k3f); have hst : ∀ o, (w2.setCell ⟨g', i, none⟩ (iv k)).cell? ⟨w.heap.size, o, none⟩ = w2.cell? ⟨w.heap.size, o, none⟩ := fun o => World.cell?_setCell_other _ _ _ _ (by intro e; injection e with e; have := k2l; omega); have hsl := hown2.sl; have hb3 := hb2.setCell (p := ⟨g', i, none⟩) hBg (iv k); clear hown hown2)
                | (go_at_call 83; refine (HR.out _ _ _ hb3 hsl).mono ?_; rintro e w4 ⟨rfl, hb4⟩; have hsl4 := hsl.below hb4)
                | (go_at_call 81; (first | with_reducible refine (HE2.out _ (by first | exact hb3.next hb4 (Nat.le_refl _) | exact (hb3.next hb4 (Nat.le_refl _)).next hb5 (Nat.le_refl _))).mono ?_ | (refine (HE1.out _ _ _ (hb3.next hb4 (Nat.le_refl _)) hsl4).mono ?_)); rintro e w5 ⟨rfl, hb5⟩))
              go_roundw
              case rel => exact ⟨k + 1, by omega, by go_num, (hbi.next hb3 (Nat.le_refl _)).next hb4 (Nat.le_refl _), HG.out⟩
              case measure => simp [intOf]; omega
            | true =>
              by_cases hcmp : e0 < e1
              · have he : Price.moveOf l fall bought stock plan = ((i : Int), (k : Int), 0) := by
                  have h1 := HG.out
                  rw [decide_eq_true hcmp] at h1
                  have h2 := HF.out
                  rw [← h1] at h2
                  unfold Price.moveOf
                  rw [if_pos H0.out, ← HPR.out, ← h2]
                  rfl
                have HE := Lib.hid he
                clear he
                go_wp2_with (first
                  | (go_at_call 64; refine (cloneI App plan cp _ hmp hsp').mono ?_; rintro e w2 ⟨v, rfl, hown, hb2⟩; obtain ⟨g', c', rfl⟩ := hown.some_ (by intro h; rw [h] at hip'; simp at hip'); obtain ⟨hfz, hBg, hgl, hcl, hown2⟩ := hown.store i hip' (k : Int); obtain ⟨k3, k3f, k3l, k3e, k3n, k3x⟩ := aft hb2 (w.heap.size) (by (try simp [go_sem]); (try omega)); (try simp [go_sem] at k3 k3f); have hst : ∀ o, (w2.setCell ⟨g', i, none⟩ (iv k)).cell? ⟨w.heap.size, o, none⟩ = w2.cell? ⟨w.heap.size, o, none⟩ := fun o => World.cell?_setCell_other _ _ _ _ (by intro e; injection e with e; have := k2l; omega); have hsl := hown2.sl; have hb3 := hb2.setCell (p := ⟨g', i, none⟩) hBg (iv k); clear hown hown2)
                  | (go_at_call 83; refine (HR.out _ _ _ hb3 hsl).mono ?_; rintro e w4 ⟨rfl, hb4⟩; have hsl4 := hsl.below hb4)
                  | (go_at_call 81; (first | with_reducible refine (HE2.out _ (by first | exact hb3.next hb4 (Nat.le_refl _) | exact (hb3.next hb4 (Nat.le_refl _)).next hb5 (Nat.le_refl _))).mono ?_ | (refine (HE1.out _ _ _ (hb3.next hb4 (Nat.le_refl _)) hsl4).mono ?_)); rintro e w5 ⟨rfl, hb5⟩))
                go_ret3
                exact ⟨(by rw [HE.out]; rfl), hb1'.next ((((hbw.next hbi (Nat.le_refl _)).next hb3 (Nat.le_refl _)).next hb4 (Nat.le_refl _)).next (‹Below w4.heap.size w4 _›.next hb5 (Nat.le_refl _)) (Nat.le_refl _)) (Nat.le_refl _)⟩
              · have hz : Price.searchW (Price.betterMove fall bought prices plan i) (k + 1) (bought.length - (k + 1)) = Price.searchW (Price.betterMove fall bought prices plan i) 0 bought.length := by
                  have h1 := HG.out
                  rw [decide_eq_false hcmp] at h1
                  exact h1
                have HZ := Lib.hid hz
                clear hz
                go_wp2_with (first
                  | (go_at_call 64; refine (cloneI App plan cp _ hmp hsp').mono ?_; rintro e w2 ⟨v, rfl, hown, hb2⟩; obtain ⟨g', c', rfl⟩ := hown.some_ (by intro h; rw [h] at hip'; simp at hip'); obtain ⟨hfz, hBg, hgl, hcl, hown2⟩ := hown.store i hip' (k : Int); obtain ⟨k3, k3f, k3l, k3e, k3n, k3x⟩ := aft hb2 (w.heap.size) (by (try simp [go_sem]); (try omega)); (try simp [go_sem] at k3 k3f); have hst : ∀ o, (w2.setCell ⟨g', i, none⟩ (iv k)).cell? ⟨w.heap.size, o, none⟩ = w2.cell? ⟨w.heap.size, o, none⟩ := fun o => World.cell?_setCell_other _ _ _ _ (by intro e; injection e with e; have := k2l; omega); have hsl := hown2.sl; have hb3 := hb2.setCell (p := ⟨g', i, none⟩) hBg (iv k); clear hown hown2)
                  | (go_at_call 83; refine (HR.out _ _ _ hb3 hsl).mono ?_; rintro e w4 ⟨rfl, hb4⟩; have hsl4 := hsl.below hb4)
                  | (go_at_call 81; (first | with_reducible refine (HE2.out _ (by first | exact hb3.next hb4 (Nat.le_refl _) | exact (hb3.next hb4 (Nat.le_refl _)).next hb5 (Nat.le_refl _))).mono ?_ | (refine (HE1.out _ _ _ (hb3.next hb4 (Nat.le_refl _)) hsl4).mono ?_)); rintro e w5 ⟨rfl, hb5⟩))
                go_roundw
                case rel => exact ⟨k + 1, by omega, by go_num, (((hbi.next hb3 (Nat.le_refl _)).next hb4 (Nat.le_refl _)).next (‹Below w4.heap.size w4 _›.next hb5 (Nat.le_refl _)) (Nat.le_refl _)), HZ.out⟩
                case measure => simp [intOf]; omega
          · have hg' := hg.out
            rw [show bought.length - k = 0 from by omega] at hg'
            simp only [Price.searchW] at hg'
            have hf' := HF.out
            rw [← hg'] at hf'
            have HF' := Lib.hid hf'
            clear hg hg' hf'
            go_wp2
            go_roundw
            case rel => exact ⟨i + 1, by omega, by go_num, hbw.next hbi (Nat.le_refl _), HF'.out⟩
            case measure => simp [intOf]; omega
      · have hf' := hf.out
        rw [show stock.length - i = 0 from by omega] at hf'
        simp only [Price.searchIW] at hf'
        have he : Price.moveOf l fall bought stock plan = (0, 0, 6) := by
          unfold Price.moveOf
          rw [if_pos H0.out, ← HPR.out, ← hf']
        have HE := Lib.hid he
        clear hf hf' he
        go_wp2
        go_ret3
        exact ⟨(by rw [HE.out]; rfl), hb1'.next hbw (Nat.le_refl _)⟩
  · have he : Price.moveOf l fall bought stock plan = (0, 0, Price.planErr l fall bought stock plan) := by simp [Price.moveOf, h0]
    rw [he]
    clear he
    have h0' : (Price.planErr l fall bought stock plan != 0) = true := by simpa using h0
    go_enter Tryz.func53, Tryz.ntmps53
    go_wp2_with (first
      | (go_at_call 80; refine HOP.out.mono ?_; rintro e w1 ⟨hb1, ⟨_, rfl⟩ | ⟨h, _⟩⟩; rotate_left; exact absurd h h0))
    go_ret3
    exact ⟨rfl, hb1.of_alloc⟩
end Go.Proofs.YtkailkfiakagfaaGreat
