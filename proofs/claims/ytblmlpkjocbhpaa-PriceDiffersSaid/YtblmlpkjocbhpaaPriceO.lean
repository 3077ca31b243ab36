/- Best of package price. Conditions: lengths are below a great bound. -/
import Derived.Test.YtblmlpkjocbhpaaPriceN
set_option linter.unusedVariables false
set_option linter.unusedSimpArgs false
namespace Go.Proofs.Ytblmlpkjocbhpaa
open Go.RowKit
set_option maxRecDepth 100000

namespace Price
def cheaper (prices : List Int) (i : Nat) (k : Int) : Bool := decide (prices.getD k.toNat 0 < prices.getD i 0)
def posIn (p : Int → Bool) (order : List Int) : Nat := if findFrom p order 0 < 0 then order.length else (findFrom p order 0).toNat
def orderGo (prices order : List Int) (i : Nat) : Nat → List Int
  | 0 => order
  | c + 1 => orderGo prices (insertAt order (posIn (cheaper prices i) order) i) (i + 1) c
def setAll (plan : List Int) (week : Int) : List Int → List Int
  | [] => plan
  | k :: l => setAll (plan.set k.toNat week) week l
def planGo (plan order : List Int) (week : Nat) : List Int → List Int
  | [] => plan
  | most :: bs => planGo (setAll plan week (order.take (min most.toNat order.length))) (order.drop (min most.toNat order.length)) (week + 1) bs
def bestPlan (prices bought : List Int) : List Int := planGo (List.replicate prices.length (-1)) (orderGo prices [] 0 prices.length) 0 bought
def bestOf (l : List Rule) (fall : Int) (bought : List Int) (stock : List Piece) : List Int × Int × Int :=
  if openErr l fall bought stock = 0 then (bestPlan (stocked l stock).1 bought, earns fall (stocked l stock).1 (bestPlan (stocked l stock).1 bought), 0)
  else ([], 0, openErr l fall bought stock)
theorem setAll_length (week : Int) : ∀ (l plan : List Int), (setAll plan week l).length = plan.length := by
  intro l
  induction l with
  | nil => intro plan; rfl
  | cons k l ih => intro plan; rw [setAll, ih, List.length_set]
theorem setAll_mem (week : Int) : ∀ (l plan : List Int), (∀ x ∈ plan, -1 ≤ x ∧ x ≤ 100) → -1 ≤ week → week ≤ 100 → ∀ x ∈ setAll plan week l, -1 ≤ x ∧ x ≤ 100 := by
  intro l
  induction l with
  | nil => intro plan h _ _; exact h
  | cons k l ih =>
    intro plan h h1 h2
    refine ih _ (fun x hx => ?_) h1 h2
    rcases List.mem_or_eq_of_mem_set hx with hx | rfl
    · exact h x hx
    · exact ⟨h1, h2⟩
end Price
theorem findFrom_lt {α : Type} (p : α → Bool) : ∀ (l : List α) (k : Int), findFrom p l k = -1 ∨ (k ≤ findFrom p l k ∧ findFrom p l k < k + l.length) := by
  intro l
  induction l with
  | nil => intro k; exact .inl rfl
  | cons x l ih =>
    intro k
    simp only [findFrom, List.length_cons]
    by_cases h : p x = true
    · rw [if_pos h]; exact .inr (by omega)
    · rw [if_neg h]
      rcases ih (k + 1) with h | h
      · exact .inl h
      · exact .inr (by omega)
theorem posIn_le (p : Int → Bool) (order : List Int) : Price.posIn p order ≤ order.length := by
  unfold Price.posIn
  rcases findFrom_lt p order 0 with h | h <;> split <;> omega
theorem insertAt_mem {xs : List Int} {i : Nat} {x y : Int} (h : y ∈ insertAt xs i x) : y = x ∨ y ∈ xs := by
  unfold insertAt at h
  rcases List.mem_append.1 h with h | h
  · exact .inr (List.mem_of_mem_take h)
  · rcases List.mem_cons.1 h with h | h
    · exact .inl h
    · exact .inr (List.mem_of_mem_drop h)
theorem insertAt_length (xs : List Int) (i : Nat) (x : Int) (h : i ≤ xs.length) : (insertAt xs i x).length = xs.length + 1 := by
  simp [insertAt]; omega
theorem Sl.dropI {w : World} {b off : Nat} {xs : List Int} (h : Sl intE w (some ⟨b, off, none⟩) xs) (j : Nat) : Sl intE w (some ⟨b, off + j, none⟩) (xs.drop j) := fun hx => by
  obtain ⟨b', off', hA, hb, hc⟩ := h (by intro e; subst e; simp at hx)
  injection hA with hA
  injection hA with e1 e2
  subst e1 e2
  refine ⟨b, off + j, rfl, hb, fun i x hi k u hu => ?_⟩
  rw [List.getElem?_drop] at hi
  have := hc (j + i) x hi k u hu
  simpa [intE, Nat.add_assoc] using this
theorem Sl.cutI {w : World} {b off c j : Nat} {xs : List Int} (h : Sl intE w (some ⟨b, off, none⟩) xs) (hc : xs.length ≤ c) : Sl intE w (if c = j then some ⟨b, off, none⟩ else some ⟨b, off + j, none⟩) (xs.drop j) := by
  split
  · rename_i e
    intro hx
    exact absurd (List.drop_of_length_le (by omega)) hx
  · exact h.dropI j
set_option maxHeartbeats 800000 in
theorem Best_spec
    (A : Option Addr) (l : List Rule) (c : Nat) (fall : Int) (Ab : Option Addr) (bought : List Int) (cb : Nat) (As : Option Addr) (stock : List Piece) (cs : Nat) (w : World) (hm : l.length ≤ big) (hc : l.length ≤ c) (hs : Sl ruleE w A l) (hmb : bought.length ≤ big) (hsb : Sl intE w Ab bought) (hms : stock.length ≤ big) (hss : Sl pieceE w As stock)
    : Calls Try.prog 18 #[.slice A l.length c, saleV fall Ab bought.length cb, .slice As stock.length cs] w fun e w' =>
      ∃ v, e = .returned (.tuple #[v, iv (Price.bestOf l fall bought stock).2.1, iv (Price.bestOf l fall bought stock).2.2]) ∧ Own intE 3 w.heap.size w' v (Price.bestOf l fall bought stock).1 ∧ Below w.heap.size w w' := by
  have hop := opened_spec A l c fall Ab bought cb As stock cs (w.alloc (.cells #[iv fall, .slice Ab bought.length cb] 31)) hm hc (hs.alloc _) hmb (hsb.alloc _) hms (hss.alloc _)
  have HOP := Lib.hid hop
  clear hop
  have hmk : ∀ (fn : Fn) (first cap : Array Value) (w : World), (Instr.makeFunc fn first cap).run Try.prog w = .ok (.func fn first cap) w := fun _ _ _ _ => rfl
  by_cases h0 : Price.openErr l fall bought stock = 0
  · have ho := Price.openErr_ok h0
    have he : Price.bestOf l fall bought stock = (Price.bestPlan (Price.stocked l stock).1 bought, Price.earns fall (Price.stocked l stock).1 (Price.bestPlan (Price.stocked l stock).1 bought), 0) := by simp [Price.bestOf, h0]
    rw [h0] at HOP
    rw [he]
    clear he h0
    have HO := Lib.hid ho
    have hnn := ho.hstock
    have hpl := ho.hlength
    clear ho
    obtain ⟨prices, hpr⟩ : ∃ ps, ps = (Price.stocked l stock).1 := ⟨_, rfl⟩
    rw [← hpr] at hpl ⊢
    have HPR := Lib.hid hpr
    clear hpr
    go_enter Try.func18, Try.ntmps18
    go_wp2_with (first
      | (go_at_call 81; refine HOP.out.mono ?_; rintro e w1 ⟨hb1, ⟨h, _⟩ | ⟨_, g, Ap, cpp, rfl, hd⟩⟩; exact absurd rfl h; rw [← HPR.out] at hd))
    have hs1 : w1.cell? ⟨w.heap.size, 1, none⟩ = some (.slice Ab bought.length cb) := (hb1.cell (p := ⟨w.heap.size, 1, none⟩) (by simp)).trans (by simp [go_sem])
    have hl1 : w.heap.size < w1.heap.size := Nat.lt_of_lt_of_le (by simp) hb1.size
    have hb2 := hb1.of_alloc.alloc (Nat.le_of_lt hl1) (.cells #[Value.pointer (some ⟨g, 0, none⟩)] 135)
    have hd2 := hd.below ((Below.refl _ w1).alloc (Nat.le_refl _) (.cells #[Value.pointer (some ⟨g, 0, none⟩)] 135))
    have h9 : (w1.alloc (.cells #[Value.pointer (some ⟨g, 0, none⟩)] 135)).cell? ⟨w1.heap.size, 0, none⟩ = some (.pointer (some ⟨g, 0, none⟩)) := by simp [go_sem]
    have hz2 : (w1.alloc (.cells #[Value.pointer (some ⟨g, 0, none⟩)] 135)).heap.size = w1.heap.size + 1 := by simp
    have hs2 := (((Below.refl _ w1).alloc (Nat.le_refl _) (.cells #[Value.pointer (some ⟨g, 0, none⟩)] 135)).cell (p := ⟨w.heap.size, 1, none⟩) hl1).trans hs1
    clear hd hb1 hs1
    generalize w1.alloc (.cells #[Value.pointer (some ⟨g, 0, none⟩)] 135) = w2 at *
    have hsb2 := hsb.below hb2
    clear hs hsb hss hmk
    have hmk : ∀ (fn : Fn) (first cap : Array Value) (w : World), (Instr.makeFunc fn first cap).run Try.prog w = .ok (.func fn first cap) w := fun _ _ _ _ => rfl
    go_loopw [11, 32] (fun v i wr => ∃ (k : Nat) (order : List Int), k ≤ stock.length ∧ i = iv k ∧ Own intE 3 w2.heap.size wr v order ∧ Below w2.heap.size w2 wr ∧ order.length = k ∧ (∀ x ∈ order, ∃ n : Nat, x = (n : Int) ∧ n < k) ∧
      Hid (Price.orderGo prices order k (stock.length - k) = Price.orderGo prices [] 0 stock.length)) (fun _ i _ => stock.length - (intOf i).toNat)
    case atStart => exact ⟨0, [], by omega, rfl, ⟨rfl, .inl ⟨rfl, rfl⟩⟩, Below.refl _ _, rfl, fun x hx => by simp at hx, rfl⟩
    case round =>
      obtain ⟨k, order, hk, rfl, hown, hbw, rfl, hmem, hf⟩ := hrel
      obtain ⟨A', c', rfl, hcc, hcm⟩ := hown.form
      by_cases hlt : order.length < stock.length
      · have hf' := hf.out
        rw [show stock.length - order.length = (stock.length - (order.length + 1)) + 1 from by omega] at hf'
        simp only [Price.orderGo] at hf'
        have HF := Lib.hid hf'
        clear hf hf'
        have hpos := posIn_le (Price.cheaper prices order.length) order
        have HP : Hid (IsPred Try.prog (wr.alloc (.cells #[iv order.length] 3)) 83 #[.pointer (some ⟨w1.heap.size, 0, none⟩), .pointer (some ⟨wr.heap.size, 0, none⟩)] iv order (Price.cheaper prices order.length)) :=
          ⟨callFunc_run (by kernel_rfl), fun x hx w' hw' => by
            obtain ⟨n, rfl, hn⟩ := hmem x hx
            have hbn := hbw.next hw'.of_alloc (Nat.le_refl _)
            have hl9 : w1.heap.size < w2.heap.size := by omega
            exact cheaper_spec g fall bought stock prices Ab cb As cs Ap cpp n order.length w1.heap.size wr.heap.size w' (hd2.below hbn) (by omega) (by omega) (by unfold big; omega)
              ((hbn.cell (p := ⟨w1.heap.size, 0, none⟩) hl9).trans h9) ((hw'.cell (p := ⟨wr.heap.size, 0, none⟩) (by simp)).trans (by simp [go_sem])) (Nat.lt_of_lt_of_le hl9 hbn.size) (Nat.lt_of_lt_of_le (by simp) hw'.size)⟩
        have hsz : w2.heap.size ≤ wr.heap.size := hbw.size
        have HO2 := Lib.hid hown
        have hsl := hown.sl
        clear hown
        by_cases hneg : findFrom (Price.cheaper prices order.length) order 0 < 0
        · have hpe : Price.posIn (Price.cheaper prices order.length) order = order.length := by unfold Price.posIn; rw [if_pos hneg]
          rw [hpe] at HF
          go_wp2_with fail
          refine (indexI A' order c' 83 _ (Price.cheaper prices order.length) _ (by unfold big; omega) (hsl.alloc _) HP.out).mono ?_; rintro e w3 ⟨rfl, hb3⟩; obtain ⟨q, qf, ql, qe, qn, qx⟩ := aft hb3 (wr.heap.size) (by (try simp [go_sem]); (try omega)); (try simp [go_sem] at q qf); have hsz3 := hb3.of_alloc.size
          go_wp2_with fail
          have hI := insert1_spec (order.length : Int) order.length w3 (HO2.out.below hb3.of_alloc) (by omega) (Nat.le_refl _) (by omega)
          refine hI.mono ?_; rintro e w4 ⟨v', rfl, hown4, hb4, _⟩
          have hL := insertAt_length order order.length (order.length : Int) (Nat.le_refl _)
          have hM : ∀ x ∈ insertAt order order.length (order.length : Int), ∃ n : Nat, x = (n : Int) ∧ n < order.length + 1 := fun x hx => by
            rcases insertAt_mem hx with rfl | hx
            · exact ⟨order.length, rfl, by omega⟩
            · obtain ⟨n, h1, h2⟩ := hmem x hx
              exact ⟨n, h1, by omega⟩
          have hB4 : Below w2.heap.size w2 w4 := (hbw.next hb3.of_alloc (Nat.le_refl _)).trans hb4
          go_wp2_with fail
          go_roundw
          case rel => exact ⟨order.length + 1, insertAt order order.length order.length, by omega, by go_num, hown4, hB4, hL, hM, HF.out⟩
          case measure => simp [intOf]; omega
        · have hpe : findFrom (Price.cheaper prices order.length) order 0 = (Price.posIn (Price.cheaper prices order.length) order : Int) := by unfold Price.posIn; rw [if_neg hneg]; omega
          obtain ⟨pos, hpo⟩ : ∃ pos, pos = Price.posIn (Price.cheaper prices order.length) order := ⟨_, rfl⟩
          rw [← hpo] at hpe hpos HF
          have HPE := Lib.hid hpe
          have HNE := Lib.hid hneg
          clear hpe hneg hpo
          go_wp2_with fail
          refine (indexI A' order c' 83 _ (Price.cheaper prices order.length) _ (by unfold big; omega) (hsl.alloc _) HP.out).mono ?_; rintro e w3 ⟨rfl, hb3⟩; rw [HPE.out]; obtain ⟨q, qf, ql, qe, qn, qx⟩ := aft hb3 (wr.heap.size) (by (try simp [go_sem]); (try omega)); (try simp [go_sem] at q qf); have hsz3 := hb3.of_alloc.size
          go_wp2_with fail
          have hI := insert1_spec (order.length : Int) pos w3 (HO2.out.below hb3.of_alloc) (by omega) hpos (by omega)
          refine hI.mono ?_; rintro e w4 ⟨v', rfl, hown4, hb4, _⟩
          have hL := insertAt_length order pos (order.length : Int) hpos
          have hM : ∀ x ∈ insertAt order pos (order.length : Int), ∃ n : Nat, x = (n : Int) ∧ n < order.length + 1 := fun x hx => by
            rcases insertAt_mem hx with rfl | hx
            · exact ⟨order.length, rfl, by omega⟩
            · obtain ⟨n, h1, h2⟩ := hmem x hx
              exact ⟨n, h1, by omega⟩
          have hB4 : Below w2.heap.size w2 w4 := (hbw.next hb3.of_alloc (Nat.le_refl _)).trans hb4
          go_wp2_with fail
          go_roundw
          case rel => exact ⟨order.length + 1, insertAt order pos order.length, by omega, by go_num, hown4, hB4, hL, hM, HF.out⟩
          case measure => simp [intOf]; omega
      · have hol : order.length = stock.length := by omega
        have hord : Price.orderGo prices [] 0 prices.length = order := by
          have := hf.out
          rw [hol, Nat.sub_self] at this
          rw [hpl, ← this]; rfl
        have HORD := Lib.hid hord
        clear hord hf
        have HW := Lib.hid HO.out.hweeks1
        obtain ⟨wo, rfl⟩ : ∃ wo : World, wo = wr := ⟨_, rfl⟩
        have hs3 := (hbw.cell (p := ⟨w.heap.size, 1, none⟩) (show w.heap.size < _ by omega)).trans hs2
        have h93 := (hbw.cell (p := ⟨w1.heap.size, 0, none⟩) (show w1.heap.size < _ by omega)).trans h9
        have hd3 := hd2.below hbw
        have hsb3 := hsb2.below hbw
        have hb3 := hb2.next hbw (by omega)
        have hzo := hbw.size
        have hsl := hown.sl
        have hlo := fun kk hkk => (hown.lt kk hkk).2
        have hA' : A' = none ∨ ∃ b off, A' = some ⟨b, off, none⟩ := by
          rcases hown.2 with ⟨h, _⟩ | ⟨_, _, _, h, _⟩
          · injection h with h; exact .inl h
          · injection h with h; exact .inr ⟨_, _, h⟩
        have HM := Lib.hid hmem
        clear hown hs2 h9 hd2 hsb2 hb2 hmem
        go_wp2_with (first
          | (go_at_call 85; refine (repeat1_at (-1) stock.length _ (by omega) wo.heap.size (by simp) (by simp [go_sem])).mono ?_; rintro e w4 ⟨pv, rfl, hown4, hb4⟩; obtain ⟨Aq, cq, rfl, hq1, hq2⟩ := hown4.form; rw [List.length_replicate] at hown4 hq1 ⊢; have hbo := hb4.of_alloc; have hs4 := (hbo.cell (p := ⟨w.heap.size, 1, none⟩) (show w.heap.size < _ by omega)).trans hs3))
        have hown5 := hown4.base (B' := wo.heap.size) (by simp)
        have hmw := HW.out
        clear hown4 hb4
        go_loopw [11, 55] (fun ov i w' => ∃ (k : Nat) (A : Option Addr) (ord : List Int) (c : Nat) (plan : List Int), k ≤ bought.length ∧ i = iv k ∧ ov = .slice A ord.length c ∧ ord.length ≤ c ∧ c ≤ maxLen ∧ Sl intE wo A ord ∧ (A = none ∨ ∃ b off, A = some ⟨b, off, none⟩) ∧
          Own intE 3 wo.heap.size w' (.slice Aq stock.length cq) plan ∧ plan.length = stock.length ∧ Hid (∀ x ∈ ord, ∃ n : Nat, x = (n : Int) ∧ n < order.length) ∧ Hid (∀ x ∈ plan, -1 ≤ x ∧ x ≤ 100) ∧ Below wo.heap.size wo w' ∧
          Hid (Price.planGo plan ord k (bought.drop k) = Price.bestPlan prices bought)) (fun _ i _ => bought.length - (intOf i).toNat)
        case atStart =>
          refine ⟨0, A', order, c', List.replicate stock.length (-1), by omega, rfl, by rw [hol], hcc, hcm, hsl, hA', hown5, by simp, HM.out, fun x hx => ?_, hbo, ?_⟩
          · rw [List.eq_of_mem_replicate hx]; omega
          · show _ = _
            rw [Price.bestPlan, HORD.out, hpl]; rfl
        case round =>
          obtain ⟨k, A2, ord, c2, plan, hk2, rfl, rfl, hoc, hom, hsl2, hA2, hown6, hpl6, HM2, HP2, hbw', hf⟩ := hrel
          by_cases hkt : k < bought.length
          · obtain ⟨b, off, x, rfl, hb, hx, hc0⟩ := (hsb3.below hbw').atI hkt
            have hxb := HO.out.hbought x (mem_at hx)
            obtain ⟨m, rfl⟩ : ∃ m : Nat, x = m := ⟨x.toNat, by omega⟩
            have hf' := hf.out
            rw [drop_at hx] at hf'
            simp only [Price.planGo, Int.toNat_natCast] at hf'
            have HF := Lib.hid hf'
            clear hf hf' hx
            obtain ⟨n, hn⟩ : ∃ n, n = min m ord.length := ⟨_, rfl⟩
            rw [← hn] at HF
            have hno : n ≤ ord.length := by omega
            have hnc : n ≤ c2 := by omega
            have hmin : min (m : Int) (ord.length : Int) = (n : Int) := by omega
            clear hn
            rcases hA2 with rfl | ⟨b2, off2, rfl⟩
            · obtain rfl : ord = [] := by
                by_cases h : ord = []
                · exact h
                · obtain ⟨_, _, h, _⟩ := hsl2 h
                  cases h
              obtain rfl : n = 0 := by simpa using hno
              have hm0 : min (m : Int) 0 = 0 := by omega
              simp only [List.length_nil] at hmin ⊢
              go_wp2
              obtain ⟨wi, rfl⟩ : ∃ wi : World, wi = wr := ⟨_, rfl⟩
              go_loopw [68] (fun i w' => i = iv 0 ∧ w' = wi) (fun _ _ => 0)
              case atStart => exact ⟨rfl, rfl⟩
              case round =>
                obtain ⟨rfl, rfl⟩ := hrel
                go_wp2
                go_roundw
                case rel => exact ⟨k + 1, none, [], _, plan, by omega, by go_num, by rfl, by simp, by omega, hsl2, .inl rfl, hown6, hpl6, HM2, HP2, hbw', by have := HF.out; show _ = _; simpa [Price.setAll] using this⟩
                case measure => simp [intOf]; omega
            · go_wp2
              obtain ⟨wi, rfl⟩ : ∃ wi : World, wi = wr := ⟨_, rfl⟩
              go_loopw [68] (fun i w' => ∃ (j : Nat) (plan' : List Int), j ≤ n ∧ i = iv j ∧ Own intE 3 wo.heap.size w' (.slice Aq stock.length cq) plan' ∧ plan'.length = stock.length ∧ Hid (∀ x ∈ plan', -1 ≤ x ∧ x ≤ 100) ∧ Below wo.heap.size wo w' ∧
                Hid (Price.setAll plan' k ((ord.take n).drop j) = Price.setAll plan k (ord.take n))) (fun i _ => n - (intOf i).toNat)
              case atStart => exact ⟨0, plan, by omega, rfl, hown6, hpl6, HP2, hbw', rfl⟩
              case round =>
                obtain ⟨j, plan', hj, rfl, hown7, hpl7, HP3, hbi, hg⟩ := hrel
                by_cases hjt : j < n
                · obtain ⟨b3, off3, y, hA3, hb3', hy, hc3⟩ := (hsl2.below hbi).atI (show j < ord.length by omega)
                  injection hA3 with hA3
                  injection hA3 with e1 e2
                  subst e1 e2
                  obtain ⟨i, rfl, hi⟩ := HM2.out y (mem_at hy)
                  have hy' : (ord.take n)[j]? = some (i : Int) := by rw [List.getElem?_take, if_pos hjt]; exact hy
                  have hg' := hg.out
                  rw [drop_at hy'] at hg'
                  simp only [Price.setAll, Int.toNat_natCast] at hg'
                  have HG := Lib.hid hg'
                  clear hg hg' hy hy'
                  have hne : plan' ≠ [] := by intro h; rw [h] at hpl7; simp at hpl7; omega
                  obtain ⟨g', cq', hv'⟩ := hown7.some_ hne
                  injection hv' with hv1 hv2 hv3
                  subst hv1
                  obtain ⟨hfz, hBg, hgl, hcl, hown8⟩ := hown7.store i (by omega) (k : Int)
                  have hlen' : (plan'.set i (k : Int)).length = stock.length := by rw [List.length_set]; exact hpl7
                  have HP4 : Hid (∀ x ∈ plan'.set i (k : Int), -1 ≤ x ∧ x ≤ 100) := fun x hx => by
                    rcases List.mem_or_eq_of_mem_set hx with hx | rfl
                    · exact HP3.out x hx
                    · omega
                  have hbj := hbi.setCell (p := ⟨g', i, none⟩) hBg (iv k)
                  have HO8 := Lib.hid hown8
                  have his : i < stock.length := by omega
                  clear hown8 hown7 hown6 hv2 hv3
                  go_wp2
                  go_roundw
                  case rel => exact ⟨j + 1, plan'.set i k, by omega, by go_num, HO8.out, hlen', HP4, hbj, HG.out⟩
                  case measure => simp [intOf]; omega
                · obtain rfl : j = n := by omega
                  have hg' := hg.out
                  rw [List.drop_of_length_le (by rw [List.length_take]; exact Nat.min_le_left _ _)] at hg'
                  simp only [Price.setAll] at hg'
                  rw [← hg'] at HF
                  clear hg hg'
                  go_wp2
                  go_roundw
                  case rel =>
                   exact ⟨k + 1, if c2 = j then some ⟨b2, off2, none⟩ else some ⟨b2, off2 + j, none⟩, ord.drop j, c2 - j, plan', by omega, by go_num, by simp, by simp; omega, by omega, hsl2.cutI hoc, by split <;> exact .inr ⟨_, _, rfl⟩, hown7, hpl7, fun x hx => HM2.out x (List.mem_of_mem_drop hx), HP3, hbi, HF.out⟩
                  case measure => simp [intOf]; omega
          · have hf' := hf.out
            rw [List.drop_of_length_le (by omega)] at hf'
            simp only [Price.planGo] at hf'
            have HF := Lib.hid hf'
            clear hf hf'
            have hg9 := (hbw'.cell (p := ⟨w1.heap.size, 0, none⟩) (show w1.heap.size < _ by omega)).trans h93
            have hds := hd3.below hbw'
            have hE : Hid (Calls Try.prog 86 #[.pointer (some ⟨g, 0, none⟩), .slice Aq plan.length cq] wr fun e w' => e = .returned (iv (Price.earns fall prices plan)) ∧ Below wr.heap.size wr w') :=
              earns_spec g fall bought stock prices Ab cb As cs Ap cpp Aq plan cq _ hds (by rw [← hpl6] at hown6; exact hown6.sl) (by omega) (by omega) HO.out.hfall0 HO.out.hfall1 (by have := HO.out.hprices; rw [← HPR.out] at this; exact this) HP2.out
            rw [hpl6] at hE
            have hzw := hbw'.size
            go_wp2_with (first
              | (go_at_call 86; refine hE.out.mono ?_; rintro e w5 ⟨rfl, hb5⟩))
            go_ret3
            exact ⟨_, by rw [← HF.out]; rfl, by rw [← HF.out]; exact (hown6.below hb5).base (by omega), (hb3.next hbw' (by omega)).next hb5 (by omega)⟩
  · have he : Price.bestOf l fall bought stock = ([], 0, Price.openErr l fall bought stock) := by simp [Price.bestOf, h0]
    rw [he]
    clear he
    have h0' : (Price.openErr l fall bought stock != 0) = true := by simpa using h0
    go_enter Try.func18, Try.ntmps18
    go_wp2_with (first
      | (go_at_call 81; refine HOP.out.mono ?_; rintro e w1 ⟨hb1, ⟨_, rfl⟩ | ⟨h, _⟩⟩; rotate_left; exact absurd h h0))
    go_ret3
    exact ⟨_, rfl, ⟨rfl, .inl ⟨rfl, rfl⟩⟩, hb1.of_alloc.alloc (Nat.le_trans (by simp) hb1.size) _⟩
end Go.Proofs.Ytblmlpkjocbhpaa
