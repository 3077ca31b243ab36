/- The reference's list without a rule, and its shortest list. Conditions: lengths are below a great bound; rules are allowed. -/
import Derived.Test.YtkailkfiakagfaaGreatRefS
set_option linter.unusedVariables false
set_option linter.unusedSimpArgs false
namespace Go.Proofs.YtkailkfiakagfaaGreat
open Go.RowKit
set_option maxRecDepth 100000
/-- append of a slice that begins anywhere, at a step of a statement whose order is open. -/
theorem stepAppO {α : Type} (E : Enc α) {P : Program} {t e : TypeId} (hT : SlTy P t e E.sz) {ops : Array Oper} {o : Oper} {a : Act} {K : Act → World → Prop} {Q : Exit → Act → World → Prop} {E' : Prop} {w : World}
    (hgd : o.guard = none) (s x : Operand) (ho : o.op = .call { callee := .builtin .append, args := #[s, x], argTypes := #[t, t] })
    {B : Nat} {v : Value} {xs : List α} (hown : Own E e B w v xs) {g off : Nat} {n c : Nat} {ys : List α} (hy : Sl E w (some ⟨g, off, none⟩) ys) (hyn : n = ys.length) (hs : a.eval s = v) (hx : a.eval x = .slice (some ⟨g, off, none⟩) n c)
    (hB : B ≤ w.heap.size) (hn : xs.length + ys.length ≤ big)
    (h : ∀ v' w', Own E e B w' v' (xs ++ ys) → Below B w w' → (∀ b, b < w.heap.size → v.ownBlock ≠ some b → w'.heap[b]? = w.heap[b]?) → K (a.put o.dst v') w') :
    if Region.wanted o (yielded ops a.tmps) = true then Oper.wp P o a w K Q else E' := by
  subst hyn
  have hw : Region.wanted o (yielded ops a.tmps) = true := by simp [Region.wanted, hgd]
  rw [if_pos hw]
  obtain ⟨i, z, hi, hz, hsz, hby, hzc⟩ := hT.info
  unfold big at hn
  refine wp_append_own w s x t ho B e i z E.sz i.bytes hT.ht hi hz hsz rfl hzc E.pos v xs.length (xs.flatMap E.cells) hs hown
    ⟨g, off, none⟩ ys.length c (ys.flatMap E.cells) hx (flat_length E ys) ?_ ?_ (by unfold maxLen; omega) (by have := Nat.mul_le_mul hn hby; omega) hB ?_
  · intro j u hu
    obtain ⟨k, y, k', rfl, hk, hu⟩ := flat_inv E ys j u hu
    obtain ⟨b, off', hA, _, hc⟩ := hy (by intro e; subst e; simp at hk)
    injection hA with hA
    injection hA with e1 e2
    subst e1 e2
    rw [Addr.add_lit]
    have := hc k y hk k' u hu
    rw [show off + k * E.sz + k' = off + (k * E.sz + k') from by omega] at this
    exact this
  · intro u hu
    obtain ⟨y, _, hu⟩ := List.mem_flatMap.1 hu
    exact E.one y u hu
  · intro v' w' hown' hg _
    have hlt := Own.lt hown
    exact h v' w' (by unfold Own; simpa using hown') ((Below.refl B w).grown hg hB fun k hk => (hlt k hk).1) fun b hb hv => hg.block b hb (fun e => hv e.symm)
theorem Sl.takeO {α : Type} {E : Enc α} {w : World} {A : Option Addr} {xs : List α} (h : Sl E w A xs) (j : Nat) : Sl E w A (xs.take j) := fun hx => by
  obtain ⟨b, off, hA, hb, hc⟩ := h (by intro e; rw [e] at hx; simp at hx)
  refine ⟨b, off, hA, hb, fun i x hi => hc i x ?_⟩
  rw [List.getElem?_take] at hi
  by_cases hij : i < j
  · rw [if_pos hij] at hi; exact hi
  · rw [if_neg hij] at hi; cases hi
theorem Sl.dropO {α : Type} {E : Enc α} {w : World} {b off : Nat} {xs : List α} (h : Sl E w (some ⟨b, off, none⟩) xs) (j : Nat) : Sl E w (some ⟨b, off + j * E.sz, none⟩) (xs.drop j) := fun hx => by
  obtain ⟨b', off', hA, hb, hc⟩ := h (by intro e; rw [e] at hx; simp at hx)
  injection hA with hA
  injection hA with e1 e2
  subst e1 e2
  refine ⟨b, off + j * E.sz, rfl, hb, fun i x hi k u hu => ?_⟩
  have := hc (j + i) x (by rw [List.getElem?_drop] at hi; exact hi) k u hu
  rw [Nat.add_mul] at this
  rw [show off + j * E.sz + i * E.sz + k = off + (j * E.sz + i * E.sz) + k from by omega]
  exact this
set_option maxHeartbeats 4000000 in
theorem without_spec (A : Option Addr) (l : List Rule) (c k : Nat) (w : World) (hm : l.length ≤ 1000) (hc : l.length ≤ c) (hcm : c ≤ maxLen) (hs : Sl ruleE w A l) (hk : k < l.length) :
    Calls Tryz.prog 37 #[.slice A l.length c, iv k] w fun e w' => ∃ v, e = .returned v ∧ Own ruleE 61 w.heap.size w' v (l.eraseIdx k) ∧ Below w.heap.size w w' := by
  obtain ⟨b, off, r, rfl, hb, _⟩ := hs.at_ hk
  unfold maxLen at hcm
  have hk1 : IntKind.i64.wrap ((k : Int) + 1) = (k : Int) + 1 := IntWalk.i64_in _ (by omega)
  have hki : (k : Int) < (l.length : Int) := by omega
  have hki2 : (k : Int) + 1 ≤ (l.length : Int) := by omega
  have hki3 : (0 : Int) ≤ (k : Int) + 1 := by omega
  have hki4 : ((k : Int) + 1).toNat = k + 1 := by omega
  have hlc : (l.length : Int) ≤ (c : Int) := by omega
  have hkc : (k : Int) ≤ (c : Int) := by omega
  have hk0 : (0 : Int) ≤ (k : Int) := by omega
  have hkc2 : (k : Int) ≤ (k : Int) + 1 := by omega
  have HT := Lib.hid (hs.takeO k)
  have HD := Lib.hid (hs.dropO (k + 1))
  have HEX := Lib.hid (List.eraseIdx_eq_take_drop_succ l k)
  have hlk : (l.take k).length = k := by rw [List.length_take]; omega
  have HLK := Lib.hid hlk
  have hld : (l.drop (k + 1)).length = l.length - (k + 1) := List.length_drop
  have HLD := Lib.hid hld
  have hb0 : Below w.heap.size w (w.drew.alloc (.cells #[] 61)) := (Below.refl _ w).drew.alloc (Nat.le_refl _) _
  have HB0 := Lib.hid hb0
  have HOE := Lib.hid (Own.empty (E := ruleE) (e := 61) (w := w.drew) (Nat.le_refl _))
  have hcases : c = k + 1 ∨ ¬ c = k + 1 := by omega
  clear hs hlk hld hb0
  rcases hcases with hck | hck
  · subst hck
    have hdn : l.drop (k + 1) = [] := List.drop_of_length_le hc
    have HD2 : Hid (Sl ruleE w (some ⟨b, off, none⟩) (l.drop (k + 1))) := by rw [hdn]; exact Lib.hid Sl.nil
    clear HD
    have HD := HD2
    have HLD2 : Hid ((l.drop (k + 1)).length = 0) := by rw [hdn]; exact Lib.hid rfl
    clear HD2 HLD
    have HLD := HLD2
    clear hdn
    go_enter Tryz.func37, Tryz.ntmps37
    go_wp2_with fail
    go_region_held3 (fun a => Below w.heap.size w a) (first | assumption | exact (Below.refl _ w).drew | exact HB0.out | exact HX1.out | exact HX2.out)
      (first
        | (refine stepAppO ruleE tyRules2 (by rfl) _ _ (by rfl) HOE.out (HT.out.below HB0.out) (by rw [HLK.out]) (by rfl) (by rfl) (by simp) (by rw [HLK.out]; unfold big; simp; omega) ?_; intro v1 x1 hown1 hbx1 _; have HX1 := Lib.hid (HB0.out.trans (hbx1.mono (by simp))); rw [List.nil_append] at hown1; obtain ⟨A1, cc1, hv1, _, _⟩ := hown1.form; rw [HLK.out] at hv1; subst hv1)
        | (refine stepAppO ruleE tyRules2 (by rfl) _ _ (by rfl) hown1 (HD.out.below HX1.out) HLD.out.symm (by rfl) (by rfl) (by have := HX1.out.size; simpa using this) (by rw [HLK.out, HLD.out]; unfold big; omega) ?_; intro v2 x2 hown2 hbx2 _; have HX2 := Lib.hid (HX1.out.trans (hbx2.mono (by simp)))))
    all_goals
      go_wp2
      go_ret
      exact ⟨_, rfl, by rw [HEX.out]; simpa using hown2, HX2.out⟩
  · have HCK := Lib.hid hck
    have hck2 : ¬ (c : Int) = (k : Int) + 1 := by omega
    go_enter Tryz.func37, Tryz.ntmps37
    go_wp2_with fail
    go_region_held3 (fun a => Below w.heap.size w a) (first | assumption | exact (Below.refl _ w).drew | exact HB0.out | exact HX1.out | exact HX2.out)
      (first
        | (refine stepAppO ruleE tyRules2 (by rfl) _ _ (by rfl) HOE.out (HT.out.below HB0.out) (by rw [HLK.out]) (by rfl) (by rfl) (by simp) (by rw [HLK.out]; unfold big; simp; omega) ?_; intro v1 x1 hown1 hbx1 _; have HX1 := Lib.hid (HB0.out.trans (hbx1.mono (by simp))); rw [List.nil_append] at hown1; obtain ⟨A1, cc1, hv1, _, _⟩ := hown1.form; rw [HLK.out] at hv1; subst hv1)
        | (refine stepAppO ruleE tyRules2 (by rfl) _ _ (by rfl) hown1 (HD.out.below HX1.out) HLD.out.symm (by rfl) (by rfl) (by have := HX1.out.size; simpa using this) (by rw [HLK.out, HLD.out]; unfold big; omega) ?_; intro v2 x2 hown2 hbx2 _; have HX2 := Lib.hid (HX1.out.trans (hbx2.mono (by simp)))))
    all_goals
      go_wp2
      go_ret
      exact ⟨_, rfl, by rw [HEX.out]; simpa using hown2, HX2.out⟩
/-- Slices of two types share no block. -/
theorem Own.apart {α β : Type} {E : Enc α} {E2 : Enc β} {e e2 : TypeId} {B B2 : Nat} {w : World} {v v2 : Value} {xs : List α} {ys : List β} (h : Own E e B w v xs) (h2 : Own E2 e2 B2 w v2 ys) (hne : e ≠ e2) {b : Nat} (hb : v.ownBlock = some b) : v2.ownBlock ≠ some b := fun hv => by
  rcases h.2 with ⟨rfl, _⟩ | ⟨g, cap, cur, rfl, _, hg, _⟩
  · cases hb
  · rcases h2.2 with ⟨rfl, _⟩ | ⟨g', cap', cur', rfl, _, hg', _⟩
    · cases hv
    · have e1 : g = b := by simpa [Value.ownBlock] using hb
      have e3 : g' = b := by simpa [Value.ownBlock] using hv
      rw [e1] at hg
      rw [e3, hg] at hg'
      injection hg' with hg'
      injection hg' with _ h3 _
      exact hne h3
/-- What the reference's Shortest returns. -/
def Short2Ok (x : List Int) (w : World) (e : Ending) (w' : World) : Prop := ∃ A c, e = .returned (.slice A x.length c) ∧ Sl intE w' A x ∧ Below w.heap.size w w'
theorem Price.bits_length : ∀ (c i s : Nat), (Price.bits c i s).length ≤ c := by
  intro c
  induction c with
  | zero => intro i s; exact Nat.le_refl _
  | succ c ih => intro i s; simp only [Price.bits]; have := ih (i + 1) (s / 2); split <;> simp <;> omega
theorem Price.bits_in {n s : Nat} : ∀ x ∈ Price.bits n 0 s, 0 ≤ x ∧ x < n := fun x hx => by
  have h := Price.bits_rises n 0 s
  rw [Nat.zero_add] at h
  have := Price.rises_mem h x hx
  omega
set_option maxHeartbeats 8000000 in
theorem shortest2_spec (A : Option Addr) (l : List Rule) (c : Nat) (w : World) (h0 : Price.check l = 0) (hs : Sl ruleE w A l) (x : List Int) (hx : Price.First (Price.givesP l) l.length x) :
    Calls Tryz.prog 38 #[.slice A l.length c] w (Short2Ok x w) := by
  have hl8 := Price.check_length h0
  have hage := allowed_ge h0
  have HAGE := Lib.hid hage
  have HALL := Lib.hid (Price.setsGo_all hx)
  have HDF : Hid (∀ (ns : List Int) (W : World) (A2 : Option Addr) (c2 : Nat), (∀ i ∈ ns, 0 ≤ i ∧ i < l.length) → ns.length ≤ 8 → Below w.heap.size w W → Sl ruleE W A2 (Price.chosen l ns) → Calls Tryz.prog 36 #[.slice A l.length c, .slice A2 ns.length c2] W fun e w' => e = .returned (.tuple #[(Price.differ l (Price.chosen l ns)).1.v, .bool (!Price.givesP l ns)]) ∧ Below W.heap.size W w') := fun ns W A2 c2 hn hl hb hsl => by
    have hac : ∀ r ∈ Price.chosen l ns, -1 ≤ r.b ∧ -1 ≤ r.s ∧ -1 ≤ r.e := fun r hr => by
      obtain ⟨i, hi, rfl⟩ := List.mem_map.1 hr
      have hib := hn i hi
      have hlt : i.toNat < l.length := by omega
      rw [List.getD_eq_getElem?_getD, List.getElem?_eq_getElem hlt]
      exact hage _ (List.getElem_mem hlt)
    have := differ2_spec A l c A2 (Price.chosen l ns) c2 W (by unfold big; omega) (hs.below hb) hage (by rw [Price.chosen_length]; unfold big; omega) hsl hac
    rw [Price.chosen_length] at this
    have hg : decide ((Price.differ l (Price.chosen l ns)).2 = 0) = !Price.givesP l ns := by
      unfold Price.givesP
      rcases Price.differ_err l (Price.chosen l ns) with h | h <;> rw [h] <;> rfl
    rw [hg] at this
    exact this
  clear hage hx h0
  go_enter Tryz.func38, Tryz.ntmps38
  go_wp2_with fail
  go_loop [3, 4] (fun v3 v4 => ∃ k m : Nat, k ≤ l.length ∧ v4 = iv k ∧ v3 = iv m ∧ m ≤ 256 ∧ Hid (m = 2 ^ k)) (fun _ v4 => l.length - (intOf v4).toNat)
  case atStart => exact ⟨0, 1, by omega, rfl, rfl, by omega, rfl⟩
  case round =>
    obtain ⟨k, m, hk, rfl, rfl, hm, hmk⟩ := hrel
    by_cases hlt : k < l.length
    · have hki : (k : Int) < (l.length : Int) := by omega
      have h2m : Hid (2 * m = 2 ^ (k + 1)) := by refine Lib.hid ?_; rw [hmk.out, Nat.pow_succ]; omega
      have h256 : 2 * m ≤ 256 := by
        rw [h2m.out]
        exact Nat.le_trans (Nat.pow_le_pow_right (by omega) (show k + 1 ≤ 8 by omega)) (by decide)
      have hw2 : IntKind.i64.wrap (2 * (m : Int)) = ((2 * m : Nat) : Int) := by rw [IntWalk.i64_in _ (by omega)]; omega
      go_wp2
      go_round
      case rel => exact ⟨k + 1, 2 * m, by omega, by go_num, by first | rfl | (simp [iv]), h256, h2m⟩
      case measure => simp [intOf]; omega
    · obtain rfl : k = l.length := by omega
      have hki : ¬ (l.length : Int) < (l.length : Int) := by omega
      obtain ⟨n, hn⟩ : ∃ n, n = l.length := ⟨_, rfl⟩
      have HM : Hid (m = 2 ^ l.length) := hmk
      rw [← HM.out] at HALL
      clear hmk hn n
      go_wp2_with fail
      go_loopw [5, 6, 7, 8, 9, 10, 11, 12, 13] (fun v5 v6 v7 _ _ _ _ _ _ wr => ∃ (s : Nat) (best : Option (List Int)), s ≤ m ∧ v7 = iv s ∧ v6 = .bool best.isSome ∧ Own intE 3 w.heap.size wr v5 (best.getD []) ∧ (best.getD []).length ≤ 8 ∧ Hid (Price.setsGo (Price.givesP l) l.length (m - s) s best = some x) ∧ Below w.heap.size w wr) (fun _ _ v7 _ _ _ _ _ _ _ => m - (intOf v7).toNat)
      case atStart => exact ⟨0, none, by omega, rfl, rfl, Own.nil, by simp, HALL, Below.refl _ _⟩
      case round =>
        obtain ⟨s, best, hsm, rfl, rfl, hob, hbl, hset, hbw⟩ := hrel
        by_cases hlt : s < m
        · have hsi : (s : Int) < (m : Int) := by omega
          have hs1 : IntKind.i64.wrap ((s : Int) + 1) = (s : Int) + 1 := IntWalk.i64_in _ (by omega)
          have hset2 := hset.out
          rw [show m - s = (m - (s + 1)) + 1 by omega] at hset2
          simp only [Price.setsGo] at hset2
          have HSET := Lib.hid hset2
          obtain ⟨wo, rfl⟩ : ∃ wo : World, wo = wr := ⟨_, rfl⟩
          have hzw := hbw.size
          clear hset hset2
          go_wp2_with fail
          go_loopw [8, 9, 10, 11] (fun v8 v9 v10 v11 wr => ∃ (i rest : Nat) (ns : List Int), i ≤ l.length ∧ rest ≤ 256 ∧ v11 = iv i ∧ v10 = iv rest ∧ ns.length ≤ i ∧ Own intE 3 wo.heap.size wr v8 ns ∧ Own ruleE 61 wo.heap.size wr v9 (Price.chosen l ns) ∧ Hid (ns ++ Price.bits (l.length - i) i rest = Price.bits l.length 0 s) ∧ Below wo.heap.size wo wr) (fun _ _ _ v11 _ => l.length - (intOf v11).toNat)
          case atStart => exact ⟨0, s, [], by omega, by omega, rfl, rfl, by simp, Own.nil, Own.nil, rfl, Below.refl _ _⟩
          case round =>
            obtain ⟨i, rest, ns, hi, hrest, rfl, rfl, hnl, hon, hor, hbits, hbwr⟩ := hrel
            by_cases hil : i < l.length
            · have hii : (i : Int) < (l.length : Int) := by omega
              have hi1 : IntKind.i64.wrap ((i : Int) + 1) = (i : Int) + 1 := IntWalk.i64_in _ (by omega)
              have hdiv : (rest : Int).tdiv 2 = ((rest / 2 : Nat) : Int) := by rw [Int.tdiv_eq_ediv_of_nonneg (by omega)]; omega
              have hdw : IntKind.i64.wrap ((rest / 2 : Nat) : Int) = ((rest / 2 : Nat) : Int) := IntWalk.i64_in _ (by omega)
              have hb2 := hbits.out
              rw [show l.length - i = (l.length - (i + 1)) + 1 by omega] at hb2
              simp only [Price.bits] at hb2
              by_cases hodd : rest % 2 = 1
              · rw [if_pos hodd] at hb2
                have hmod : (rest : Int).tmod 2 = 1 := by rw [Int.tmod_eq_emod_of_nonneg (by omega)]; omega
                have HB2 : Hid ((ns ++ [(i : Int)]) ++ Price.bits (l.length - (i + 1)) (i + 1) (rest / 2) = Price.bits l.length 0 s) := by refine Lib.hid ?_; rw [← hb2]; simp
                obtain ⟨bl, ol, r, rfl, hbl, hr, ho0, ho1, ho2, ho3⟩ := (hs.below hbw).atR hil
                have hcs : Price.chosen l (ns ++ [(i : Int)]) = Price.chosen l ns ++ [r] := by
                  unfold Price.chosen
                  rw [List.map_append]
                  simp only [List.map_cons, List.map_nil, Int.toNat_natCast]
                  rw [List.getD_eq_getElem?_getD, hr]; rfl
                have HCS := Lib.hid hcs
                have hcl := Price.chosen_length l ns
                have HCL := Lib.hid hcl
                obtain ⟨ra, rb, rc, rd⟩ := r
                dsimp only at ho0 ho1 ho2 ho3
                have hss : ∀ a : World, Below wo.heap.size wo a → Below wo.heap.size wo a ∧ (a.cell? ⟨bl, ol + i * 4, none⟩ = some (iv ra) ∧ a.cell? ⟨bl, ol + i * 4 + 1, none⟩ = some (iv rb) ∧ a.cell? ⟨bl, ol + i * 4 + 2, none⟩ = some (iv rc) ∧ a.cell? ⟨bl, ol + i * 4 + 3, none⟩ = some (iv rd)) := fun a h =>
                  ⟨h, (h.cell (p := ⟨bl, ol + i * 4, none⟩) hbl).trans ho0, (h.cell (p := ⟨bl, ol + i * 4 + 1, none⟩) hbl).trans ho1, (h.cell (p := ⟨bl, ol + i * 4 + 2, none⟩) hbl).trans ho2, (h.cell (p := ⟨bl, ol + i * 4 + 3, none⟩) hbl).trans ho3⟩
                have HSS := Lib.hid hss
                have hz := hbwr.size
                have hd : Below wo.heap.size wo wr.drew := hbwr.drew
                have hond : Own intE 3 wo.heap.size wr.drew u8 ns := hon
                have hord : Own ruleE 61 wo.heap.size wr.drew u9 (Price.chosen l ns) := hor
                have hBc : ∀ W : World, Blk (W.alloc (.cells #[iv ra, iv rb, iv rc, iv rd] 61)) W.heap.size 61 ([(⟨ra, rb, rc, rd⟩ : Rule)].flatMap ruleE.cells).toArray := fun W => Blk.new _ _ _
                have hw1 : Below wo.heap.size wo (wr.drew.alloc (.cells #[iv i] 3)) := hd.alloc hz _
                have hw2 : Below wo.heap.size wo (wr.drew.alloc (.cells #[iv ra, iv rb, iv rc, iv rd] 61)) := hd.alloc hz _
                have HW0 := Lib.hid hd
                have HW1 := Lib.hid hw1
                have HW2 := Lib.hid hw2
                have HW12 := Lib.hid (hw1.alloc hw1.size (.cells #[iv ra, iv rb, iv rc, iv rd] 61))
                have HW21 := Lib.hid (hw2.alloc hw2.size (.cells #[iv i] 3))
                have HA1 := Lib.hid (hond.alloc (.cells #[iv i] 3))
                have HA12 := Lib.hid ((hond.alloc (.cells #[iv i] 3)).alloc (.cells #[iv ra, iv rb, iv rc, iv rd] 61))
                have HA21 := Lib.hid ((hond.alloc (.cells #[iv ra, iv rb, iv rc, iv rd] 61)).alloc (.cells #[iv i] 3))
                have HR1 := Lib.hid (hord.alloc (.cells #[iv i] 3))
                have HR12 := Lib.hid ((hord.alloc (.cells #[iv i] 3)).alloc (.cells #[iv ra, iv rb, iv rc, iv rd] 61))
                have HR21 := Lib.hid ((hord.alloc (.cells #[iv ra, iv rb, iv rc, iv rd] 61)).alloc (.cells #[iv i] 3))
                have HF1 := Lib.hid (Sl.fresh intE wr.drew 3 #[iv i] [(i : Int)] rfl (by simp [maxLen]))
                have HF12 := Lib.hid (HF1.out.alloc (.cells #[iv ra, iv rb, iv rc, iv rd] 61))
                have HF21 := Lib.hid (Sl.fresh intE (wr.drew.alloc (.cells #[iv ra, iv rb, iv rc, iv rd] 61)) 3 #[iv i] [(i : Int)] rfl (by simp [maxLen]))
                have HB12 := Lib.hid (hBc (wr.drew.alloc (.cells #[iv i] 3)))
                have HB21 := Lib.hid ((hBc wr.drew).alloc (.cells #[iv i] 3))
                have hl8 : l.length ≤ 8 := hl8
                clear hbits hb2 hodd hcs hcl hr ho0 ho1 ho2 ho3 hss hd hond hord hBc hw1 hw2 hon hor
                go_wp2_with fail
                go_region_held3 (fun a => Below wo.heap.size wo a ∧ (a.cell? ⟨bl, ol + i * 4, none⟩ = some (iv ra) ∧ a.cell? ⟨bl, ol + i * 4 + 1, none⟩ = some (iv rb) ∧ a.cell? ⟨bl, ol + i * 4 + 2, none⟩ = some (iv rc) ∧ a.cell? ⟨bl, ol + i * 4 + 3, none⟩ = some (iv rd)))
                  (first | assumption | exact HSS.out _ HW0.out | exact HSS.out _ HW1.out | exact HSS.out _ HW2.out | exact HSS.out _ HW12.out | exact HSS.out _ HW21.out | exact HSS.out _ HX2.out | exact HSS.out _ HX1.out | exact HSS.out _ (HX1.out.alloc HX1.out.size _))
                  (first
                    | (refine stepAppS intE tyInts (by rfl) _ _ (by rfl) HA1.out HF1.out rfl (by rfl) (G := wr.heap.size) (by first | rfl | simp) (by rfl) HW1.out.size (by unfold big; simp; omega) ?_; intro v1 x1 hown1 hbx1 hk1; have HX1 := Lib.hid (HW1.out.trans hbx1); have HRX := Lib.hid (HR1.out.keep hbx1.size fun b hb => hk1 b (HR1.out.lt b hb).2 (HR1.out.apart HA1.out (by decide) hb)); obtain ⟨A1, cc1, rfl, _, _⟩ := hown1.form; clear hk1)
                    | (refine stepAppS intE tyInts (by rfl) _ _ (by rfl) HA12.out HF12.out rfl (by rfl) (G := wr.heap.size) (by first | rfl | simp) (by rfl) HW12.out.size (by unfold big; simp; omega) ?_; intro v1 x1 hown1 hbx1 hk1; have HX1 := Lib.hid (HW12.out.trans hbx1); have HRX := Lib.hid (HR12.out.keep hbx1.size fun b hb => hk1 b (HR12.out.lt b hb).2 (HR12.out.apart HA12.out (by decide) hb)); have HOF := Lib.hid (Own.ofBlk (B := 0) HB12.out (Nat.zero_le _) (by simp [maxLen])); have HSF := Lib.hid (HOF.out.keep hbx1.size fun b hb => hk1 b (HOF.out.lt b hb).2 (HOF.out.apart HA12.out (by decide) hb)); obtain ⟨A1, cc1, rfl, _, _⟩ := hown1.form; clear hk1)
                    | (refine stepAppS intE tyInts (by rfl) _ _ (by rfl) HA21.out HF21.out rfl (by rfl) (G := wr.heap.size + 1) (by first | rfl | simp) (by rfl) HW21.out.size (by unfold big; simp; omega) ?_; intro v1 x1 hown1 hbx1 hk1; have HX1 := Lib.hid (HW21.out.trans hbx1); have HRX := Lib.hid (HR21.out.keep hbx1.size fun b hb => hk1 b (HR21.out.lt b hb).2 (HR21.out.apart HA21.out (by decide) hb)); have HOF := Lib.hid (Own.ofBlk (B := 0) HB21.out (Nat.zero_le _) (by simp [maxLen])); have HSF := Lib.hid (HOF.out.keep hbx1.size fun b hb => hk1 b (HOF.out.lt b hb).2 (HOF.out.apart HA21.out (by decide) hb)); obtain ⟨A1, cc1, rfl, _, _⟩ := hown1.form; clear hk1)
                    | (refine stepAppS ruleE tyRules2 (by rfl) _ _ (by rfl) HRX.out HSF.out.sl rfl (by rfl) (G := wr.heap.size + 1) (by first | rfl | simp) (by rfl) HX1.out.size (by rw [HCL.out]; unfold big; simp; omega) ?_; intro v2 x2 hown2 hbx2 hk2; have HX2 := Lib.hid (HX1.out.trans hbx2); have HNX := Lib.hid (hown1.keep hbx2.size fun b hb => hk2 b (hown1.lt b hb).2 (hown1.apart HRX.out (by decide) hb)); clear hk2)
                    | (refine stepAppS ruleE tyRules2 (by rfl) _ _ (by rfl) HRX.out HSF.out.sl rfl (by rfl) (G := wr.heap.size) (by first | rfl | simp) (by rfl) HX1.out.size (by rw [HCL.out]; unfold big; simp; omega) ?_; intro v2 x2 hown2 hbx2 hk2; have HX2 := Lib.hid (HX1.out.trans hbx2); have HNX := Lib.hid (hown1.keep hbx2.size fun b hb => hk2 b (hown1.lt b hb).2 (hown1.apart HRX.out (by decide) hb)); clear hk2)
                    | (refine stepAppS ruleE tyRules2 (by rfl) _ _ (by rfl) (HRX.out.alloc _) (Sl.fresh ruleE x1 61 #[iv ra, iv rb, iv rc, iv rd] [⟨ra, rb, rc, rd⟩] rfl (by simp [maxLen])) rfl (by rfl) (G := x1.heap.size) (by first | rfl | simp) (by rfl) (Nat.le_trans HX1.out.size (by simp)) (by rw [HCL.out]; unfold big; simp; omega) ?_; intro v2 x2 hown2 hbx2 hk2; have HX2 := Lib.hid ((HX1.out.alloc HX1.out.size _).trans hbx2); have HNX := Lib.hid ((hown1.alloc (.cells #[iv ra, iv rb, iv rc, iv rd] 61)).keep hbx2.size fun b hb => hk2 b ((hown1.alloc _).lt b hb).2 (hown1.apart HRX.out (by decide) hb)); clear hk2))
                all_goals
                  have HO2 := Lib.hid hown2
                  clear hown1 hown2 hbx1 hbx2
                  go_wp2_with fail
                  go_roundw
                  case rel => exact ⟨i + 1, rest / 2, ns ++ [(i : Int)], by omega, by omega, by go_num, by first | rfl | (simp [iv]), by simp; omega, by simpa using HNX.out, by rw [HCS.out]; exact HO2.out, HB2, HX2.out⟩
                  case measure => simp [intOf]; omega
              · rw [if_neg hodd] at hb2
                have hmod : (rest : Int).tmod 2 = 0 := by rw [Int.tmod_eq_emod_of_nonneg (by omega)]; omega
                have HB2 := Lib.hid hb2
                clear hbits hb2 hodd
                go_wp2_with fail
                go_roundw
                case rel => exact ⟨i + 1, rest / 2, ns, by omega, by omega, by go_num, by first | rfl | (simp [iv]), by omega, hon, hor, HB2, hbwr⟩
                case measure => simp [intOf]; omega
            · obtain rfl : i = l.length := by omega
              have hb2 := hbits.out
              rw [Nat.sub_self] at hb2
              simp only [Price.bits, List.append_nil] at hb2
              obtain ⟨w1, rfl⟩ : ∃ w1 : World, w1 = wr := ⟨_, rfl⟩
              have hin : ∀ i ∈ ns, 0 ≤ i ∧ i < l.length := by rw [hb2]; exact Price.bits_in
              have hn8 : ns.length ≤ 8 := by rw [hb2]; exact Nat.le_trans (Price.bits_length _ _ _) hl8
              rw [← hb2] at HSET
              have HBIT := Lib.hid hb2
              have hob1 := (hob.below (hbwr.mono (Nat.le_refl _)))
              have hb01 := hbw.trans (hbwr.mono hzw)
              have HON := Lib.hid (hon.base hzw)
              obtain ⟨A8, c8, hv8, _, _⟩ := hon.form
              subst hv8
              obtain ⟨A9, c9, hv9, _, _⟩ := hor.form
              rw [Price.chosen_length] at hv9
              subst hv9
              have hs8 := hon.sl
              have hs9 := hor.sl
              have HDIF : Hid (∀ W, Below w1.heap.size w1 W → Calls Tryz.prog 36 #[.slice A l.length c, .slice A9 ns.length c9] W fun e w' => e = .returned (.tuple #[(Price.differ l (Price.chosen l ns)).1.v, .bool (!Price.givesP l ns)]) ∧ Below W.heap.size W w') := fun W h => HDF.out ns W A9 c9 hin hn8 (hb01.next h (Nat.le_refl _)) (hs9.below h)
              obtain ⟨⟨da, db, dc⟩, hdp⟩ : ∃ dp, dp = (Price.differ l (Price.chosen l ns)).1 := ⟨_, rfl⟩
              rw [← hdp] at HDIF
              have hz1 := hb01.size
              clear hdp hb2 hbits hon hor hin hob
              cases best with
              | none =>
                have HS2 : Hid (Price.setsGo (Price.givesP l) l.length (m - (s + 1)) (s + 1) (if Price.givesP l ns then some ns else none) = some x) := by simpa [Price.beats] using HSET
                have HD1 := Lib.hid (HDIF.out w1 (Below.refl _ _))
                have HOB := Lib.hid hob1
                clear HSET HDIF hob1
                cases hg : Price.givesP l ns with
                | true =>
                  rw [hg] at HD1
                  rw [hg, if_pos rfl] at HS2
                  clear hg
                  go_wp2_with fail
                  refine HD1.out.mono ?_
                  rintro e w3 ⟨rfl, hb3⟩
                  have HFIN := Lib.hid ((HON.out.below ((Below.refl _ w1).next hb3 (Nat.le_refl _))).alloc (.cells #[iv da, iv db, iv dc] 59))
                  have HBF := Lib.hid ((hb01.next ((Below.refl _ w1).next hb3 (Nat.le_refl _)) (Nat.le_refl _)).next ((Below.refl _ w3).alloc (Nat.le_refl _) (.cells #[iv da, iv db, iv dc] 59)) (Nat.le_refl _))
                  clear hb3 HD1
                  go_wp2_with fail
                  go_roundw
                  case rel => exact ⟨s + 1, some ns, by omega, by go_num, rfl, HFIN.out, hn8, HS2, HBF.out⟩
                  case measure => simp [intOf]; omega
                | false =>
                  rw [hg] at HD1
                  rw [hg, if_neg (by decide)] at HS2
                  clear hg
                  go_wp2_with fail
                  refine HD1.out.mono ?_
                  rintro e w3 ⟨rfl, hb3⟩
                  have HFIN := Lib.hid ((HOB.out.below hb3).alloc (.cells #[iv da, iv db, iv dc] 59))
                  have HBF := Lib.hid ((hb01.next ((Below.refl _ w1).next hb3 (Nat.le_refl _)) (Nat.le_refl _)).next ((Below.refl _ w3).alloc (Nat.le_refl _) (.cells #[iv da, iv db, iv dc] 59)) (Nat.le_refl _))
                  clear hb3 HD1
                  go_wp2_with fail
                  go_roundw
                  case rel => exact ⟨s + 1, none, by omega, by go_num, rfl, HFIN.out, hbl, HS2, HBF.out⟩
                  case measure => simp [intOf]; omega
              | some b =>
                obtain ⟨Ab, cb, hvb, _, _⟩ := hob1.form
                subst hvb
                have hsb := hob1.sl
                have hbe := before_spec A8 ns c8 Ab b cb w1 (by unfold big; omega) hs8 (by unfold big; simp at hbl; omega) hsb
                cases hbb : Price.beforeB ns b with
                | false =>
                  rw [hbb] at hbe
                  have HBE := Lib.hid hbe
                  have HS2 : Hid (Price.setsGo (Price.givesP l) l.length (m - (s + 1)) (s + 1) (some b) = some x) := by simpa [Price.beats, hbb] using HSET
                  have HOB := Lib.hid hob1
                  clear HSET HDIF hbe hbb hob1 hsb
                  go_wp2_with (go_at_call 77; refine HBE.out.mono ?_; rintro e w2 ⟨rfl, hb2⟩)
                  go_roundw
                  case rel => exact ⟨s + 1, some b, by omega, by go_num, rfl, HOB.out.below hb2, hbl, HS2, hb01.next hb2 (Nat.le_refl _)⟩
                  case measure => simp [intOf]; omega
                | true =>
                  rw [hbb] at hbe
                  have HBE := Lib.hid hbe
                  have HS2 : Hid (Price.setsGo (Price.givesP l) l.length (m - (s + 1)) (s + 1) (if Price.givesP l ns then some ns else some b) = some x) := by simpa [Price.beats, hbb] using HSET
                  have HOB := Lib.hid hob1
                  clear HSET hbe hbb hob1 hsb
                  go_wp2_with fail
                  refine HBE.out.mono ?_
                  rintro e w2 ⟨rfl, hb2⟩
                  have HD1 := Lib.hid (HDIF.out w2 hb2)
                  have hob2 := HOB.out.below hb2
                  clear HDIF HOB HBE
                  cases hg : Price.givesP l ns with
                  | true =>
                    rw [hg] at HD1
                    rw [hg, if_pos rfl] at HS2
                    clear hg
                    go_wp2_with fail
                    refine HD1.out.mono ?_
                    rintro e w3 ⟨rfl, hb3⟩
                    have HFIN := Lib.hid ((HON.out.below ((hb2).next hb3 (Nat.le_refl _))).alloc (.cells #[iv da, iv db, iv dc] 59))
                    have HBF := Lib.hid ((hb01.next ((hb2).next hb3 (Nat.le_refl _)) (Nat.le_refl _)).next ((Below.refl _ w3).alloc (Nat.le_refl _) (.cells #[iv da, iv db, iv dc] 59)) (Nat.le_refl _))
                    clear hb3 HD1
                    go_wp2_with fail
                    go_roundw
                    case rel => exact ⟨s + 1, some ns, by omega, by go_num, rfl, HFIN.out, hn8, HS2, HBF.out⟩
                    case measure => simp [intOf]; omega
                  | false =>
                    rw [hg] at HD1
                    rw [hg, if_neg (by decide)] at HS2
                    clear hg
                    go_wp2_with fail
                    refine HD1.out.mono ?_
                    rintro e w3 ⟨rfl, hb3⟩
                    have HFIN := Lib.hid ((hob2.below hb3).alloc (.cells #[iv da, iv db, iv dc] 59))
                    have HBF := Lib.hid ((hb01.next ((hb2).next hb3 (Nat.le_refl _)) (Nat.le_refl _)).next ((Below.refl _ w3).alloc (Nat.le_refl _) (.cells #[iv da, iv db, iv dc] 59)) (Nat.le_refl _))
                    clear hb3 HD1
                    go_wp2_with fail
                    go_roundw
                    case rel => exact ⟨s + 1, (some b), by omega, by go_num, rfl, HFIN.out, hbl, HS2, HBF.out⟩
                    case measure => simp [intOf]; omega
        · obtain rfl : s = m := by omega
          have hset2 := hset.out
          rw [Nat.sub_self] at hset2
          simp only [Price.setsGo] at hset2
          subst hset2
          obtain ⟨Ab, cb, hv, _, _⟩ := hob.form
          subst hv
          have hsb := hob.sl
          have hsi : ¬ (s : Int) < (s : Int) := by omega
          clear hset
          go_wp2_with fail
          go_ret
          exact ⟨Ab, cb, rfl, hsb, hbw⟩
end Go.Proofs.YtkailkfiakagfaaGreat
