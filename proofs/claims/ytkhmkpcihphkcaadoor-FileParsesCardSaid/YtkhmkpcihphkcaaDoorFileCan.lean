/- What can be the beginning of a line: the reference beside the reader (plain laws). No condition. -/
import Derived.Test.YtkhmkpcihphkcaaDoorFileTell
set_option linter.unusedVariables false
set_option linter.unusedSimpArgs false
namespace Go.Proofs.YtkhmkpcihphkcaaDoor
namespace File
theorem on_no' {p : UInt8 → Bool} {l : List UInt8} (h : takes p l = false) (k : Nat) : on p l k = k := by unfold on; rw [h]; rfl
end File
namespace File
/-- What a line of n bytes begins with. -/
def head (n : Nat) : List UInt8 := Lib.decDigits n ++ [58]
/-- Whether bytes, from the k-th on, can be those of a line of n bytes, with its end. -/
def bodyOk (n : Nat) : Nat → List UInt8 → Bool
  | _, [] => true
  | k, b :: r => if k < n then okB b && bodyOk n (k + 1) r else if k = n then b == 10 && bodyOk n (k + 1) r else false
def canAt (n : Nat) (s : List UInt8) : Option (Bool × Bool) :=
  if s.length ≤ (head n).length then (if (head n).take s.length = s then some (true, false) else none)
  else if s.take (head n).length = head n then some (if bodyOk n 0 (s.drop (head n).length) then (true, decide ((s.drop (head n).length).length = n + 1)) else (false, false))
  else none
def canGo : Nat → Nat → List UInt8 → Bool × Bool
  | 0, _, _ => (false, false)
  | f + 1, n, s => match canAt n s with
    | some r => r
    | none => canGo f (n + 1) s
/-- Whether a text of a line can begin with some bytes, and whether it is one (the reference's can). -/
def can (s : List UInt8) : Bool × Bool := canGo 41 0 s
theorem canGo_of {s : List UInt8} {r : Bool × Bool} : ∀ (f n : Nat), (∃ m, n ≤ m ∧ m < n + f ∧ canAt m s = some r) → (∀ m, m < n + f → ∀ r', canAt m s = some r' → r' = r) → canGo f n s = r
  | 0, n, ⟨m, h1, h2, _⟩, _ => by omega
  | f + 1, n, ⟨m, h1, h2, h3⟩, h => by
    unfold canGo
    cases hc : canAt n s with
    | some r' => exact h n (by omega) r' hc
    | none =>
      have : n ≠ m := fun e => by rw [e, h3] at hc; cases hc
      exact canGo_of f (n + 1) ⟨m, by omega, by omega, h3⟩ fun m hm => h m (by omega)
theorem canGo_no {s : List UInt8} : ∀ (f n : Nat), (∀ m, m < n + f → canAt m s = none) → canGo f n s = (false, false)
  | 0, _, _ => rfl
  | f + 1, n, h => by
    unfold canGo
    rw [h n (by omega)]
    exact canGo_no f (n + 1) fun m hm => h m (by omega)
theorem canAt_head (n : Nat) (body : List UInt8) : canAt n (head n ++ body) = some (if bodyOk n 0 body then (true, decide (body.length = n + 1)) else (false, false)) := by
  unfold canAt
  by_cases hb : body = []
  · subst hb
    rw [if_pos (by simp), if_pos (by simp)]
    simp [bodyOk]
  · have : 0 < body.length := List.length_pos_iff.2 hb
    rw [if_neg (by simp; omega), List.take_left, if_pos rfl, List.drop_left]
theorem canAt_pre {n : Nat} {s u : List UInt8} (h : s ++ u = head n) : canAt n s = some (true, false) := by
  unfold canAt
  rw [← h, if_pos (by simp), List.take_left, if_pos rfl]
theorem canAt_cases {n : Nat} {s : List UInt8} {r : Bool × Bool} (h : canAt n s = some r) : (∃ u, s ++ u = head n ∧ r = (true, false)) ∨ ∃ body, s = head n ++ body ∧ body ≠ [] := by
  unfold canAt at h
  split at h
  · split at h
    · rename_i h1 h2
      injection h with h
      exact .inl ⟨(head n).drop s.length, by conv => lhs; lhs; rw [← h2]
                                             exact List.take_append_drop _ _, h.symm⟩
    · cases h
  · split at h
    · rename_i h1 h2
      refine .inr ⟨s.drop (head n).length, by conv => rhs; lhs; rw [← h2]
                                              exact (List.take_append_drop _ _).symm, fun e => h1 ?_⟩
      have := congrArg List.length e
      rw [List.length_drop] at this
      simp at this
      omega
    · cases h
theorem head_inj {n m : Nat} {x y : List UInt8} (hn : n ≤ 40) (hm : m ≤ 40) (h : head n ++ x = head m ++ y) : n = m ∧ x = y := by
  obtain ⟨k1, h1⟩ := readNum_self hn x 0
  obtain ⟨k2, h2⟩ := readNum_self hm y 0
  unfold head at h
  rw [List.append_assoc, List.append_assoc] at h
  have h : Lib.decDigits n ++ 58 :: x = Lib.decDigits m ++ 58 :: y := h
  rw [h, h2] at h1
  injection h1 with a b
  injection b with b c
  injection c with c d
  exact ⟨a.symm, c.symm⟩
theorem can_head {n : Nat} (hn : n ≤ 40) (body : List UInt8) : can (head n ++ body) = if bodyOk n 0 body then (true, decide (body.length = n + 1)) else (false, false) := by
  refine canGo_of 41 0 ⟨n, by omega, by omega, canAt_head n body⟩ fun m hm r hr => ?_
  have e : m = n := by
    rcases canAt_cases hr with ⟨u, hu, _⟩ | ⟨b, hb, _⟩
    · exact (head_inj (x := body ++ u) (y := []) hn (by omega) (by rw [List.append_nil, ← hu, List.append_assoc])).1.symm
    · exact (head_inj hn (by omega) hb).1.symm
  rw [e, canAt_head] at hr
  injection hr with hr
  exact hr.symm
theorem can_pre {n : Nat} (hn : n ≤ 40) {s u : List UInt8} (h : s ++ u = head n) : can s = (true, false) := by
  refine canGo_of 41 0 ⟨n, by omega, by omega, canAt_pre h⟩ fun m hm r hr => ?_
  rcases canAt_cases hr with ⟨_, _, e⟩ | ⟨b, hb, hne⟩
  · exact e
  · obtain ⟨_, e⟩ := head_inj (x := b ++ u) (y := []) (by omega : m ≤ 40) hn (by rw [List.append_nil, ← h, hb, List.append_assoc])
    exact absurd (List.append_eq_nil_iff.1 e).1 hne
theorem can_no {s : List UInt8} (h : ∀ m, m ≤ 40 → (∀ u, s ++ u ≠ head m) ∧ ∀ b, s ≠ head m ++ b) : can s = (false, false) := by
  refine canGo_no 41 0 fun m hm => ?_
  cases hc : canAt m s with
  | none => rfl
  | some r =>
    obtain ⟨h1, h2⟩ := h m (by omega)
    rcases canAt_cases hc with ⟨u, hu, _⟩ | ⟨b, hb, _⟩
    · exact absurd hu (h1 u)
    · exact absurd hb (h2 b)
theorem head_one {m : Nat} (h : m < 10) : head m = [UInt8.ofNat (48 + m), 58] := by unfold head; rw [Lib.decDigits_one h]; rfl
theorem head_two {m : Nat} (h1 : ¬ m < 10) (h2 : m ≤ 40) : head m = [UInt8.ofNat (48 + m / 10), UInt8.ofNat (48 + m % 10), 58] := by unfold head; rw [Lib.decDigits_two h1 (by omega)]; rfl
theorem dig_nat {m : Nat} (h : m < 10) : isDig (UInt8.ofNat (48 + m)) = true ∧ (UInt8.ofNat (48 + m)).toNat = 48 + m := by
  have ht : (UInt8.ofNat (48 + m)).toNat = 48 + m := by rw [UInt8.toNat_ofNat']; omega
  exact ⟨by simp [isDig, ht]; omega, ht⟩
/-- A head: one digit, or two, and a colon. -/
theorem head_form {m : Nat} (h : m ≤ 40) : (∃ b, isDig b = true ∧ b.toNat = 48 + m ∧ head m = [b, 58] ∧ m < 10) ∨ ∃ b c, isDig b = true ∧ isDig c = true ∧ 48 < b.toNat ∧ m = 10 * (b.toNat - 48) + (c.toNat - 48) ∧ head m = [b, c, 58] := by
  by_cases h1 : m < 10
  · obtain ⟨a, b⟩ := dig_nat h1
    exact .inl ⟨_, a, b, head_one h1, h1⟩
  · obtain ⟨a, b⟩ := dig_nat (m := m / 10) (by omega)
    obtain ⟨c, d⟩ := dig_nat (m := m % 10) (by omega)
    exact .inr ⟨_, _, a, c, by omega, by omega, head_two h1 h⟩
theorem nodig58 : isDig 58 = false := by decide
theorem can_b {b : UInt8} (h : isDig b = false) : can [b] = (false, false) := by
  refine can_no fun m hm => ?_
  rcases head_form hm with ⟨x, d, _, e, _⟩ | ⟨x, y, d, _, _, _, e⟩
  · rw [e]
    exact ⟨fun u hu => (by injection hu with hu _; rw [hu, d] at h; cases h), fun u hu => (by injection hu with _ hu; cases hu)⟩
  · rw [e]
    exact ⟨fun u hu => (by injection hu with hu _; rw [hu, d] at h; cases h), fun u hu => (by injection hu with _ hu; cases hu)⟩
theorem can_bcd {b c d : UInt8} (h : isDig c = true) (hd : d ≠ 58) : can [b, c, d] = (false, false) := by
  have hc : c ≠ 58 := fun e => by rw [e] at h; cases h
  refine can_no fun m hm => ?_
  rcases head_form hm with ⟨x, _, _, e, _⟩ | ⟨x, y, _, _, _, _, e⟩
  · rw [e]
    exact ⟨fun u hu => (by injection hu with _ hu; injection hu with _ hu; cases hu), fun u hu => (by injection hu with _ hu; injection hu with hu _; exact hc hu)⟩
  · rw [e]
    exact ⟨fun u hu => (by injection hu with _ hu; injection hu with _ hu; injection hu with hu _; exact hd hu), fun u hu => (by injection hu with _ hu; injection hu with _ hu; injection hu with hu _; exact hd hu)⟩
theorem can_bc {b c : UInt8} (hc : c ≠ 58) (h : ¬ (0 < b.toNat - 48 ∧ isDig c = true ∧ 10 * (b.toNat - 48) + (c.toNat - 48) ≤ 40)) : can [b, c] = (false, false) := by
  refine can_no fun m hm => ?_
  rcases head_form hm with ⟨x, _, _, e, _⟩ | ⟨x, y, _, hy, hx, hm2, e⟩
  · rw [e]
    exact ⟨fun u hu => (by injection hu with _ hu; injection hu with hu _; exact hc hu), fun u hu => (by injection hu with _ hu; injection hu with hu _; exact hc hu)⟩
  · rw [e]
    exact ⟨fun u hu => (by injection hu with h1 hu; injection hu with h2 hu; subst h1; subst h2; exact h ⟨by omega, hy, by omega⟩), fun u hu => (by injection hu with _ hu; injection hu with _ hu; cases hu)⟩
theorem bodyOk_app {n : Nat} : ∀ (x y : List UInt8) (k : Nat), (∀ b ∈ x, okB b = true) → k + x.length ≤ n → bodyOk n k (x ++ y) = bodyOk n (k + x.length) y
  | [], _, _, _, _ => rfl
  | b :: x, y, k, h, hl => by
    simp only [List.length_cons] at hl
    rw [List.cons_append, bodyOk, if_pos (by omega), h b (by simp), Bool.true_and, bodyOk_app x y (k + 1) (fun c hc => h c (List.mem_cons_of_mem _ hc)) (by omega), List.length_cons]
    exact congrArg (fun m => bodyOk n m y) (by omega)
/-- What takeN does, in full. -/
theorem takeN_cases : ∀ (n : Nat) (l : List UInt8) (k : Nat), ∃ a, a ≤ n ∧ a ≤ l.length ∧ (∀ b ∈ l.take a, okB b = true) ∧ (takeN n l k).2.2 = k + a ∧ (takeN n l k).2.1 = l.drop a ∧ ((takeN n l k).1 = true ∧ a = n ∨ (takeN n l k).1 = false ∧ a < n ∧ (a = l.length ∨ ∃ b r, l.drop a = b :: r ∧ okB b = false))
  | 0, l, k => ⟨0, Nat.le_refl _, Nat.zero_le _, (fun _ h => by cases h), rfl, rfl, .inl ⟨rfl, rfl⟩⟩
  | n + 1, l, k => by
    unfold takeN
    cases l with
    | nil => exact ⟨0, Nat.zero_le _, Nat.zero_le _, (fun _ h => by cases h), rfl, rfl, .inr ⟨rfl, Nat.zero_lt_succ _, .inl rfl⟩⟩
    | cons b r =>
      by_cases hb : okB b = true
      · rw [if_pos (show takes okB (b :: r) = true from hb), show rest okB (b :: r) = r from if_pos hb, show on okB (b :: r) k = k + 1 from if_pos hb]
        obtain ⟨a, h1, h2, h3, h4, h5, h6⟩ := takeN_cases n r (k + 1)
        refine ⟨a + 1, by omega, by simp; omega, fun c hc => ?_, by rw [h4]; omega, h5, ?_⟩
        · rw [List.take_succ_cons] at hc
          rcases List.mem_cons.1 hc with rfl | hc
          · exact hb
          · exact h3 c hc
        · rcases h6 with ⟨e, h6⟩ | ⟨e, h6, h7⟩
          · exact .inl ⟨e, by omega⟩
          · refine .inr ⟨e, by omega, ?_⟩
            rcases h7 with h7 | h7
            · exact .inl (by simp; omega)
            · exact .inr h7
      · rw [if_neg (show ¬ takes okB (b :: r) = true from hb)]
        exact ⟨0, Nat.zero_le _, Nat.zero_le _, (fun _ h => by cases h), rfl, rfl, .inr ⟨rfl, Nat.zero_lt_succ _, .inr ⟨b, r, rfl, by simpa using hb⟩⟩⟩
/-- What the reference finds where a line is read. -/
structure LineIs (l : List UInt8) (j : Nat) : Prop where
  le : j ≤ l.length
  pre : ∀ i, 1 ≤ i → i ≤ j → can (l.take i) = (true, false)
  stop : j = l.length ∨ can (l.take (j + 1)) = (false, false)
structure LineSome (l x : List UInt8) (j : Nat) : Prop where
  pos : 1 ≤ j
  le : j ≤ l.length
  pre : ∀ i, 1 ≤ i → i < j → can (l.take i) = (true, false)
  all : can (l.take j) = (true, true)
  form : l.take (j - 1) = Lib.decDigits x.length ++ 58 :: x
theorem read_none {l : List UInt8} {k : Nat} (h : (readNum l k).2.1 = false) : ∃ j, (readNum l k).2.2.2 = k + j ∧ LineIs l j := by
  cases l with
  | nil => exact ⟨0, rfl, Nat.le_refl _, (fun i h1 h2 => by omega), .inl rfl⟩
  | cons b r =>
    unfold readNum at h ⊢
    by_cases hb : isDig b = true
    · simp only [hb, if_true] at h ⊢
      have h48 := dig_of hb
      by_cases hc : 0 < b.toNat - 48 ∧ isDig (nextB r) = true ∧ 10 * (b.toNat - 48) + ((nextB r).toNat - 48) ≤ 40
      · rw [if_pos hc] at h ⊢
        dsimp only at h ⊢
        cases r with
        | nil => exact absurd hc.2.1 (by decide)
        | cons c q =>
          have hcd : isDig c = true := hc.2.1
          have h49 := dig_of hcd
          rw [show rest isDig (c :: q) = q from if_pos hcd, show on isDig (c :: q) (k + 1) = k + 1 + 1 from if_pos hcd] at *
          have e := on_no' h (k + 1 + 1)
          rw [e]
          have hh : head (10 * (b.toNat - 48) + (c.toNat - 48)) = [b, c, 58] := by
            have h40 : 10 * (b.toNat - 48) + (c.toNat - 48) ≤ 40 := hc.2.2
            rw [head_two (by omega) h40]
            rw [show 48 + (10 * (b.toNat - 48) + (c.toNat - 48)) / 10 = b.toNat by omega, show 48 + (10 * (b.toNat - 48) + (c.toNat - 48)) % 10 = c.toNat by omega, UInt8.ofNat_toNat, UInt8.ofNat_toNat]
          refine ⟨2, rfl, by simp, fun i h1 h2 => ?_, ?_⟩
          · rcases (show i = 1 ∨ i = 2 by omega) with rfl | rfl
            · exact can_pre (n := 10 * (b.toNat - 48) + (c.toNat - 48)) hc.2.2 (u := [c, 58]) hh.symm
            · exact can_pre (n := 10 * (b.toNat - 48) + (c.toNat - 48)) hc.2.2 (u := [58]) hh.symm
          · cases q with
            | nil => exact .inl rfl
            | cons d q =>
              refine .inr (can_bcd hcd fun e => ?_)
              rw [e] at h
              simp [takes] at h
      · rw [if_neg hc] at h ⊢
        dsimp only at h ⊢
        have e := on_no' h (k + 1)
        rw [e]
        have hh : head (b.toNat - 48) = [b, 58] := by
          rw [head_one (by omega), show 48 + (b.toNat - 48) = b.toNat by omega, UInt8.ofNat_toNat]
        refine ⟨1, rfl, by simp, fun i h1 h2 => ?_, ?_⟩
        · obtain rfl : i = 1 := by omega
          exact can_pre (n := b.toNat - 48) (by omega) (u := [58]) hh.symm
        · cases r with
          | nil => exact .inl rfl
          | cons c q =>
            refine .inr (can_bc (fun e => ?_) hc)
            rw [e] at h
            simp [takes] at h
    · simp only [if_neg hb]
      exact ⟨0, rfl, Nat.zero_le _, (fun i h1 h2 => by omega), .inr (can_b (by simpa using hb))⟩
theorem readNum_pos {l : List UInt8} {k : Nat} (h : (readNum l k).2.1 = true) : (readNum l k).2.2.2 = k + (head (readNum l k).1).length := by
  have h1 := readNum_len' l k
  have h2 := congrArg List.length (readNum_eq h)
  unfold head
  simp only [List.length_append, List.length_cons, List.length_nil] at h2 ⊢
  omega
theorem take_app_add {α : Type} (h r : List α) (q : Nat) : (h ++ r).take (h.length + q) = h ++ r.take q := by
  rw [List.take_append, List.take_of_length_le (Nat.le_add_right _ _), Nat.add_sub_cancel_left]
theorem pre_head {n : Nat} (hn : n ≤ 40) (l1 : List UInt8) {i : Nat} (hi : i ≤ (head n).length) : can ((head n ++ l1).take i) = (true, false) := by
  rw [List.take_append_of_le_length hi]
  exact can_pre hn (List.take_append_drop i (head n))
theorem read_line (l : List UInt8) (k : Nat) : (∃ x j, (readLine l k).1 = some x ∧ (readLine l k).2.2 = k + j ∧ (readLine l k).2.1 = l.drop j ∧ LineSome l x j) ∨ (∃ j, (readLine l k).1 = none ∧ (readLine l k).2.2 = k + j ∧ LineIs l j) := by
  have hle := readNum_le l k
  cases hs : (readNum l k).2.1 with
  | false =>
    obtain ⟨j, h1, h2⟩ := read_none hs
    refine .inr ⟨j, ?_, ?_, h2⟩
    · unfold readLine; dsimp only; rw [hs]; rfl
    · unfold readLine; dsimp only; rw [hs]; exact h1
  | true =>
    have hl := readNum_eq hs
    have hp := readNum_pos hs
    unfold readLine
    dsimp only
    generalize readNum l k = q at *
    obtain ⟨n, s, l1, k1⟩ := q
    dsimp only at hl hp hle hs ⊢
    subst hs
    subst hp
    have hl : l = head n ++ l1 := by rw [hl]; unfold head; rw [List.append_assoc]; rfl
    obtain ⟨a, h1, h2, h3, h4, h5, h6⟩ := takeN_cases n l1 (k + (head n).length)
    simp only [runN, if_true]
    generalize takeN n l1 (k + (head n).length) = t at *
    obtain ⟨t1, t2, t3⟩ := t
    dsimp only at h4 h5 h6 ⊢
    subst h4
    subst h5
    have hbody : ∀ q, q ≤ a → can (l.take ((head n).length + q)) = (true, false) := fun q hq => by
      rw [hl, take_app_add, can_head hle]
      have hx : ∀ b ∈ l1.take q, okB b = true := fun b hb => h3 b (List.take_subset_take_left l1 hq hb)
      have hql : (l1.take q).length = q := by rw [List.length_take]; omega
      have := bodyOk_app (n := n) (l1.take q) [] 0 hx (by omega)
      rw [List.append_nil] at this
      rw [this, hql]
      rw [show bodyOk n (0 + q) [] = true from by unfold bodyOk; rfl, if_pos rfl]
      congr 1
      simp
      omega
    have hpre : ∀ i, i ≤ (head n).length + a → can (l.take i) = (true, false) := fun i hi => by
      by_cases hh : i ≤ (head n).length
      · rw [hl]; exact pre_head hle l1 hh
      · have := hbody (i - (head n).length) (by omega)
        rwa [show (head n).length + (i - (head n).length) = i by omega] at this
    have hbad : ∀ b r, l1.drop a = b :: r → bodyOk n a [b] = false → can (l.take ((head n).length + a + 1)) = (false, false) := fun b r hb hno => by
      have e : l1.take (a + 1) = l1.take a ++ [b] := by
        rw [List.take_add_one]
        have : l1[a]? = some b := by rw [← List.head?_drop, hb]; rfl
        rw [this]; rfl
      rw [hl, Nat.add_assoc, take_app_add, can_head hle, e, bodyOk_app (l1.take a) [b] 0 h3 (by rw [List.length_take]; omega)]
      rw [List.length_take, Nat.min_eq_left h2, Nat.zero_add, hno]
      rfl
    have hll : l.length = (head n).length + l1.length := by rw [hl, List.length_append]
    rcases h6 with ⟨rfl, rfl⟩ | ⟨rfl, h7, h8⟩
    · simp only [if_true]
      by_cases ht : takes (· == 10) (l1.drop a) = true
      · rw [if_pos ht]
        have he := takes_eq ht
        have e1 : on (· == 10) (l1.drop a) (k + (head a).length + a) = k + ((head a).length + a + 1) := by unfold on; rw [if_pos ht]; omega
        have hlt : a < l1.length := by
          refine Nat.lt_of_not_le fun hge => ?_
          rw [List.drop_eq_nil_of_le hge] at ht
          cases ht
        refine .inl ⟨l1.take a, (head a).length + a + 1, rfl, e1, ?_, by omega, by omega, fun i _ hi => hpre i (by omega), ?_, ?_⟩
        · dsimp only
          have : l1.drop (a + 1) = rest (· == 10) (l1.drop a) := by
            have h9 := congrArg (List.drop 1) he
            rw [List.drop_drop] at h9
            exact h9
          rw [← this, hl, List.drop_append, List.drop_eq_nil_of_le (show (head a).length ≤ (head a).length + a + 1 by omega), List.nil_append]
          congr 1
          omega
        · have e : l1.take (a + 1) = l1.take a ++ [10] := by
            rw [List.take_add_one]
            have : l1[a]? = some 10 := by rw [← List.head?_drop, he]; rfl
            rw [this]; rfl
          rw [hl, Nat.add_assoc, take_app_add, can_head hle, e, bodyOk_app (l1.take a) [10] 0 h3 (by rw [List.length_take]; omega)]
          have hm : (l1.take a).length = a := by rw [List.length_take]; omega
          rw [hm, Nat.zero_add]
          have : bodyOk a a [10] = true := by unfold bodyOk; rw [if_neg (by omega), if_pos rfl]; rfl
          rw [this, if_pos rfl, List.length_append, hm]
          simp
        · rw [show (head a).length + a + 1 - 1 = (head a).length + a by omega]
          rw [hl, take_app_add]
          have hm : (l1.take a).length = a := by rw [List.length_take]; omega
          rw [hm]
          unfold head
          rw [List.append_assoc]
          rfl
      · rw [if_neg ht]
        refine .inr ⟨(head a).length + a, rfl, by dsimp only; omega, by omega, fun i _ hi => hpre i hi, ?_⟩
        cases hd : l1.drop a with
        | nil =>
          left
          have := congrArg List.length hd
          rw [List.length_drop] at this
          simp at this
          omega
        | cons b r =>
          right
          refine hbad b r hd ?_
          rw [hd] at ht
          unfold bodyOk
          rw [if_neg (by omega), if_pos rfl]
          have : (b == 10) = false := by simpa [takes] using ht
          rw [this]; rfl
    · rw [if_neg (by simp)]
      refine .inr ⟨(head n).length + a, rfl, by dsimp only; omega, by omega, fun i _ hi => hpre i hi, ?_⟩
      rcases h8 with h8 | ⟨b, r, hd, hno⟩
      · exact .inl (by omega)
      · right
        refine hbad b r hd ?_
        unfold bodyOk
        rw [if_pos h7, hno]; rfl
end File
end Go.Proofs.YtkhmkpcihphkcaaDoor
