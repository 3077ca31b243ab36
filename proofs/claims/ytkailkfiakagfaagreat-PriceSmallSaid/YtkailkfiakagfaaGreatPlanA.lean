/- The best plan: no plan that is let earns more; what a wider sale and one piece more earn. No condition. -/
import Derived.Test.YtkailkfiakagfaaGreatPriceM
import Derived.Test.YtkailkfiakagfaaGreatLawP
set_option linter.unusedVariables false
set_option linter.unusedSimpArgs false
namespace Go.Proofs.YtkailkfiakagfaaGreat
namespace Price
def sumTo : Nat → (Nat → Int) → Int
  | 0, _ => 0
  | n + 1, f => sumTo n f + f n
theorem sumTo_mono {f g : Nat → Int} : ∀ (n : Nat), (∀ t, t < n → f t ≤ g t) → sumTo n f ≤ sumTo n g := by
  intro n
  induction n with
  | zero => intro _; simp [sumTo]
  | succ n ih => intro h; have h1 := ih fun t ht => h t (by omega); have h2 := h n (by omega); simp only [sumTo]; omega
theorem sumTo_congr {f g : Nat → Int} (n : Nat) (h : ∀ t, t < n → f t = g t) : sumTo n f = sumTo n g := by
  have h1 := sumTo_mono n (fun t ht => Int.le_of_eq (h t ht))
  have h2 := sumTo_mono n (fun t ht => Int.le_of_eq (h t ht).symm)
  omega
theorem sumTo_add (f g : Nat → Int) : ∀ (n : Nat), sumTo n (fun t => f t + g t) = sumTo n f + sumTo n g := by
  intro n
  induction n with
  | zero => rfl
  | succ n ih => simp only [sumTo, ih]; omega
theorem sumTo_ind (c p : Int) (hp : 0 ≤ p) : ∀ (n : Nat), sumTo n (fun t => if (t : Int) < p then c else 0) = (if p ≤ n then p else n) * c := by
  intro n
  induction n with
  | zero =>
    simp only [sumTo]
    split
    · have : p = 0 := by omega
      rw [this]; simp
    · simp
  | succ n ih =>
    simp only [sumTo, ih]
    by_cases h : p ≤ n
    · rw [if_pos h, if_neg (by omega), if_pos (by omega)]; omega
    · rw [if_neg h, if_pos (by omega)]
      by_cases h2 : p ≤ ((n + 1 : Nat) : Int)
      · rw [if_pos h2]
        have : p = (n : Int) + 1 := by omega
        rw [this, Int.add_mul]; omega
      · rw [if_neg h2]; push_cast; rw [Int.add_mul]; omega
theorem sumTo_le (c p : Int) (hp : 0 ≤ p) (n : Nat) (hn : p ≤ n) : sumTo n (fun t => if (t : Int) < p then c else 0) = p * c := by rw [sumTo_ind c p hp, if_pos hn]
theorem sumTo_zero : ∀ n : Nat, sumTo n (fun _ => 0) = 0 := by
  intro n
  induction n with
  | zero => rfl
  | succ n ih => simp [sumTo, ih]
/-- How many elements of a list have something. -/
def cn {α : Type} (q : α → Bool) : List α → Int
  | [] => 0
  | x :: l => (if q x then 1 else 0) + cn q l
theorem cn_le {α : Type} {q q' : α → Bool} : ∀ {l : List α}, (∀ x ∈ l, q x = true → q' x = true) → cn q l ≤ cn q' l := by
  intro l
  induction l with
  | nil => intro _; simp [cn]
  | cons x l ih =>
    intro h
    have h1 := ih fun y hy => h y (List.mem_cons_of_mem _ hy)
    have h2 := h x List.mem_cons_self
    simp only [cn]
    by_cases hq : q x = true
    · rw [if_pos hq, if_pos (h2 hq)]; omega
    · rw [if_neg hq]; split <;> omega
theorem cn_congr {α : Type} {q q' : α → Bool} {l : List α} (h : ∀ x ∈ l, q x = q' x) : cn q l = cn q' l := by
  have h1 := cn_le (l := l) (q := q) (q' := q') fun x hx hq => (h x hx) ▸ hq
  have h2 := cn_le (l := l) (q := q') (q' := q) fun x hx hq => (h x hx).symm ▸ hq
  omega
theorem cn_nonneg {α : Type} (q : α → Bool) : ∀ (l : List α), 0 ≤ cn q l := by
  intro l
  induction l with
  | nil => simp [cn]
  | cons x l ih => simp only [cn]; split <;> omega
theorem cn_map {α β : Type} (q : β → Bool) (f : α → β) : ∀ (l : List α), cn q (l.map f) = cn (fun x => q (f x)) l := by
  intro l
  induction l with
  | nil => rfl
  | cons x l ih => simp only [List.map_cons, cn, ih]
/-- What pairs of a price and a week earn. -/
def earnsZ (fall : Int) : List (Int × Int) → Int
  | [] => 0
  | z :: zs => z.1 * rate fall z.2 + earnsZ fall zs
theorem earns_zip (fall : Int) : ∀ (ps plan : List Int), earns fall ps plan = earnsZ fall (ps.zip plan) := by
  intro ps
  induction ps with
  | nil => intro plan; cases plan <;> simp [earns, earnsZ]
  | cons p ps ih => intro plan; cases plan <;> simp [earns, earnsZ, ih]
theorem earnsZ_cake (fall : Int) (N M : Nat) : ∀ (zs : List (Int × Int)), (∀ z ∈ zs, 0 ≤ z.1 ∧ z.1 ≤ N ∧ 0 ≤ rate fall z.2 ∧ rate fall z.2 ≤ M) →
    earnsZ fall zs = sumTo N fun t => sumTo M fun s => cn (fun z => decide ((t : Int) < z.1) && decide ((s : Int) < rate fall z.2)) zs := by
  intro zs
  induction zs with
  | nil =>
    intro _
    simp only [earnsZ, cn]
    rw [sumTo_congr N (g := fun _ => 0) (fun t _ => sumTo_zero M), sumTo_zero]
  | cons z zs ih =>
    intro h
    obtain ⟨h1, h2, h3, h4⟩ := h z List.mem_cons_self
    simp only [earnsZ, cn]
    rw [ih fun y hy => h y (List.mem_cons_of_mem _ hy)]
    have e1 : ∀ t : Nat, t < N → (sumTo M fun s => (if (decide ((t : Int) < z.1) && decide ((s : Int) < rate fall z.2)) = true then 1 else 0) + cn (fun z => decide ((t : Int) < z.1) && decide ((s : Int) < rate fall z.2)) zs) =
        (if (t : Int) < z.1 then rate fall z.2 else 0) + sumTo M fun s => cn (fun z => decide ((t : Int) < z.1) && decide ((s : Int) < rate fall z.2)) zs := by
      intro t _
      rw [sumTo_add]
      congr 1
      by_cases ht : (t : Int) < z.1
      · rw [if_pos ht, sumTo_congr M (g := fun s => if (s : Int) < rate fall z.2 then 1 else 0) (fun s _ => by simp [ht]), sumTo_le 1 _ h3 M h4]; omega
      · rw [if_neg ht, sumTo_congr M (g := fun _ => 0) (fun s _ => by simp [ht]), sumTo_zero]
    rw [sumTo_congr N e1, sumTo_add, sumTo_le _ _ h1 N h2]
/-- How many weeks of a plan have a rate above s, week by week. -/
def capF (fall s : Int) (plan : List Int) : List Int → Int → Int
  | [], _ => 0
  | _ :: bs, w => (if s < rate fall w then countIn w plan else 0) + capF fall s plan bs (w + 1)
def capS (fall s : Int) : List Int → Int → Int
  | [], _ => 0
  | m :: bs, w => (if s < rate fall w then m else 0) + capS fall s bs (w + 1)
theorem capF_nil (fall s : Int) : ∀ (bs : List Int) (w : Int), capF fall s [] bs w = 0 := by
  intro bs
  induction bs with
  | nil => intro w; rfl
  | cons m bs ih => intro w; simp [capF, ih, countIn]
theorem capF_cons (fall s x : Int) (plan : List Int) : ∀ (bs : List Int) (w : Int), capF fall s (x :: plan) bs w = (if w ≤ x ∧ x < w + bs.length ∧ s < rate fall x then 1 else 0) + capF fall s plan bs w := by
  intro bs
  induction bs with
  | nil => intro w; simp only [capF, List.length_nil]; rw [if_neg (by omega)]; rfl
  | cons m bs ih =>
    intro w
    simp only [capF, ih, countIn, List.length_cons]
    by_cases hx : x = w
    · subst hx
      by_cases hs : s < rate fall x
      · rw [if_pos hs, if_pos hs, if_pos rfl, if_neg (by omega), if_pos (by omega)]; omega
      · rw [if_neg hs, if_neg hs, if_neg (by omega), if_neg (by omega)]
    · have hs0 : (if w + 1 ≤ x ∧ x < w + 1 + (bs.length : Int) ∧ s < rate fall x then (1 : Int) else 0) = if w ≤ x ∧ x < w + ((bs.length + 1 : Nat) : Int) ∧ s < rate fall x then 1 else 0 := by
        by_cases hc : w + 1 ≤ x ∧ x < w + 1 + (bs.length : Int) ∧ s < rate fall x
        · rw [if_pos hc, if_pos (by omega)]
        · rw [if_neg hc, if_neg (by omega)]
      rw [hs0, if_neg hx]
      split <;> omega
theorem rate_none (fall : Int) : rate fall (-1) = 0 := by simp [rate]
theorem capF_num (fall s : Int) (hs : 0 ≤ s) (bs : List Int) : ∀ (plan : List Int), (∀ x ∈ plan, -1 ≤ x ∧ x < bs.length) → cn (fun x => decide (s < rate fall x)) plan = capF fall s plan bs 0 := by
  intro plan
  induction plan with
  | nil => intro _; rw [capF_nil]; rfl
  | cons x plan ih =>
    intro h
    rw [capF_cons, ← ih fun y hy => h y (List.mem_cons_of_mem _ hy)]
    have hx := h x List.mem_cons_self
    simp only [cn]
    congr 1
    by_cases h0 : x = -1
    · subst h0; rw [if_neg (by simp [rate_none]; omega), if_neg (by omega)]
    · by_cases hr : s < rate fall x
      · rw [if_pos (by simpa using hr), if_pos (by omega)]
      · rw [if_neg (by simpa using hr), if_neg (by omega)]
theorem capF_le (fall s : Int) (plan : List Int) : ∀ (bs : List Int) (w : Int), roomFrom plan bs w = true → capF fall s plan bs w ≤ capS fall s bs w := by
  intro bs
  induction bs with
  | nil => intro w _; simp [capF, capS]
  | cons m bs ih =>
    intro w h
    simp only [roomFrom, Bool.and_eq_true, decide_eq_true_eq] at h
    have := ih _ h.2
    simp only [capF, capS]
    split <;> omega
theorem capF_ge (fall s : Int) (plan : List Int) : ∀ (bs : List Int) (w : Int), (∀ k, (hk : k < bs.length) → s < rate fall (w + k) → bs[k] ≤ countIn (w + k) plan) → capS fall s bs w ≤ capF fall s plan bs w := by
  intro bs
  induction bs with
  | nil => intro w _; simp [capF, capS]
  | cons m bs ih =>
    intro w h
    have h1 := ih (w + 1) fun k hk hr => by
      have := h (k + 1) (by simpa using hk) (by rw [show w + ((k + 1 : Nat) : Int) = w + 1 + k by omega]; exact hr)
      rw [show w + ((k + 1 : Nat) : Int) = w + 1 + k by omega] at this
      simpa using this
    have h2 := h 0 (by simp)
    simp only [Int.ofNat_zero, Int.add_zero, Int.natCast_zero] at h2
    simp only [capF, capS]
    split
    · rename_i hs
      have := h2 hs
      simp only [List.getElem_cons_zero] at this
      omega
    · omega
/-- A plan that is let: each week is one of the sale's, or none, and no week has more than are bought. -/
structure Plan (bought plan : List Int) : Prop where
  weeks : ∀ x ∈ plan, -1 ≤ x ∧ x < bought.length
  room : room bought plan = true
/-- A plan that no exchange and no move betters. -/
structure Loc (fall : Int) (bought prices plan : List Int) : Prop where
  exch : ∀ y ∈ prices.zip plan, ∀ z ∈ prices.zip plan, z.1 < y.1 → rate fall z.2 ≤ rate fall y.2
  move : ∀ y ∈ prices.zip plan, 0 < y.1 → ∀ k, (hk : k < bought.length) → rate fall y.2 < rate fall k → bought[k] ≤ countIn k plan
theorem zip_snd {α β : Type} : ∀ {ps : List α} {qs : List β}, ps.length = qs.length → (ps.zip qs).map (·.2) = qs := by
  intro ps
  induction ps with
  | nil => intro qs h; cases qs with
    | nil => rfl
    | cons _ _ => simp at h
  | cons p ps ih => intro qs h; cases qs with
    | nil => simp at h
    | cons q qs => simp [ih (by simpa using h)]
theorem zip_fst {α β : Type} : ∀ {ps : List α} {qs : List β}, ps.length = qs.length → (ps.zip qs).map (·.1) = ps := by
  intro ps
  induction ps with
  | nil => intro qs h; cases qs with
    | nil => rfl
    | cons _ _ => simp at h
  | cons p ps ih => intro qs h; cases qs with
    | nil => simp at h
    | cons q qs => simp [ih (by simpa using h)]
theorem mem_zip_bounds {fall : Int} (h1 : 0 ≤ fall) {bought prices plan : List Int} (hp : ∀ p ∈ prices, 0 ≤ p ∧ p ≤ 500) (hw : ∀ x ∈ plan, -1 ≤ x ∧ x < bought.length) :
    ∀ z ∈ prices.zip plan, 0 ≤ z.1 ∧ z.1 ≤ 500 ∧ 0 ≤ rate fall z.2 ∧ rate fall z.2 ≤ 100 := by
  intro z hz
  have hz1 := hp _ (List.of_mem_zip hz).1
  have hz2 := hw _ (List.of_mem_zip hz).2
  refine ⟨hz1.1, hz1.2, ?_⟩
  unfold rate
  split
  · omega
  · have : 0 ≤ fall * z.2 := Int.mul_nonneg h1 (by omega)
    omega
/-- A plan that no exchange and no move betters earns as much as can be. -/
theorem loc_best {fall : Int} (h1 : 0 ≤ fall) {bought prices P Q : List Int} (hp : ∀ p ∈ prices, 0 ≤ p ∧ p ≤ 500) (hP : Plan bought P) (hL : Loc fall bought prices P) (hQ : Plan bought Q)
    (hlP : prices.length = P.length) (hlQ : prices.length = Q.length) : earns fall prices Q ≤ earns fall prices P := by
  obtain ⟨N, hN⟩ : ∃ N : Nat, (N : Int) = 500 := ⟨500, rfl⟩
  obtain ⟨M, hM⟩ : ∃ M : Nat, (M : Int) = 100 := ⟨100, rfl⟩
  rw [earns_zip, earns_zip, earnsZ_cake fall N M _ (by rw [hN, hM]; exact mem_zip_bounds h1 hp hQ.weeks), earnsZ_cake fall N M _ (by rw [hN, hM]; exact mem_zip_bounds h1 hp hP.weeks)]
  refine sumTo_mono N fun t _ => sumTo_mono M fun s _ => ?_
  -- how many are dearer than t
  have q1 : cn (fun z => decide ((t : Int) < z.1) && decide ((s : Int) < rate fall z.2)) (prices.zip Q) ≤ cn (fun p => decide ((t : Int) < p)) prices := by
    conv => rhs; rw [← zip_fst hlQ, cn_map]
    refine cn_le fun x _ h => ?_
    simp only [Bool.and_eq_true] at h
    exact h.1
  have q2 : cn (fun z => decide ((t : Int) < z.1) && decide ((s : Int) < rate fall z.2)) (prices.zip Q) ≤ capS fall s bought 0 := by
    refine Int.le_trans ?_ (capF_le fall s Q bought 0 hQ.room)
    rw [← capF_num fall s (by omega) bought Q hQ.weeks]
    conv => rhs; rw [← zip_snd hlQ, cn_map]
    refine cn_le fun x _ h => ?_
    simp only [Bool.and_eq_true] at h
    exact h.2
  by_cases hall : ∀ z ∈ prices.zip P, (t : Int) < z.1 → (s : Int) < rate fall z.2
  · refine Int.le_trans q1 ?_
    conv => lhs; rw [← zip_fst hlP, cn_map]
    refine cn_le fun x hx h => ?_
    have := hall x hx (by simpa using h)
    simp only [Bool.and_eq_true, decide_eq_true_eq] at h ⊢
    exact ⟨h, this⟩
  · obtain ⟨y, hy, hty, hsy⟩ : ∃ y ∈ prices.zip P, (t : Int) < y.1 ∧ ¬ (s : Int) < rate fall y.2 := by
      false_or_by_contra
      rename_i hno
      exact hall fun z hz ht => Decidable.byContradiction fun hs => hno ⟨z, hz, ht, hs⟩
    refine Int.le_trans q2 (Int.le_trans (capF_ge fall s P bought 0 fun k hk hr => ?_) ?_)
    · have := hL.move y hy (by omega) k hk (by rw [Int.zero_add] at hr; omega)
      rw [Int.zero_add]; exact this
    · rw [← capF_num fall s (by omega) bought P hP.weeks]
      conv => lhs; rw [← zip_snd hlP, cn_map]
      refine cn_le fun x hx h => ?_
      have hsx : (s : Int) < rate fall x.2 := by simpa using h
      have htx : (t : Int) < x.1 := by
        by_cases hlt : x.1 < y.1
        · have := hL.exch y hy x hx hlt; omega
        · omega
      simp [hsx, htx]
theorem findFrom_split (p : Int → Bool) : ∀ (l : List Int) (k : Int), (findFrom p l k = -1 ∧ ∀ a ∈ l, p a = false) ∨ ∃ n, n < l.length ∧ findFrom p l k = k + n ∧ (∀ a ∈ l.take n, p a = false) ∧ ∃ x r, l.drop n = x :: r ∧ p x = true := by
  intro l
  induction l with
  | nil => intro k; exact .inl ⟨rfl, fun a h => by simp at h⟩
  | cons y l ih =>
    intro k
    simp only [findFrom]
    by_cases h : p y = true
    · rw [if_pos h]
      exact .inr ⟨0, by simp, by simp, fun a h => by simp at h, y, l, rfl, h⟩
    · rw [if_neg h]
      have h0 : p y = false := by simpa using h
      rcases ih (k + 1) with ⟨h1, h2⟩ | ⟨n, h1, h2, h3, h4⟩
      · refine .inl ⟨h1, fun a ha => ?_⟩
        rcases List.mem_cons.1 ha with rfl | ha
        · exact h0
        · exact h2 a ha
      · refine .inr ⟨n + 1, by simp; omega, by rw [h2]; push_cast; omega, fun a ha => ?_, h4⟩
        rcases List.mem_cons.1 (by simpa using ha) with rfl | ha
        · exact h0
        · exact h3 a ha
theorem posIn_split (p : Int → Bool) (l : List Int) : (∀ a ∈ l.take (posIn p l), p a = false) ∧ (l.drop (posIn p l) = [] ∨ ∃ x r, l.drop (posIn p l) = x :: r ∧ p x = true) := by
  unfold posIn
  rcases findFrom_split p l 0 with ⟨h1, h2⟩ | ⟨n, h1, h2, h3, h4⟩
  · rw [if_pos (by omega)]
    exact ⟨fun a ha => h2 a (List.mem_of_mem_take ha), .inl (by simp)⟩
  · rw [if_neg (by omega), show (findFrom p l 0).toNat = n by omega]
    exact ⟨h3, .inr h4⟩
theorem insertAt_perm (xs : List Int) (i : Nat) (x : Int) : (insertAt xs i x).Perm (x :: xs) := by
  unfold insertAt
  refine List.perm_middle.trans ?_
  rw [List.take_append_drop]
def upTo (n : Nat) : List Int := (List.range n).map fun (k : Nat) => (k : Int)
theorem upTo_succ (n : Nat) : upTo (n + 1) = upTo n ++ [(n : Int)] := by simp [upTo, List.range_succ]
def Falls (prices order : List Int) : Prop := order.Pairwise fun a b => prices.getD b.toNat 0 ≤ prices.getD a.toNat 0
theorem insert_falls {prices order : List Int} (i : Nat) (h : Falls prices order) : Falls prices (insertAt order (posIn (cheaper prices i) order) i) := by
  obtain ⟨h1, h2⟩ := posIn_split (cheaper prices i) order
  generalize posIn (cheaper prices i) order = n at *
  have hsplit : Falls prices (order.take n ++ order.drop n) := by rw [List.take_append_drop]; exact h
  obtain ⟨s1, s2, s3⟩ := List.pairwise_append.1 hsplit
  have hd : ∀ b ∈ order.drop n, prices.getD b.toNat 0 ≤ prices.getD i 0 := by
    rcases h2 with h2 | ⟨x, r, h2, hx⟩
    · rw [h2]; intro b hb; simp at hb
    · rw [h2] at s2 ⊢
      have hx' : prices.getD x.toNat 0 < prices.getD i 0 := by simpa [cheaper] using hx
      intro b hb
      rcases List.mem_cons.1 hb with rfl | hb
      · omega
      · have := (List.pairwise_cons.1 s2).1 b hb; omega
  unfold insertAt
  refine List.pairwise_append.2 ⟨s1, List.pairwise_cons.2 ⟨fun b hb => ?_, s2⟩, fun a ha b hb => ?_⟩
  · simpa using hd b hb
  · rcases List.mem_cons.1 hb with rfl | hb
    · have := h1 a ha
      simp only [cheaper, decide_eq_false_iff_not] at this
      simp only [Int.toNat_natCast]; omega
    · exact s3 a ha b hb
theorem orderGo_ok (prices : List Int) : ∀ (c i : Nat) (order : List Int), order.Perm (upTo i) → Falls prices order → (orderGo prices order i c).Perm (upTo (i + c)) ∧ Falls prices (orderGo prices order i c) := by
  intro c
  induction c with
  | zero => intro i order h1 h2; exact ⟨h1, h2⟩
  | succ c ih =>
    intro i order h1 h2
    have := ih (i + 1) (insertAt order (posIn (cheaper prices i) order) i) ?_ (insert_falls i h2)
    · rw [show i + 1 + c = i + (c + 1) by omega] at this
      exact this
    · refine (insertAt_perm _ _ _).trans ?_
      rw [upTo_succ]
      exact (List.Perm.cons _ h1).trans (List.perm_append_comm (l₁ := [(i : Int)]) (l₂ := upTo i))
/-- The weeks in the order in which pieces are sold. -/
def slots : List Int → Nat → List Int
  | [], _ => []
  | m :: bs, w => List.replicate m.toNat (w : Int) ++ slots bs (w + 1)
def asg (plan : List Int) : List Int → List Int → List Int
  | k :: ord, x :: xs => asg (plan.set k.toNat x) ord xs
  | _, _ => plan
theorem asg_nil (plan ord : List Int) : asg plan ord [] = plan := by cases ord <;> rfl
theorem asg_rep (w : Int) (rest : List Int) : ∀ (m : Nat) (plan ord : List Int), asg plan ord (List.replicate m w ++ rest) = asg (setAll plan w (ord.take (min m ord.length))) (ord.drop (min m ord.length)) rest := by
  intro m
  induction m with
  | zero => intro plan ord; simp [setAll]
  | succ m ih =>
    intro plan ord
    cases ord with
    | nil => simp [setAll, asg]
    | cons k ord =>
      simp only [List.replicate_succ, List.cons_append, asg, List.length_cons]
      rw [ih, show min (m + 1) (ord.length + 1) = min m ord.length + 1 by omega]
      simp [setAll]
theorem planGo_asg : ∀ (bs plan order : List Int) (w : Nat), planGo plan order w bs = asg plan order (slots bs w) := by
  intro bs
  induction bs with
  | nil => intro plan order w; simp [planGo, slots, asg_nil]
  | cons m bs ih => intro plan order w; simp only [planGo, slots]; rw [ih, asg_rep]
theorem asg_length : ∀ (ord plan xs : List Int), (asg plan ord xs).length = plan.length := by
  intro ord
  induction ord with
  | nil => intro plan xs; simp [asg]
  | cons k ord ih => intro plan xs; cases xs with
    | nil => simp [asg]
    | cons x xs => simp [asg, ih]
theorem asg_other : ∀ (ord plan xs : List Int) (k : Nat), (∀ a ∈ ord, a.toNat ≠ k) → (asg plan ord xs)[k]? = plan[k]? := by
  intro ord
  induction ord with
  | nil => intro plan xs k _; simp [asg]
  | cons a ord ih =>
    intro plan xs k h
    cases xs with
    | nil => simp [asg]
    | cons x xs =>
      simp only [asg]
      rw [ih _ _ _ fun b hb => h b (List.mem_cons_of_mem _ hb), List.getElem?_set_ne (h a List.mem_cons_self)]
theorem asg_at : ∀ (ord plan xs : List Int), (∀ a ∈ ord, 0 ≤ a ∧ a < plan.length) → ord.Nodup → ∀ j k, ord[j]? = some k → (asg plan ord xs)[k.toNat]? = if j < xs.length then xs[j]? else plan[k.toNat]? := by
  intro ord
  induction ord with
  | nil => intro plan xs _ _ j k h; simp at h
  | cons a ord ih =>
    intro plan xs hb hn j k h
    cases xs with
    | nil => simp [asg]
    | cons x xs =>
      simp only [asg]
      have hn' := List.nodup_cons.1 hn
      have ha := hb a List.mem_cons_self
      have hb' : ∀ b ∈ ord, 0 ≤ b ∧ b < (plan.set a.toNat x).length := fun b hb' => by rw [List.length_set]; exact hb b (List.mem_cons_of_mem _ hb')
      cases j with
      | zero =>
        simp only [List.getElem?_cons_zero, Option.some.injEq] at h
        subst h
        rw [asg_other _ _ _ _ fun b hb2 e => ?_, List.getElem?_set_self (by omega)]
        · simp
        · have h1 := hb b (List.mem_cons_of_mem _ hb2)
          have : b = a := by omega
          exact hn'.1 (this ▸ hb2)
      | succ j =>
        simp only [List.getElem?_cons_succ] at h
        rw [ih _ _ hb' hn'.2 j k h]
        have hk : k ∈ ord := List.mem_of_getElem? h
        have hne : a.toNat ≠ k.toNat := fun e => by
          have h1 := hb k (List.mem_cons_of_mem _ hk)
          have : k = a := by omega
          exact hn'.1 (this ▸ hk)
        rw [List.getElem?_set_ne hne]
        simp only [List.length_cons, List.getElem?_cons_succ, Nat.add_lt_add_iff_right]
theorem slots_mem : ∀ (bs : List Int) (w : Nat) (x : Int), x ∈ slots bs w → (w : Int) ≤ x ∧ x < w + bs.length := by
  intro bs
  induction bs with
  | nil => intro w x h; simp [slots] at h
  | cons m bs ih =>
    intro w x h
    simp only [slots, List.mem_append] at h
    simp only [List.length_cons]
    rcases h with h | h
    · have := (List.mem_replicate.1 h).2; omega
    · have := ih _ _ h; omega
theorem slots_rise : ∀ (bs : List Int) (w : Nat), (slots bs w).Pairwise (· ≤ ·) := by
  intro bs
  induction bs with
  | nil => intro w; exact List.Pairwise.nil
  | cons m bs ih =>
    intro w
    refine List.pairwise_append.2 ⟨List.pairwise_replicate.2 (.inr (Int.le_refl _)), ih _, fun a ha b hb => ?_⟩
    have h1 := (List.mem_replicate.1 ha).2
    have h2 := slots_mem _ _ _ hb
    omega
theorem countIn_cn (k : Int) : ∀ l : List Int, countIn k l = cn (fun x => decide (x = k)) l := by
  intro l
  induction l with
  | nil => rfl
  | cons x l ih => simp [countIn, cn, ih]
theorem cn_append {α : Type} (q : α → Bool) : ∀ (a b : List α), cn q (a ++ b) = cn q a + cn q b := by
  intro a
  induction a with
  | nil => intro b; simp [cn]
  | cons x a ih => intro b; simp only [List.cons_append, cn, ih]; omega
theorem cn_none {α : Type} {q : α → Bool} {l : List α} (h : ∀ x ∈ l, q x = false) : cn q l = 0 := by
  induction l with
  | nil => rfl
  | cons x l ih => simp [cn, h x List.mem_cons_self, ih fun y hy => h y (List.mem_cons_of_mem _ hy)]
theorem cn_perm {α : Type} (q : α → Bool) {a b : List α} (h : a.Perm b) : cn q a = cn q b := by
  induction h with
  | nil => rfl
  | cons x _ ih => simp [cn, ih]
  | swap x y l => simp only [cn]; omega
  | trans _ _ i1 i2 => rw [i1, i2]
theorem cn_replicate {α : Type} (q : α → Bool) (x : α) (h : q x = true) : ∀ n : Nat, cn q (List.replicate n x) = n := by
  intro n
  induction n with
  | zero => rfl
  | succ n ih => rw [List.replicate_succ, cn, if_pos h, ih]; omega
theorem slots_count : ∀ (bs : List Int) (w k : Nat) (hk : k < bs.length), countIn (w + k : Nat) (slots bs w) = (bs[k].toNat : Int) := by
  intro bs
  induction bs with
  | nil => intro w k hk; simp at hk
  | cons m bs ih =>
    intro w k hk
    rw [slots, countIn_cn, cn_append]
    cases k with
    | zero =>
      rw [cn_replicate _ _ (by simp), cn_none (l := slots bs (w + 1)) fun x hx => ?_]
      · simp
      · have := slots_mem _ _ _ hx
        simp only [Nat.add_zero, decide_eq_false_iff_not]; omega
    | succ k =>
      rw [cn_none (l := List.replicate m.toNat (w : Int)) fun x hx => ?_]
      · have := ih (w + 1) k (by simpa using hk)
        rw [countIn_cn] at this
        rw [show w + (k + 1) = w + 1 + k by omega, this]
        simp
      · have := (List.mem_replicate.1 hx).2
        simp only [decide_eq_false_iff_not]; omega
theorem getD_range (xs : List Int) (n : Nat) : (List.range n).map (fun j => xs.getD j (-1)) = xs.take n ++ List.replicate (n - xs.length) (-1) := by
  apply List.ext_getElem?
  intro j
  by_cases hj : j < n
  · rw [List.getElem?_map, List.getElem?_range hj]
    by_cases hx : j < xs.length
    · rw [List.getElem?_append_left (by simp; omega), List.getElem?_take_of_lt hj, List.getElem?_eq_getElem hx]
      simp [hx]
    · rw [List.getElem?_append_right (by simp; omega), List.getElem?_replicate, if_pos (by simp; omega)]
      simp only [Option.map_some, Option.some.injEq]
      rw [List.getD_eq_getElem?_getD, List.getElem?_eq_none (by omega)]; rfl
  · rw [List.getElem?_eq_none (by simp; omega), List.getElem?_eq_none (by simp; omega)]
theorem room_of {plan : List Int} : ∀ {bs : List Int} {w : Nat}, (∀ k, (hk : k < bs.length) → countIn ((w + k : Nat) : Int) plan ≤ bs[k]) → roomFrom plan bs w = true := by
  intro bs
  induction bs with
  | nil => intro w _; rfl
  | cons m bs ih =>
    intro w h
    simp only [roomFrom, Bool.and_eq_true, decide_eq_true_eq]
    refine ⟨h 0 (by simp), ?_⟩
    have := ih (w := w + 1) fun k hk => by
      have := h (k + 1) (by simpa using hk)
      rw [show w + (k + 1) = w + 1 + k by omega] at this
      simpa using this
    rw [show ((w : Int) + 1) = ((w + 1 : Nat) : Int) by omega]; exact this
theorem rate_anti {fall : Int} (h : 0 ≤ fall) {a b : Int} (ha : 0 ≤ a) (hab : a ≤ b) : rate fall b ≤ rate fall a := by
  unfold rate
  rw [if_neg (by omega), if_neg (by omega)]
  have : fall * a ≤ fall * b := Int.mul_le_mul_of_nonneg_left hab h
  omega
theorem rate_nonneg {fall a : Int} : 0 ≤ rate fall a := by
  unfold rate; split <;> omega
/-- What is known of the plan that the program makes. -/
structure BestShape (bought prices P order : List Int) : Prop where
  len : P.length = prices.length
  perm : order.Perm (upTo prices.length)
  falls : Falls prices order
  at_ : ∀ j k, order[j]? = some k → P.getD k.toNat (-1) = (slots bought 0).getD j (-1)
theorem upTo_nodup (n : Nat) : (upTo n).Nodup := by
  unfold upTo
  exact List.pairwise_map.2 (List.nodup_range.imp fun h e => h (by omega))
theorem best_shape (prices bought : List Int) : ∃ order, BestShape bought prices (bestPlan prices bought) order := by
  obtain ⟨h1, h2⟩ := orderGo_ok prices prices.length 0 [] List.Perm.nil List.Pairwise.nil
  rw [Nat.zero_add] at h1
  refine ⟨_, ?_, h1, h2, fun j k hjk => ?_⟩
  · rw [bestPlan, planGo_asg, asg_length, List.length_replicate]
  · have hmem : ∀ a ∈ orderGo prices [] 0 prices.length, 0 ≤ a ∧ a < prices.length := fun a ha => by
      have := (h1.mem_iff).1 ha
      simp only [upTo, List.mem_map, List.mem_range] at this
      obtain ⟨n, hn, rfl⟩ := this
      omega
    have hnd : (orderGo prices [] 0 prices.length).Nodup := h1.nodup_iff.2 (upTo_nodup _)
    have := asg_at _ (List.replicate prices.length (-1)) (slots bought 0) (by simpa using hmem) hnd j k hjk
    rw [bestPlan, planGo_asg, List.getD_eq_getElem?_getD, this, List.getD_eq_getElem?_getD]
    have hk := hmem k (List.mem_of_getElem? hjk)
    split
    · rfl
    · rename_i hj
      rw [List.getElem?_eq_none (by omega : (slots bought 0).length ≤ j), List.getElem?_replicate, if_pos (by omega)]; rfl
theorem falls_at {prices order : List Int} (h : Falls prices order) {i j : Nat} {a b : Int} (ha : order[i]? = some a) (hb : order[j]? = some b) (hij : i < j) : prices.getD b.toNat 0 ≤ prices.getD a.toNat 0 := by
  obtain ⟨hi, rfl⟩ := List.getElem?_eq_some_iff.1 ha
  obtain ⟨hj, rfl⟩ := List.getElem?_eq_some_iff.1 hb
  exact List.pairwise_iff_getElem.1 h i j hi hj hij
/-- The pairs of a price and a week, in the order in which pieces are sold. -/
def pairs (bought prices order : List Int) : List (Int × Int) := (List.range prices.length).map fun j => (prices.getD (order.getD j 0).toNat 0, (slots bought 0).getD j (-1))
theorem zip_perm {bought prices P order : List Int} (h : BestShape bought prices P order) : (prices.zip P).Perm (pairs bought prices order) := by
  have e1 : prices.zip P = (upTo prices.length).map fun k => (prices.getD k.toNat 0, P.getD k.toNat (-1)) := by
    apply List.ext_getElem?
    intro j
    have hlen := h.len
    by_cases hj : j < prices.length
    · rw [List.getElem?_eq_getElem (by rw [List.length_zip]; omega), List.getElem_zip, List.getElem?_map, upTo, List.getElem?_map, List.getElem?_range hj]
      simp [List.getElem?_eq_getElem hj, List.getElem?_eq_getElem (show j < P.length by omega)]
    · rw [List.getElem?_eq_none (by rw [List.length_zip]; omega), List.getElem?_eq_none (by simp [upTo]; omega)]
  rw [e1]
  refine (h.perm.symm.map _).trans (List.Perm.of_eq ?_)
  have hol : order.length = prices.length := by rw [h.perm.length_eq]; simp [upTo]
  apply List.ext_getElem?
  intro j
  by_cases hj : j < prices.length
  · have hjo : order[j]? = some (order[j]'(by omega)) := List.getElem?_eq_getElem _
    rw [List.getElem?_map, hjo, pairs, List.getElem?_map, List.getElem?_range hj]
    simp only [Option.map_some]
    rw [h.at_ j _ hjo, List.getD_eq_getElem?_getD (l := order), hjo]; rfl
  · rw [List.getElem?_eq_none (by simp; omega), List.getElem?_eq_none (by simp [pairs]; omega)]
theorem best_ok {fall : Int} (h0 : 0 ≤ fall) {bought prices : List Int} (hb : ∀ m ∈ bought, 0 ≤ m) : (bestPlan prices bought).length = prices.length ∧ Plan bought (bestPlan prices bought) ∧ Loc fall bought prices (bestPlan prices bought) := by
  obtain ⟨order, h⟩ := best_shape prices bought
  generalize bestPlan prices bought = P at *
  have hol : order.length = prices.length := by rw [h.perm.length_eq]; simp [upTo]
  have hz := zip_perm h
  have hsnd : ((pairs bought prices order).map (·.2)) = (slots bought 0).take prices.length ++ List.replicate (prices.length - (slots bought 0).length) (-1) := by
    rw [← getD_range, pairs, List.map_map]; rfl
  have hP : P.Perm ((slots bought 0).take prices.length ++ List.replicate (prices.length - (slots bought 0).length) (-1)) := by
    rw [← hsnd, ← zip_snd (ps := prices) h.len.symm]
    exact hz.map _
  have hcount : ∀ k : Nat, countIn (k : Int) P = countIn (k : Int) ((slots bought 0).take prices.length) := fun k => by
    rw [countIn_cn, countIn_cn, cn_perm _ hP, cn_append, cn_none (l := List.replicate _ _) fun x hx => ?_]
    · omega
    · have := (List.mem_replicate.1 hx).2
      simp only [decide_eq_false_iff_not]; omega
  refine ⟨h.len, ⟨fun x hx => ?_, room_of fun k hk => ?_⟩, ⟨fun y hy z hz' hlt => ?_, fun y hy hpos k hk hr => ?_⟩⟩
  · rcases List.mem_append.1 (hP.mem_iff.1 hx) with hx | hx
    · have := slots_mem _ _ _ (List.mem_of_mem_take hx); omega
    · have := (List.mem_replicate.1 hx).2; omega
  · rw [Nat.zero_add, hcount]
    have h1 := slots_count bought 0 k hk
    have h2 := hb bought[k] (List.getElem_mem hk)
    rw [Nat.zero_add, ← List.take_append_drop prices.length (slots bought 0), countIn_cn, cn_append] at h1
    have h3 := cn_nonneg (fun x => decide (x = (k : Int))) ((slots bought 0).drop prices.length)
    rw [countIn_cn]; omega
  · have hy := hz.mem_iff.1 hy
    have hz' := hz.mem_iff.1 hz'
    simp only [pairs, List.mem_map, List.mem_range] at hy hz'
    obtain ⟨j1, hj1, rfl⟩ := hy
    obtain ⟨j2, hj2, rfl⟩ := hz'
    dsimp only at hlt ⊢
    have hj : j1 < j2 := by
      false_or_by_contra
      rename_i hno
      by_cases e : j1 = j2
      · subst e; omega
      · have := falls_at h.falls (i := j2) (j := j1) (a := order.getD j2 0) (b := order.getD j1 0) (by simp [List.getElem?_eq_getElem (show j2 < order.length by omega)]) (by simp [List.getElem?_eq_getElem (show j1 < order.length by omega)]) (by omega)
        omega
    by_cases hs : j2 < (slots bought 0).length
    · rw [List.getD_eq_getElem?_getD, List.getD_eq_getElem?_getD, List.getElem?_eq_getElem hs, List.getElem?_eq_getElem (by omega : j1 < (slots bought 0).length)]
      have h1 := List.pairwise_iff_getElem.1 (slots_rise bought 0) j1 j2 (by omega) hs hj
      have h2 := slots_mem _ _ _ (List.getElem_mem (l := slots bought 0) (n := j1) (by omega))
      exact rate_anti h0 (by simpa using h2.1) h1
    · rw [List.getD_eq_getElem?_getD (i := j2), List.getElem?_eq_none (by omega)]
      simp only [Option.getD_none, rate_none]
      exact rate_nonneg
  · have hy := hz.mem_iff.1 hy
    simp only [pairs, List.mem_map, List.mem_range] at hy
    obtain ⟨j, hj, rfl⟩ := hy
    dsimp only at hpos hr
    rw [hcount]
    have h1 := slots_count bought 0 k hk
    have h2 := hb bought[k] (List.getElem_mem hk)
    rw [Nat.zero_add, ← List.take_append_drop prices.length (slots bought 0), countIn_cn, cn_append, cn_none (l := (slots bought 0).drop prices.length) fun x hx => ?_] at h1
    · rw [countIn_cn]; omega
    · by_cases hs : j < (slots bought 0).length
      · obtain ⟨i, hi, rfl⟩ := List.getElem_of_mem hx
        simp only [List.length_drop] at hi
        rw [List.getElem_drop]
        have h3 := List.pairwise_iff_getElem.1 (slots_rise bought 0) j (prices.length + i) hs (by omega) (by omega)
        rw [List.getD_eq_getElem?_getD, List.getElem?_eq_getElem hs] at hr
        simp only [Option.getD_some] at hr
        have h4 : ¬ (slots bought 0)[j] ≤ k := fun hle => by
          have h5 := slots_mem _ _ _ (List.getElem_mem hs)
          have := rate_anti h0 (by simpa using h5.1) hle
          omega
        simp only [decide_eq_false_iff_not]; omega
      · rw [List.drop_of_length_le (by omega)] at hx; cases hx
/-- The plan that the program makes is let, and no other that is earns more. -/
theorem best_most {fall : Int} (h0 : 0 ≤ fall) {bought prices Q : List Int} (hb : ∀ m ∈ bought, 0 ≤ m) (hp : ∀ p ∈ prices, 0 ≤ p ∧ p ≤ 500) (hQ : Plan bought Q) (hl : prices.length = Q.length) : earns fall prices Q ≤ earns fall prices (bestPlan prices bought) := by
  obtain ⟨h1, h2, h3⟩ := best_ok h0 (prices := prices) hb
  exact loc_best h0 hp h2 h3 hQ h1.symm hl
theorem room_mono {plan : List Int} : ∀ {bs bs' : List Int} {w : Int}, roomFrom plan bs w = true → bs.length ≤ bs'.length → (∀ k, (hk : k < bs.length) → (hk' : k < bs'.length) → bs[k] ≤ bs'[k]) →
    (∀ k, (hk' : k < bs'.length) → bs.length ≤ k → countIn (w + k) plan ≤ bs'[k]) → roomFrom plan bs' w = true := by
  intro bs bs'
  induction bs' generalizing bs with
  | nil => intro w _ _ _ _; rfl
  | cons m' bs' ih =>
    intro w h hl hle hmore
    simp only [roomFrom, Bool.and_eq_true, decide_eq_true_eq]
    cases bs with
    | nil =>
      refine ⟨by have h1 := hmore 0 (by simp) (by simp); rw [show w + ((0 : Nat) : Int) = w by omega] at h1; exact h1, ih (bs := []) rfl (by simp) (fun k hk => by simp at hk) fun k hk' _ => ?_⟩
      have := hmore (k + 1) (by simpa using hk') (by simp)
      rw [show w + ((k + 1 : Nat) : Int) = w + 1 + k by omega] at this
      simpa using this
    | cons m bs =>
      simp only [roomFrom, Bool.and_eq_true, decide_eq_true_eq] at h
      have h0 := hle 0 (by simp) (by simp)
      simp only [List.getElem_cons_zero] at h0
      refine ⟨by omega, ih (bs := bs) h.2 (by simpa using hl) (fun k hk hk' => ?_) fun k hk' hk => ?_⟩
      · have := hle (k + 1) (by simpa using hk) (by simpa using hk')
        simpa using this
      · have := hmore (k + 1) (by simpa using hk') (by simpa using hk)
        rw [show w + ((k + 1 : Nat) : Int) = w + 1 + k by omega] at this
        simpa using this
theorem countIn_zero {w : Int} {plan : List Int} (h : ∀ x ∈ plan, x ≠ w) : countIn w plan = 0 := by
  induction plan with
  | nil => rfl
  | cons x plan ih => simp [countIn, h x List.mem_cons_self, ih fun y hy => h y (List.mem_cons_of_mem _ hy)]
theorem Plan.wider {bought bought' plan : List Int} (h : Plan bought plan) (hl : bought.length ≤ bought'.length) (hle : ∀ k, (hk : k < bought.length) → (hk' : k < bought'.length) → bought[k] ≤ bought'[k]) (h0 : ∀ m ∈ bought', 0 ≤ m) : Plan bought' plan := by
  refine ⟨fun x hx => ?_, room_mono h.room hl hle fun k hk' hk => ?_⟩
  · have := h.weeks x hx; omega
  · rw [countIn_zero fun x hx => ?_]
    · exact h0 _ (List.getElem_mem hk')
    · have := h.weeks x hx; omega
theorem rate_fall {fall fall' w : Int} (h : fall' ≤ fall) (hw : -1 ≤ w) : rate fall w ≤ rate fall' w := by
  unfold rate
  split
  · omega
  · have : fall' * w ≤ fall * w := Int.mul_le_mul_of_nonneg_right h (by omega)
    omega
theorem earns_fall {fall fall' : Int} (h : fall' ≤ fall) : ∀ (ps plan : List Int), (∀ p ∈ ps, 0 ≤ p) → (∀ x ∈ plan, -1 ≤ x) → earns fall ps plan ≤ earns fall' ps plan := by
  intro ps
  induction ps with
  | nil => intro plan _ _; cases plan <;> simp [earns]
  | cons p ps ih =>
    intro plan hp hw
    cases plan with
    | nil => simp [earns]
    | cons w plan =>
      have h1 := ih plan (fun q hq => hp q (List.mem_cons_of_mem _ hq)) fun q hq => hw q (List.mem_cons_of_mem _ hq)
      have h2 := Int.mul_le_mul_of_nonneg_left (rate_fall h (hw w List.mem_cons_self)) (hp p List.mem_cons_self)
      simp only [earns]; omega
/-- A wider sale earns no less. -/
theorem later_wider {fall fall' : Int} {bought bought' prices : List Int} (h0 : 0 ≤ fall') (h : fall' ≤ fall) (hb : ∀ m ∈ bought, 0 ≤ m) (hb' : ∀ m ∈ bought', 0 ≤ m) (hp : ∀ p ∈ prices, 0 ≤ p ∧ p ≤ 500)
    (hl : bought.length ≤ bought'.length) (hle : ∀ k, (hk : k < bought.length) → (hk' : k < bought'.length) → bought[k] ≤ bought'[k]) :
    earns fall prices (bestPlan prices bought) ≤ earns fall' prices (bestPlan prices bought') := by
  obtain ⟨h1, h2, _⟩ := best_ok (fall := fall) (by omega) (prices := prices) hb
  exact Int.le_trans (earns_fall h prices _ (fun p h => (hp p h).1) fun x hx => (h2.weeks x hx).1) (best_most h0 hb' hp (h2.wider hl hle hb') h1.symm)
theorem earns_append (fall : Int) : ∀ (ps plan : List Int) (p w : Int), ps.length = plan.length → earns fall (ps ++ [p]) (plan ++ [w]) = earns fall ps plan + p * rate fall w := by
  intro ps
  induction ps with
  | nil => intro plan p w h; cases plan with
    | nil => simp [earns]
    | cons _ _ => simp at h
  | cons q ps ih => intro plan p w h; cases plan with
    | nil => simp at h
    | cons x plan => simp only [List.cons_append, earns]; rw [ih plan p w (by simpa using h)]; omega
theorem countIn_append (w x : Int) : ∀ (plan : List Int), countIn w (plan ++ [x]) = countIn w plan + if x = w then 1 else 0 := by
  intro plan
  induction plan with
  | nil => simp [countIn]
  | cons y plan ih => simp only [List.cons_append, countIn, ih]; omega
theorem room_le {plan plan' : List Int} : ∀ {bs : List Int} {w : Int}, roomFrom plan bs w = true → (∀ k, w ≤ k → countIn k plan' ≤ countIn k plan) → roomFrom plan' bs w = true := by
  intro bs
  induction bs with
  | nil => intro w _ _; rfl
  | cons m bs ih =>
    intro w h hle
    simp only [roomFrom, Bool.and_eq_true, decide_eq_true_eq] at h ⊢
    have := hle w (Int.le_refl _)
    exact ⟨by omega, ih h.2 fun k hk => hle k (by omega)⟩
/-- One piece more earns no less, and at most a hundred times its price more. -/
theorem later_more {fall : Int} {bought prices : List Int} {p : Int} (h0 : 0 ≤ fall) (hb : ∀ m ∈ bought, 0 ≤ m) (hp : ∀ p ∈ prices, 0 ≤ p ∧ p ≤ 500) (hp' : 0 ≤ p ∧ p ≤ 500) :
    earns fall prices (bestPlan prices bought) ≤ earns fall (prices ++ [p]) (bestPlan (prices ++ [p]) bought) ∧ earns fall (prices ++ [p]) (bestPlan (prices ++ [p]) bought) ≤ earns fall prices (bestPlan prices bought) + p * 100 := by
  have hpp : ∀ q ∈ prices ++ [p], 0 ≤ q ∧ q ≤ 500 := fun q hq => by
    rcases List.mem_append.1 hq with hq | hq
    · exact hp q hq
    · rw [List.mem_singleton.1 hq]; exact hp'
  obtain ⟨a1, a2, _⟩ := best_ok h0 (prices := prices) hb
  obtain ⟨b1, b2, _⟩ := best_ok h0 (prices := prices ++ [p]) hb
  constructor
  · have h1 : Plan bought (bestPlan prices bought ++ [-1]) := by
      refine ⟨fun x hx => ?_, room_le a2.room fun k hk => ?_⟩
      · rcases List.mem_append.1 hx with hx | hx
        · exact a2.weeks x hx
        · rw [List.mem_singleton.1 hx]; omega
      · rw [countIn_append, if_neg (by omega)]; omega
    have h2 := best_most h0 hb hpp h1 (by simp [a1])
    rw [earns_append _ _ _ _ _ a1.symm, rate_none] at h2
    omega
  · generalize bestPlan (prices ++ [p]) bought = Q at *
    have hne : Q ≠ [] := fun e => by rw [e] at b1; simp at b1
    obtain ⟨Q0, w, rfl⟩ : ∃ Q0 w, Q = Q0 ++ [w] := ⟨Q.dropLast, Q.getLast hne, (List.dropLast_concat_getLast hne).symm⟩
    have hl : prices.length = Q0.length := by simpa using b1.symm
    have h1 : Plan bought Q0 := ⟨fun x hx => b2.weeks x (List.mem_append.2 (.inl hx)), room_le b2.room fun k _ => by rw [countIn_append]; split <;> omega⟩
    have h2 := best_most h0 hb hp h1 hl
    rw [earns_append _ _ _ _ _ hl]
    have hw := b2.weeks w (by simp)
    have h3 : rate fall w ≤ 100 := by
      unfold rate
      split
      · omega
      · have : 0 ≤ fall * w := Int.mul_nonneg h0 (by omega)
        omega
    have := Int.mul_le_mul_of_nonneg_left h3 hp'.1
    omega
end Price
end Go.Proofs.YtkailkfiakagfaaGreat
-- What the list of PriceLater makes of pieces. Conditions: prices are allowed ones.
namespace Go.Proofs.YtkailkfiakagfaaGreat
namespace Price
/-- The list of the statement PriceLater. -/
def laterList (p0 p1 p2 : Int) : List Rule := [⟨-1, -1, -1, p0⟩, ⟨1, -1, -1, p1⟩, ⟨2, -1, -1, p2⟩]
def laterPrice (p0 p1 p2 : Int) (q : Piece) : Int := if q.b = 1 then p1 else if q.b = 2 then p2 else p0
theorem later_priced {p0 p1 p2 : Int} (h0 : 0 ≤ p0) (h1 : 0 ≤ p1) (h2 : 0 ≤ p2) (q : Piece) : priced (laterList p0 p1 p2) q = (laterPrice p0 p1 p2 q, 0) := by
  rw [← lawPriced_eq (fun r hr => by simp [laterList] at hr; rcases hr with rfl | rfl | rfl <;> assumption)]
  obtain ⟨b, s, e⟩ := q
  unfold laterPrice laterList lawPriced
  simp only [List.foldl_cons, List.foldl_nil]
  by_cases hb1 : b = 1
  · subst hb1; simp [lawStep, lawNames, holds, fits, many, one, lawEnd]
  · by_cases hb2 : b = 2
    · subst hb2; simp [lawStep, lawNames, holds, fits, many, one, lawEnd]
    · have h1' : ¬ (1 : Int) = b := fun e => hb1 e.symm
      have h2' : ¬ (2 : Int) = b := fun e => hb2 e.symm
      simp [lawStep, lawNames, holds, fits, many, one, lawEnd, hb1, hb2, h1', h2']
theorem later_check {p0 p1 p2 : Int} (h0 : 0 ≤ p0 ∧ p0 ≤ 500) (h1 : 0 ≤ p1 ∧ p1 ≤ 500) (h2 : 0 ≤ p2 ∧ p2 ≤ 500) : check (laterList p0 p1 p2) = 0 := by
  have hd : dupIn [] (laterList p0 p1 p2) = false := by simp [dupIn, laterList]
  have ha : (laterList p0 p1 p2).all allowed = true := by simp [laterList, allowed, inB, *]
  unfold check
  rw [if_neg (by simp [laterList]), if_pos ha, hd]; rfl
theorem later_stocked {p0 p1 p2 : Int} (h0 : 0 ≤ p0) (h1 : 0 ≤ p1) (h2 : 0 ≤ p2) : ∀ (stock : List Piece), (∀ q ∈ stock, isP q = true) → stocked (laterList p0 p1 p2) stock = (stock.map (laterPrice p0 p1 p2), 0) := by
  intro stock
  induction stock with
  | nil => intro _; rfl
  | cons q stock ih =>
    intro h
    have hq := h q List.mem_cons_self
    simp only [stocked, hq, if_true, later_priced h0 h1 h2]
    rw [ih fun x hx => h x (List.mem_cons_of_mem _ hx)]
    rfl
theorem later_bounds {p0 p1 p2 : Int} (h0 : 0 ≤ p0 ∧ p0 ≤ 40) (h1 : 0 ≤ p1 ∧ p1 ≤ 40) (h2 : 0 ≤ p2 ∧ p2 ≤ 40) (q : Piece) : 0 ≤ laterPrice p0 p1 p2 q ∧ laterPrice p0 p1 p2 q ≤ 40 := by
  unfold laterPrice
  split
  · assumption
  · split <;> assumption
theorem later_open {p0 p1 p2 fall : Int} {bought : List Int} {stock : List Piece} (h0 : 0 ≤ p0 ∧ p0 ≤ 500) (h1 : 0 ≤ p1 ∧ p1 ≤ 500) (h2 : 0 ≤ p2 ∧ p2 ≤ 500) (hf : 0 ≤ fall ∧ fall ≤ 30) (hl : 1 ≤ bought.length ∧ bought.length ≤ 8) (hb : ∀ m ∈ bought, 0 ≤ m ∧ m ≤ 9) (hs : stock.length ≤ 10) (hp : ∀ q ∈ stock, isP q = true) :
    openErr (laterList p0 p1 p2) fall bought stock = 0 := by
  have hc : checkSale fall bought = 0 := by
    unfold checkSale
    rw [if_pos (by simp [inB]; omega), if_pos]
    simp only [Bool.and_eq_true, List.all_eq_true]
    exact ⟨by simp [inB]; omega, fun x hx => by have := hb x hx; simp [inB]; omega⟩
  unfold openErr
  rw [if_pos (later_check h0 h1 h2), if_pos hc, if_pos hs, later_stocked h0.1 h1.1 h2.1 stock hp]
end Price
end Go.Proofs.YtkailkfiakagfaaGreat
-- Plans that are made better, as long as they can be, earn as much as the best one. No condition.
namespace Go.Proofs.YtkailkfiakagfaaGreat
namespace Price
theorem searchK_some {f : Nat → Bool} : ∀ (c k j : Nat), searchK f k c = some j → k ≤ j ∧ j < k + c ∧ f j = true := by
  intro c
  induction c with
  | zero => intro k j h; cases h
  | succ c ih =>
    intro k j h
    simp only [searchK] at h
    split at h
    · rename_i hf; cases h; exact ⟨Nat.le_refl _, by omega, hf⟩
    · obtain ⟨h1, h2, h3⟩ := ih _ _ h; exact ⟨by omega, by omega, h3⟩
theorem searchK_none {f : Nat → Bool} : ∀ (c k : Nat), searchK f k c = none → ∀ j, k ≤ j → j < k + c → f j = false := by
  intro c
  induction c with
  | zero => intro k _ j h1 h2; omega
  | succ c ih =>
    intro k h j h1 h2
    simp only [searchK] at h
    split at h
    · cases h
    · rename_i hf
      by_cases e : j = k
      · subst e; simpa using hf
      · exact ih _ h j (by omega) (by omega)
theorem searchIK_some {f : Nat → Nat → Bool} {n : Nat} : ∀ (c i a b : Nat), searchIK f n i c = some (a, b) → i ≤ a ∧ a < i + c ∧ a < b ∧ b < n ∧ f a b = true := by
  intro c
  induction c with
  | zero => intro i a b h; cases h
  | succ c ih =>
    intro i a b h
    simp only [searchIK] at h
    split at h
    · rename_i k hk; cases h; obtain ⟨h1, h2, h3⟩ := searchK_some _ _ _ hk; exact ⟨Nat.le_refl _, by omega, by omega, by omega, h3⟩
    · obtain ⟨h1, h2, h3, h4, h5⟩ := ih _ _ _ h; exact ⟨by omega, by omega, h3, h4, h5⟩
theorem searchIK_none {f : Nat → Nat → Bool} {n : Nat} : ∀ (c i : Nat), searchIK f n i c = none → ∀ a b, i ≤ a → a < i + c → a < b → b < n → f a b = false := by
  intro c
  induction c with
  | zero => intro i _ a b h1 h2; omega
  | succ c ih =>
    intro i h a b h1 h2 h3 h4
    simp only [searchIK] at h
    split at h
    · cases h
    · rename_i hk
      by_cases e : a = i
      · subst e; exact searchK_none _ _ hk b (by omega) (by omega)
      · exact ih _ h a b (by omega) (by omega) h3 h4
theorem searchW_some {f : Nat → Bool} : ∀ (c k j : Nat), searchW f k c = some j → k ≤ j ∧ j < k + c ∧ f j = true := by
  intro c
  induction c with
  | zero => intro k j h; cases h
  | succ c ih =>
    intro k j h
    simp only [searchW] at h
    split at h
    · rename_i hf; cases h; exact ⟨Nat.le_refl _, by omega, hf⟩
    · obtain ⟨h1, h2, h3⟩ := ih _ _ h; exact ⟨by omega, by omega, h3⟩
theorem searchW_none {f : Nat → Bool} : ∀ (c k : Nat), searchW f k c = none → ∀ j, k ≤ j → j < k + c → f j = false := by
  intro c
  induction c with
  | zero => intro k _ j h1 h2; omega
  | succ c ih =>
    intro k h j h1 h2
    simp only [searchW] at h
    split at h
    · cases h
    · rename_i hf
      by_cases e : j = k
      · subst e; simpa using hf
      · exact ih _ h j (by omega) (by omega)
theorem searchIW_some {f : Nat → Nat → Bool} {n : Nat} : ∀ (c i a b : Nat), searchIW f n i c = some (a, b) → i ≤ a ∧ a < i + c ∧ b < n ∧ f a b = true := by
  intro c
  induction c with
  | zero => intro i a b h; cases h
  | succ c ih =>
    intro i a b h
    simp only [searchIW] at h
    split at h
    · rename_i k hk; cases h; obtain ⟨h1, h2, h3⟩ := searchW_some _ _ _ hk; exact ⟨Nat.le_refl _, by omega, by omega, h3⟩
    · obtain ⟨h1, h2, h3, h4⟩ := ih _ _ _ h; exact ⟨by omega, by omega, h3, h4⟩
theorem searchIW_none {f : Nat → Nat → Bool} {n : Nat} : ∀ (c i : Nat), searchIW f n i c = none → ∀ a b, i ≤ a → a < i + c → b < n → f a b = false := by
  intro c
  induction c with
  | zero => intro i _ a b h1 h2; omega
  | succ c ih =>
    intro i h a b h1 h2 h4
    simp only [searchIW] at h
    split at h
    · cases h
    · rename_i hk
      by_cases e : a = i
      · subst e; exact searchW_none _ _ hk b (by omega) (by omega)
      · exact ih _ h a b (by omega) (by omega) h4
/-- The sum of products, whatever is made of a price and of a week. -/
def dotF (f g : Int → Int) : List Int → List Int → Int
  | p :: ps, w :: plan => f p * g w + dotF f g ps plan
  | _, _ => 0
theorem earns_dot (fall : Int) : ∀ (ps plan : List Int), earns fall ps plan = dotF id (rate fall) ps plan := by
  intro ps
  induction ps with
  | nil => intro plan; cases plan <;> rfl
  | cons p ps ih => intro plan; cases plan with
    | nil => rfl
    | cons w plan => simp only [earns, dotF, ih, id]
theorem dot_set (f g : Int → Int) : ∀ (ps plan : List Int) (i : Nat) (a : Int), i < plan.length → ps.length = plan.length → dotF f g ps (plan.set i a) = dotF f g ps plan + f (ps.getD i 0) * (g a - g (plan.getD i 0)) := by
  intro ps
  induction ps with
  | nil => intro plan i a h1 h2; simp at h2; omega
  | cons p ps ih =>
    intro plan i a h1 h2
    cases plan with
    | nil => simp at h1
    | cons w plan =>
      cases i with
      | zero => simp only [List.set_cons_zero, dotF, List.getD_cons_zero, Int.mul_sub]; omega
      | succ i =>
        simp only [List.set_cons_succ, dotF, List.getD_cons_succ]
        rw [ih plan i a (by simpa using h1) (by simpa using h2)]; omega
theorem countIn_set (w : Int) : ∀ (plan : List Int) (i : Nat) (a : Int), i < plan.length → countIn w (plan.set i a) = countIn w plan - (if plan.getD i 0 = w then 1 else 0) + (if a = w then 1 else 0) := by
  intro plan
  induction plan with
  | nil => intro i a h; simp at h
  | cons x plan ih =>
    intro i a h
    cases i with
    | zero => simp only [List.set_cons_zero, countIn, List.getD_cons_zero]; omega
    | succ i =>
      simp only [List.set_cons_succ, countIn, List.getD_cons_succ]
      rw [ih i a (by simpa using h)]; omega
theorem getD_set_ne {plan : List Int} {i k : Nat} (h : i ≠ k) (a : Int) : (plan.set i a).getD k 0 = plan.getD k 0 := by
  simp [List.getD_eq_getElem?_getD, List.getElem?_set_ne h]
theorem dot_exch (f g : Int → Int) (ps plan : List Int) (i k : Nat) (hi : i < plan.length) (hk : k < plan.length) (hik : i ≠ k) (hl : ps.length = plan.length) :
    dotF f g ps (exch plan i k) = dotF f g ps plan + (f (ps.getD i 0) - f (ps.getD k 0)) * (g (plan.getD k 0) - g (plan.getD i 0)) := by
  unfold exch
  rw [dot_set f g ps _ k _ (by simpa using hk) (by simpa using hl), dot_set f g ps plan i _ hi hl, getD_set_ne hik]
  simp only [Int.mul_sub, Int.sub_mul]
  omega
theorem exch_count (w : Int) (plan : List Int) (i k : Nat) (hi : i < plan.length) (hk : k < plan.length) (hik : i ≠ k) : countIn w (exch plan i k) = countIn w plan := by
  unfold exch
  rw [countIn_set w _ k _ (by simpa using hk), countIn_set w plan i _ hi, getD_set_ne hik]
  omega
theorem getD_mem {plan : List Int} {i : Nat} (h : i < plan.length) : plan.getD i 0 ∈ plan := by
  rw [List.getD_eq_getElem?_getD, List.getElem?_eq_getElem h]; exact List.getElem_mem h
theorem Plan.exch {bought plan : List Int} (h : Plan bought plan) {i k : Nat} (hi : i < plan.length) (hk : k < plan.length) (hik : i ≠ k) : Plan bought (exch plan i k) := by
  refine ⟨fun x hx => ?_, room_le h.room fun w _ => by rw [exch_count w plan i k hi hk hik]; exact Int.le_refl _⟩
  rcases List.mem_or_eq_of_mem_set hx with hx | rfl
  · rcases List.mem_or_eq_of_mem_set hx with hx | rfl
    · exact h.weeks x hx
    · exact h.weeks _ (getD_mem hk)
  · exact h.weeks _ (getD_mem hi)
theorem Plan.set {bought plan : List Int} (h : Plan bought plan) {i w : Nat} (hw : w < bought.length) (hr : Price.room bought (plan.set i w) = true) : Plan bought (plan.set i w) := by
  refine ⟨fun x hx => ?_, hr⟩
  rcases List.mem_or_eq_of_mem_set hx with hx | rfl
  · exact h.weeks x hx
  · omega
theorem room_get {plan : List Int} : ∀ {bs : List Int} {w : Int}, roomFrom plan bs w = true → ∀ k, (hk : k < bs.length) → countIn (w + k) plan ≤ bs[k] := by
  intro bs
  induction bs with
  | nil => intro w _ k hk; simp at hk
  | cons m bs ih =>
    intro w h k hk
    simp only [roomFrom, Bool.and_eq_true, decide_eq_true_eq] at h
    cases k with
    | zero => simpa using h.1
    | succ k =>
      have := ih h.2 k (by simpa using hk)
      rw [show w + ((k + 1 : Nat) : Int) = w + 1 + k by omega]
      simpa using this
theorem zip_at {ps plan : List Int} (hl : ps.length = plan.length) {z : Int × Int} (h : z ∈ ps.zip plan) : ∃ i, i < plan.length ∧ z = (ps.getD i 0, plan.getD i 0) := by
  obtain ⟨i, hi, rfl⟩ := List.getElem_of_mem h
  rw [List.length_zip] at hi
  refine ⟨i, by omega, ?_⟩
  rw [List.getElem_zip, List.getD_eq_getElem?_getD, List.getD_eq_getElem?_getD, List.getElem?_eq_getElem (by omega : i < ps.length), List.getElem?_eq_getElem (by omega : i < plan.length)]
  rfl
theorem mul_pos_cases {a b : Int} (h : 0 < a * b) : (0 < a ∧ 0 < b) ∨ (a < 0 ∧ b < 0) := by
  rcases Int.lt_trichotomy a 0 with ha | ha | ha
  · right
    refine ⟨ha, ?_⟩
    false_or_by_contra
    have := Int.mul_nonneg (a := -a) (b := b) (by omega) (by omega)
    rw [Int.neg_mul] at this; omega
  · subst ha; simp at h
  · left
    refine ⟨ha, ?_⟩
    false_or_by_contra
    have := Int.mul_nonneg (a := a) (b := -b) (by omega) (by omega)
    rw [Int.mul_neg] at this; omega
/-- A plan that no exchange and no move betters, as the program tries them. -/
theorem loc_of_none {fall : Int} {bought prices plan : List Int} {stock : List Piece} (hP : Plan bought plan) (hl : prices.length = plan.length) (hsl : stock.length = prices.length)
    (hst : ∀ i k, i < stock.length → k < stock.length → stock[i]? = stock[k]? → prices.getD i 0 = prices.getD k 0)
    (he : ∀ i k, i < k → k < stock.length → betterExch fall stock prices plan i k = false) (hm : ∀ i k, i < stock.length → k < bought.length → betterMove fall bought prices plan i k = false) : Loc fall bought prices plan := by
  refine ⟨fun y hy z hz hlt => ?_, fun y hy hpos k hk hr => ?_⟩
  · obtain ⟨i, hi, rfl⟩ := zip_at hl hy
    obtain ⟨k, hk, rfl⟩ := zip_at hl hz
    dsimp only at hlt ⊢
    false_or_by_contra
    rename_i hno
    have hik : i ≠ k := fun e => by subst e; omega
    have hpos : 0 < (prices.getD i 0 - prices.getD k 0) * (rate fall (plan.getD k 0) - rate fall (plan.getD i 0)) := Int.mul_pos (by omega) (by omega)
    have key : ∀ a b, a < b → (a = i ∧ b = k ∨ a = k ∧ b = i) → False := by
      intro a b hab hc
      have h1 := he a b hab (by omega)
      unfold betterExch at h1
      rw [Bool.and_eq_false_iff] at h1
      rcases h1 with h1 | h1
      · have h2 : stock[a]? = stock[b]? := by simpa using h1
        have := hst a b (by omega) (by omega) h2
        rcases hc with ⟨rfl, rfl⟩ | ⟨rfl, rfl⟩ <;> omega
      · rw [decide_eq_false_iff_not, earns_dot, earns_dot, dot_exch id (rate fall) prices plan a b (by omega) (by omega) (by omega) hl] at h1
        simp only [id] at h1
        rcases hc with ⟨rfl, rfl⟩ | ⟨rfl, rfl⟩
        · omega
        · have : (prices.getD a 0 - prices.getD b 0) * (rate fall (plan.getD b 0) - rate fall (plan.getD a 0)) = (prices.getD b 0 - prices.getD a 0) * (rate fall (plan.getD a 0) - rate fall (plan.getD b 0)) := by
            rw [← Int.neg_sub (prices.getD b 0), ← Int.neg_sub (rate fall (plan.getD a 0)), Int.neg_mul_neg]
          omega
    rcases Nat.lt_or_gt_of_ne hik with h | h
    · exact key i k h (.inl ⟨rfl, rfl⟩)
    · exact key k i h (.inr ⟨rfl, rfl⟩)
  · obtain ⟨i, hi, rfl⟩ := zip_at hl hy
    dsimp only at hpos hr
    false_or_by_contra
    rename_i hno
    have h1 := hm i k (by omega) hk
    unfold betterMove at h1
    rw [Bool.and_eq_false_iff] at h1
    have hne : plan.getD i 0 ≠ k := fun e => by rw [e] at hr; omega
    rcases h1 with h1 | h1
    · have : room bought (plan.set i k) = true := by
        refine room_of (w := 0) fun j hj => ?_
        have h2 := room_get hP.room j hj
        rw [Int.zero_add] at h2
        rw [Nat.zero_add, countIn_set _ _ _ _ hi]
        by_cases hjk : k = j
        · subst hjk; rw [if_neg hne, if_pos rfl]; omega
        · rw [if_neg (c := (k : Int) = (j : Int)) (by omega)]; split <;> omega
      rw [this] at h1; cases h1
    · rw [decide_eq_false_iff_not, earns_dot, earns_dot, dot_set id (rate fall) prices plan i k hi hl] at h1
      have : 0 < prices.getD i 0 * (rate fall k - rate fall (plan.getD i 0)) := Int.mul_pos hpos (by omega)
      simp only [id] at h1; omega
/-! How far a plan is made better: ranks of prices times ranks of rates. -/
def rankP (ps : List Int) (p : Int) : Int := cn (fun q => decide (q ≤ p)) ps
def rankR (fall : Int) (n : Nat) (w : Int) : Int := cn (fun v => decide (rate fall v ≤ rate fall w) && decide (0 < rate fall v)) (upTo n)
theorem cn_lt {α : Type} {q q' : α → Bool} : ∀ {l : List α}, (∀ x ∈ l, q x = true → q' x = true) → (∃ x ∈ l, q' x = true ∧ q x = false) → cn q l + 1 ≤ cn q' l := by
  intro l
  induction l with
  | nil => rintro _ ⟨x, hx, _⟩; cases hx
  | cons y l ih =>
    rintro h ⟨x, hx, h1, h2⟩
    have hle : ∀ x ∈ l, q x = true → q' x = true := fun x hx => h x (List.mem_cons_of_mem _ hx)
    simp only [cn]
    rcases List.mem_cons.1 hx with rfl | hx
    · rw [h1, h2, if_neg (by decide), if_pos rfl]
      have := cn_le hle; omega
    · have := ih hle ⟨x, hx, h1, h2⟩
      by_cases hq : q y = true
      · rw [if_pos hq, if_pos (h y List.mem_cons_self hq)]; omega
      · rw [if_neg hq]; split <;> omega
theorem cn_len {α : Type} (q : α → Bool) : ∀ (l : List α), cn q l ≤ l.length := by
  intro l
  induction l with
  | nil => exact Int.le_refl _
  | cons x l ih => simp only [cn, List.length_cons]; split <;> omega
theorem rankP_lt {ps : List Int} {p q : Int} (h : p < q) (hq : q ∈ ps) : rankP ps p + 1 ≤ rankP ps q :=
  cn_lt (fun x _ hx => by simp only [decide_eq_true_eq] at hx ⊢; omega) ⟨q, hq, by simp, by simp; omega⟩
theorem rankP_pos {ps : List Int} {p : Int} (hp : p ∈ ps) : 1 ≤ rankP ps p := by
  have := cn_lt (q := fun _ => false) (q' := fun q => decide (q ≤ p)) (l := ps) (fun x _ hx => by cases hx) ⟨p, hp, by simp, rfl⟩
  have h2 := cn_nonneg (fun _ => false) ps
  unfold rankP; omega
theorem rankR_lt {fall : Int} {n : Nat} {w w' : Int} (h : rate fall w < rate fall w') (hw : w' ∈ upTo n) : rankR fall n w + 1 ≤ rankR fall n w' := by
  have := rate_nonneg (fall := fall) (a := w)
  exact cn_lt (fun x _ hx => by simp only [Bool.and_eq_true, decide_eq_true_eq] at hx ⊢; omega) ⟨w', hw, by simp; omega, by simp; omega⟩
theorem upTo_mem {n : Nat} {x : Int} (h0 : 0 ≤ x) (h : x < n) : x ∈ upTo n := by
  simp only [upTo, List.mem_map, List.mem_range]
  exact ⟨x.toNat, by omega, by omega⟩
theorem rank_bounds {ps : List Int} {fall p w : Int} {n : Nat} : 0 ≤ rankP ps p ∧ rankP ps p ≤ ps.length ∧ 0 ≤ rankR fall n w ∧ rankR fall n w ≤ n := by
  have h1 := cn_nonneg (fun q => decide (q ≤ p)) ps
  have h2 := cn_len (fun q => decide (q ≤ p)) ps
  have h3 := cn_nonneg (fun v => decide (rate fall v ≤ rate fall w) && decide (0 < rate fall v)) (upTo n)
  have h4 := cn_len (fun v => decide (rate fall v ≤ rate fall w) && decide (0 < rate fall v)) (upTo n)
  have h5 : (upTo n).length = n := by simp [upTo]
  unfold rankP rankR
  omega
def pot (fall : Int) (n : Nat) (ps plan : List Int) : Int := dotF (rankP ps) (rankR fall n) ps plan
theorem dot_bounds {f g : Int → Int} {M N : Int} (hf : ∀ x, 0 ≤ f x ∧ f x ≤ M) (hg : ∀ x, 0 ≤ g x ∧ g x ≤ N) (hM : 0 ≤ M) (hN : 0 ≤ N) : ∀ (ps plan : List Int), 0 ≤ dotF f g ps plan ∧ dotF f g ps plan ≤ ps.length * (M * N) := by
  intro ps
  have hMN : 0 ≤ M * N := Int.mul_nonneg hM hN
  induction ps with
  | nil => intro plan; cases plan <;> simp [dotF]
  | cons p ps ih =>
    intro plan
    have hc : ((p :: ps).length : Int) * (M * N) = ps.length * (M * N) + M * N := by rw [List.length_cons]; push_cast; rw [Int.add_mul]; omega
    cases plan with
    | nil =>
      have : 0 ≤ (ps.length : Int) * (M * N) := Int.mul_nonneg (by omega) hMN
      simp only [dotF]; omega
    | cons w plan =>
      have h1 := ih plan
      have h2 := Int.mul_nonneg (hf p).1 (hg w).1
      have h3 := Int.mul_le_mul (hf p).2 (hg w).2 (hg w).1 hM
      simp only [dotF]; omega
theorem pot_bounds {fall : Int} {n : Nat} {ps plan : List Int} (h1 : ps.length ≤ 10) (h2 : n ≤ 8) : 0 ≤ pot fall n ps plan ∧ pot fall n ps plan ≤ 800 := by
  have h := dot_bounds (f := rankP ps) (g := rankR fall n) (M := 10) (N := 8) (fun x => by have := rank_bounds (ps := ps) (fall := fall) (p := x) (w := x) (n := n); omega) (fun x => by have := rank_bounds (ps := ps) (fall := fall) (p := x) (w := x) (n := n); omega) (by omega) (by omega) ps plan
  unfold pot; omega
/-- What is known of prices of a stock. -/
structure Shop (fall : Int) (bought prices : List Int) (stock : List Piece) : Prop where
  fall0 : 0 ≤ fall
  weeks : bought.length ≤ 8
  pos : ∀ m ∈ bought, 0 ≤ m
  len : stock.length = prices.length
  ten : stock.length ≤ 10
  bnd : ∀ p ∈ prices, 0 ≤ p ∧ p ≤ 500
  same : ∀ i k, i < stock.length → k < stock.length → stock[i]? = stock[k]? → prices.getD i 0 = prices.getD k 0
theorem Shop.exch {fall : Int} {bought prices plan : List Int} {stock : List Piece} (h : Shop fall bought prices stock) (hP : Plan bought plan) (hl : plan.length = stock.length) {i k : Nat} (hik : i < k) (hk : k < stock.length) (hb : betterExch fall stock prices plan i k = true) :
    Plan bought (exch plan i k) ∧ (exch plan i k).length = stock.length ∧ earns fall prices plan < earns fall prices (exch plan i k) ∧ pot fall bought.length prices plan + 1 ≤ pot fall bought.length prices (exch plan i k) := by
  have hpl : prices.length = plan.length := by rw [hl, h.len]
  unfold betterExch at hb
  rw [Bool.and_eq_true, decide_eq_true_eq] at hb
  refine ⟨hP.exch (by omega) (by omega) (by omega), by simp [Price.exch, hl], hb.2, ?_⟩
  have h2 := hb.2
  rw [earns_dot, earns_dot, dot_exch id (rate fall) prices plan i k (by omega) (by omega) (by omega) hpl] at h2
  unfold pot
  rw [dot_exch (rankP prices) (rankR fall bought.length) prices plan i k (by omega) (by omega) (by omega) hpl]
  simp only [id] at h2
  have hmi : prices.getD i 0 ∈ prices := getD_mem (by omega)
  have hmk : prices.getD k 0 ∈ prices := getD_mem (by omega)
  have hwi := hP.weeks _ (getD_mem (plan := plan) (i := i) (by omega))
  have hwk := hP.weeks _ (getD_mem (plan := plan) (i := k) (by omega))
  have hup : ∀ x, -1 ≤ x → x < (bought.length : Int) → 0 < rate fall x → x ∈ upTo bought.length := fun x h1 h2 h3 => upTo_mem (by
    by_cases e : x = -1
    · rw [e, rate_none] at h3; omega
    · omega) h2
  rcases mul_pos_cases (by omega : 0 < (prices.getD i 0 - prices.getD k 0) * (rate fall (plan.getD k 0) - rate fall (plan.getD i 0))) with ⟨h3, h4⟩ | ⟨h3, h4⟩
  · have h5 := rankP_lt (ps := prices) (by omega : prices.getD k 0 < prices.getD i 0) hmi
    have h6 := rankR_lt (n := bought.length) (by omega : rate fall (plan.getD i 0) < rate fall (plan.getD k 0)) (hup _ hwk.1 hwk.2 (by have := rate_nonneg (fall := fall) (a := plan.getD i 0); omega))
    have := Int.mul_le_mul (a := 1) (b := 1) (by omega : (1 : Int) ≤ rankP prices (prices.getD i 0) - rankP prices (prices.getD k 0)) (by omega : (1 : Int) ≤ rankR fall bought.length (plan.getD k 0) - rankR fall bought.length (plan.getD i 0)) (by omega) (by omega)
    omega
  · have h5 := rankP_lt (ps := prices) (by omega : prices.getD i 0 < prices.getD k 0) hmk
    have h6 := rankR_lt (n := bought.length) (by omega : rate fall (plan.getD k 0) < rate fall (plan.getD i 0)) (hup _ hwi.1 hwi.2 (by have := rate_nonneg (fall := fall) (a := plan.getD k 0); omega))
    have h7 := Int.mul_le_mul (a := 1) (b := 1) (by omega : (1 : Int) ≤ rankP prices (prices.getD k 0) - rankP prices (prices.getD i 0)) (by omega : (1 : Int) ≤ rankR fall bought.length (plan.getD i 0) - rankR fall bought.length (plan.getD k 0)) (by omega) (by omega)
    rw [← Int.neg_sub (rankP prices (prices.getD k 0)), ← Int.neg_sub (rankR fall bought.length (plan.getD i 0)), Int.neg_mul_neg]
    omega
theorem Shop.move {fall : Int} {bought prices plan : List Int} {stock : List Piece} (h : Shop fall bought prices stock) (hP : Plan bought plan) (hl : plan.length = stock.length) {i k : Nat} (hi : i < stock.length) (hk : k < bought.length) (hb : betterMove fall bought prices plan i k = true) :
    Plan bought (plan.set i k) ∧ (plan.set i (k : Int)).length = stock.length ∧ earns fall prices plan < earns fall prices (plan.set i k) ∧ pot fall bought.length prices plan + 1 ≤ pot fall bought.length prices (plan.set i k) := by
  have hpl : prices.length = plan.length := by rw [hl, h.len]
  unfold betterMove at hb
  rw [Bool.and_eq_true, decide_eq_true_eq] at hb
  refine ⟨hP.set hk hb.1, by simp [hl], hb.2, ?_⟩
  have h2 := hb.2
  rw [earns_dot, earns_dot, dot_set id (rate fall) prices plan i k (by omega) hpl] at h2
  unfold pot
  rw [dot_set (rankP prices) (rankR fall bought.length) prices plan i k (by omega) hpl]
  simp only [id] at h2
  have hmi : prices.getD i 0 ∈ prices := getD_mem (by omega)
  have hpb := h.bnd _ hmi
  rcases mul_pos_cases (by omega : 0 < prices.getD i 0 * (rate fall k - rate fall (plan.getD i 0))) with ⟨h3, h4⟩ | ⟨h3, _⟩
  · have h5 := rankP_pos hmi
    have h6 := rankR_lt (n := bought.length) (by omega : rate fall (plan.getD i 0) < rate fall k) (upTo_mem (by omega) (by omega))
    have := Int.mul_le_mul (a := 1) (b := 1) h5 (by omega : (1 : Int) ≤ rankR fall bought.length k - rankR fall bought.length (plan.getD i 0)) (by omega) (by omega)
    omega
  · omega
theorem Shop.best {fall : Int} {bought prices : List Int} {stock : List Piece} (h : Shop fall bought prices stock) : Plan bought (bestPlan prices bought) ∧ (bestPlan prices bought).length = stock.length := by
  obtain ⟨h1, h2, _⟩ := best_ok h.fall0 (prices := prices) h.pos
  exact ⟨h2, by rw [h1, h.len]⟩
theorem Shop.most {fall : Int} {bought prices plan : List Int} {stock : List Piece} (h : Shop fall bought prices stock) (hP : Plan bought plan) (hl : plan.length = stock.length) : earns fall prices plan ≤ earns fall prices (bestPlan prices bought) :=
  best_most h.fall0 h.pos h.bnd hP (by rw [hl, h.len])
theorem Shop.best_exch {fall : Int} {bought prices : List Int} {stock : List Piece} (h : Shop fall bought prices stock) : searchIK (betterExch fall stock prices (bestPlan prices bought)) stock.length 0 stock.length = none := by
  cases hs : searchIK (betterExch fall stock prices (bestPlan prices bought)) stock.length 0 stock.length with
  | none => rfl
  | some ab =>
    obtain ⟨a, b⟩ := ab
    obtain ⟨_, _, h3, h4, h5⟩ := searchIK_some _ _ _ _ hs
    obtain ⟨k1, k2, k3, _⟩ := h.exch h.best.1 h.best.2 h3 h4 h5
    have := h.most k1 k2
    omega
theorem Shop.best_move {fall : Int} {bought prices : List Int} {stock : List Piece} (h : Shop fall bought prices stock) : searchIW (betterMove fall bought prices (bestPlan prices bought)) bought.length 0 stock.length = none := by
  cases hs : searchIW (betterMove fall bought prices (bestPlan prices bought)) bought.length 0 stock.length with
  | none => rfl
  | some ab =>
    obtain ⟨a, b⟩ := ab
    obtain ⟨_, h2, h3, h5⟩ := searchIW_some _ _ _ _ hs
    obtain ⟨k1, k2, k3, _⟩ := h.move h.best.1 h.best.2 (by omega) h3 h5
    have := h.most k1 k2
    omega
theorem Shop.none_most {fall : Int} {bought prices plan : List Int} {stock : List Piece} (h : Shop fall bought prices stock) (hP : Plan bought plan) (hl : plan.length = stock.length) (he : searchIK (betterExch fall stock prices plan) stock.length 0 stock.length = none) (hm : searchIW (betterMove fall bought prices plan) bought.length 0 stock.length = none) :
    earns fall prices plan = earns fall prices (bestPlan prices bought) := by
  have hpl : prices.length = plan.length := by rw [hl, h.len]
  have hL := loc_of_none hP hpl h.len h.same (fun i k hik hk => searchIK_none _ _ he i k (by omega) (by omega) hik hk) (fun i k hi hk => searchIW_none _ _ hm i k (by omega) (by omega) hk)
  have h1 := loc_best h.fall0 h.bnd hP hL h.best.1 hpl (by rw [h.best.2, h.len])
  have h2 := h.most hP hl
  omega
theorem stocked_map {l : List Rule} : ∀ ps, (stocked l ps).2 = 0 → (stocked l ps).1 = ps.map (fun q => (priced l q).1) := by
  intro ps
  induction ps with
  | nil => intro _; rfl
  | cons q ps ih =>
    intro h
    simp only [stocked] at h ⊢
    split at h
    · split at h
      · rename_i h1 h2
        rw [if_pos h1, if_pos h2, ih h]; rfl
      · rename_i h1 h2; exact absurd h h2
    · cases h
theorem shop_of {l : List Rule} {fall : Int} {bought : List Int} {stock : List Piece} (h : openErr l fall bought stock = 0) : Shop fall bought (stocked l stock).1 stock := by
  have ho := openErr_ok h
  refine ⟨ho.hfall0, ho.hweeks1, fun m hm => (ho.hbought m hm).1, ho.hlength.symm, ho.hstock, ho.hprices, fun i k hi hk he => ?_⟩
  rw [stocked_map stock ho.hok, List.getD_eq_getElem?_getD, List.getD_eq_getElem?_getD, List.getElem?_map, List.getElem?_map, he]
theorem planErr_plan {l : List Rule} {fall : Int} {bought : List Int} {stock : List Piece} {plan : List Int} (h : openErr l fall bought stock = 0) (hl : plan.length = stock.length) (hP : Plan bought plan) : planErr l fall bought stock plan = 0 := by
  unfold planErr
  rw [if_pos h, if_pos hl, if_pos, if_pos hP.room]
  simp only [List.all_eq_true, inB, Bool.and_eq_true, decide_eq_true_eq]
  exact fun x hx => by have := hP.weeks x hx; omega
theorem dupIn_nodup : ∀ (l pre : List Rule), l.Nodup → (∀ r ∈ l, r ∉ pre) → dupIn pre l = false := by
  intro l
  induction l with
  | nil => intro pre _ _; rfl
  | cons r l ih =>
    intro pre hn hp
    have hn' := List.nodup_cons.1 hn
    simp only [dupIn, Bool.or_eq_false_iff]
    refine ⟨by simpa using hp r List.mem_cons_self, ih _ hn'.2 fun q hq hm => ?_⟩
    rcases List.mem_append.1 hm with hm | hm
    · exact hp q (List.mem_cons_of_mem _ hq) hm
    · rw [List.mem_singleton] at hm
      subst hm
      exact hn'.1 hq
theorem check_nodup {l : List Rule} (hl : l.length ≤ 8) (hn : l.Nodup) (ha : ∀ r ∈ l, allowed r = true) : check l = 0 := by
  unfold check
  rw [if_neg (by omega), if_pos (List.all_eq_true.2 ha), dupIn_nodup l [] hn fun r _ h => (by cases h)]; rfl
/-- What the statements' Made makes. -/
structure MadeOk (n : Nat) (l : List Rule) : Prop where
  len : l.length ≤ n
  nodup : l.Nodup
  ok : ∀ r ∈ l, allowed r = true ∧ 10 ≤ r.p ∧ r.p ≤ 14
theorem MadeOk.last {n : Nat} {l : List Rule} (h : MadeOk n l) (hn : n ≤ 7) {p : Int} (hp : 15 ≤ p ∧ p ≤ 500) : check (l ++ [⟨-1, -1, -1, p⟩]) = 0 := by
  have h1 := h.len
  refine check_nodup (by simp; omega) (List.nodup_append.2 ⟨h.nodup, by simp, fun r hr q hq e => ?_⟩) fun r hr => ?_
  · rw [List.mem_singleton.1 hq] at e
    have := (h.ok r hr).2
    rw [e] at this
    dsimp only at this
    omega
  · rcases List.mem_append.1 hr with hr | hr
    · exact (h.ok r hr).1
    · rw [List.mem_singleton.1 hr]
      simp [allowed, inB]; omega
theorem stocked_clash {l : List Rule} (hc : check l = 0) : ∀ (stock : List Piece), (∀ q ∈ stock, isP q = true ∧ ((lawPriced l q).2 = 0 ∨ (lawPriced l q).2 = 7)) → (stocked l stock).2 = 0 ∨ (stocked l stock).2 = 7 := by
  intro stock
  induction stock with
  | nil => intro _; exact .inl rfl
  | cons q stock ih =>
    intro h
    have h1 := h q List.mem_cons_self
    rw [lawPriced_eq fun r hr => (check_prices hc r hr).1] at h1
    have h2 := ih fun x hx => h x (List.mem_cons_of_mem _ hx)
    simp only [stocked, h1.1, if_true]
    split
    · exact h2
    · exact h1.2
theorem open_clash {l : List Rule} {fall : Int} {bought : List Int} {stock : List Piece} (hc : check l = 0) (hf : 0 ≤ fall ∧ fall ≤ 30) (hl : 1 ≤ bought.length ∧ bought.length ≤ 8) (hb : ∀ m ∈ bought, 0 ≤ m ∧ m ≤ 9) (hs : stock.length ≤ 10) (hp : ∀ q ∈ stock, isP q = true ∧ ((lawPriced l q).2 = 0 ∨ (lawPriced l q).2 = 7)) :
    openErr l fall bought stock = 0 ∨ openErr l fall bought stock = 7 := by
  have h1 : checkSale fall bought = 0 := by
    unfold checkSale
    rw [if_pos (by simp [inB]; omega), if_pos]
    simp only [Bool.and_eq_true, List.all_eq_true]
    exact ⟨by simp [inB]; omega, fun x hx => by have := hb x hx; simp [inB]; omega⟩
  unfold openErr
  rw [if_pos hc, if_pos h1, if_pos hs]
  exact stocked_clash hc stock hp
end Price
end Go.Proofs.YtkailkfiakagfaaGreat
