/- Package file: the longest common pairs, from two positions on. Conditions: files that are right, in the boxes that the caller makes. -/
import Derived.Test.YtekkhnjepcebkaaGreatDoorFlH
set_option linter.unusedVariables false
set_option linter.unusedSimpArgs false
namespace Go.Proofs.YtekkhnjepcebkaaGreatDoor
namespace Fl
open Go.RowKit Go.Maps Go.WideMaps Go.ChangeShapes
set_option maxRecDepth 100000
abbrev bp (b : Nat) : Value := .pointer (some ⟨b, 0, none⟩)
def pairE : Enc (Nat × Nat) := ⟨fun p => [iv (p.1 : Int), iv (p.2 : Int)], 2, fun _ => rfl, fun _ u h => by simp at h; rcases h with rfl | rfl <;> rfl, by decide⟩
theorem tyPairs : SlTy Tryz.prog 134 137 2 := slTy_of (z := .agg #[iv 0, iv 0]) (bytes := 16) Tryz.underlying134 (by kernel_rfl) rfl (by decide)
/-- The places of a line, as natural numbers. -/
def posN (s : ByteArray) : List ByteArray → Nat → List Nat
  | [], _ => []
  | x :: l, i => if x = s then i :: posN s l (i + 1) else posN s l (i + 1)
theorem posOf_eq (s : ByteArray) : ∀ (l : List ByteArray) (i : Nat), posOf s l i = (posN s l i).map fun (n : Nat) => (n : Int) := by
  intro l
  induction l with
  | nil => intro i; rfl
  | cons x l ih => intro i; unfold posOf posN; rw [ih]; split <;> rfl
theorem posN_lt {s : ByteArray} : ∀ (l : List ByteArray) (i : Nat), ∀ y ∈ posN s l i, y < i + l.length := by
  intro l
  induction l with
  | nil => intro i y h; cases h
  | cons x l ih =>
    intro i y h
    unfold posN at h
    rw [List.length_cons]
    split at h
    · rcases List.mem_cons.1 h with h | h
      · omega
      · have := ih _ _ h; omega
    · have := ih _ _ h; omega
theorem posN_length {s : ByteArray} : ∀ (l : List ByteArray) (i : Nat), (posN s l i).length ≤ l.length := by
  intro l
  induction l with
  | nil => intro i; exact Nat.le_refl _
  | cons x l ih =>
    intro i
    unfold posN
    have := ih (i + 1)
    split
    · simpa using this
    · rw [List.length_cons]; omega
/-- The test of the search. -/
def test (a b : List ByteArray) (F x j y : Nat) : Bool := decide (j ≤ y) && (decide (0 < F) && decide (File.from_ a b (x + 1) (y + 1) + 1 = F))
theorem fits_test {a b : List ByteArray} {F x j y : Nat} {s t : ByteArray} (hx : a[x]? = some s) (hy : b[y]? = some t) (hj : j ≤ y) : File.fits a b F x y = (decide (t = s) && test a b F x j y) := by
  obtain ⟨hx1, hx2⟩ := List.getElem?_eq_some_iff.1 hx
  obtain ⟨hy1, hy2⟩ := List.getElem?_eq_some_iff.1 hy
  rw [Bool.eq_iff_iff, File.fits_iff]
  unfold test
  simp only [Bool.and_eq_true, decide_eq_true_eq]
  constructor
  · rintro ⟨_, _, h1, h2⟩
    rw [hx2, hy2] at h1
    exact ⟨h1.symm, hj, by omega, h2⟩
  · rintro ⟨h1, _, _, h2⟩
    exact ⟨hx1, hy1, by rw [hx2, hy2, h1], h2⟩
theorem find_row {a b : List ByteArray} {F x j : Nat} {s : ByteArray} (hx : a[x]? = some s) : ∀ (n y : Nat), y + n = b.length → j ≤ y → (posN s (b.drop y) y).find? (test a b F x j) = File.rowFirst a b F x n y := by
  intro n
  induction n with
  | zero => intro y hy _; rw [List.drop_of_length_le (by omega)]; rfl
  | succ n ih =>
    intro y hy hj
    have hyl : y < b.length := by omega
    rw [List.drop_eq_getElem_cons hyl]
    unfold posN File.rowFirst
    rw [fits_test (j := j) hx (List.getElem?_eq_getElem hyl) hj, ← ih (y + 1) (by omega) (by omega)]
    by_cases h : b[y] = s
    · simp only [h, if_true, decide_true, Bool.true_and, List.find?_cons]
      split
      · rename_i h1; rw [if_pos (by simpa using h1)]
      · rename_i h1; rw [if_neg (by simpa using h1)]
    · simp [h]
theorem find_from {a b : List ByteArray} {F x j : Nat} {s : ByteArray} : ∀ (n y : Nat), y + n = j → j ≤ b.length → (posN s (b.drop y) y).find? (test a b F x j) = (posN s (b.drop j) j).find? (test a b F x j) := by
  intro n
  induction n with
  | zero => intro y hy _; rw [Nat.add_zero] at hy; rw [hy]
  | succ n ih =>
    intro y hy hj
    rw [List.drop_eq_getElem_cons (by omega), ← ih (y + 1) (by omega) hj]
    rw [posN]
    split
    · rw [List.find?_cons, show test a b F x j y = false by unfold test; rw [decide_eq_false (by omega), Bool.false_and]]
    · rfl
theorem find_pos {a b : List ByteArray} {F x j : Nat} {s : ByteArray} (hx : a[x]? = some s) (hj : j ≤ b.length) : (posN s b 0).find? (test a b F x j) = File.rowFirst a b F x (b.length - j) j := by
  rw [← find_row hx (b.length - j) j (by omega) (Nat.le_refl _), ← find_from j 0 (by omega) hj, List.drop_zero]
/-- where[s], read. -/
theorem Where.look {w : World} {m B : Nat} {l : List ByteArray} (h : Where w m B l) (hl : l.length < maxLen) (s : ByteArray) (hs : s.size ≤ maxLen) :
    ∃ A c, (Instr.lookup 207 (.map (some m)) (.string s) false).run Tryz.prog w = .ok (.slice A (posN s l 0).length c) w ∧ Sl intE w A ((posN s l 0).map fun (n : Nat) => (n : Int)) := by
  obtain ⟨n, D, h1, h2, h3⟩ := h
  obtain ⟨v, zs, hrun, hat, hoi, _, _⟩ := h2.at laws Tryz.underlying207 (zeroInts _) (by omega) (key_str hs)
  have hz : posOf s l 0 = zs := (h3 s hs).unique (by rw [hat]; exact reads_of hoi)
  have hfl : ∀ zs : List Int, zs.flatMap intE.cells = zs.map (Value.int .i64) := by
    intro zs
    induction zs with
    | nil => rfl
    | cons z zs ih => rw [List.flatMap_cons, List.map_cons, ← ih]; rfl
  have ho : Own intE 3 B w v zs := by
    unfold Own
    rw [hfl]
    exact hoi.1
  rw [← posOf_eq, hz, show (posN s l 0).length = zs.length by rw [← hz, posOf_eq, List.length_map]]
  obtain ⟨A, c, rfl, _, _⟩ := ho.form
  exact ⟨A, c, hrun, ho.sl⟩
/-- What the search stands on: a fixed world w0, the boxes before it. -/
structure Scene (w0 : World) (p2 p5 p6 g m B : Nat) (A : Option Addr) (c : Nat) (a b : List ByteArray) : Prop where
  la : a.length ≤ 24
  lb : b.length ≤ 24
  sm : ∀ s ∈ a, s.size ≤ 1000
  b5 : Blk w0 p5 205 #[bp g]
  b2 : Blk w0 p2 22 #[.slice A a.length c]
  b6 : Blk w0 p6 207 #[.map (some m)]
  grid : Grid w0 g (File.from_ a b)
  gl : g < w0.heap.size
  wh : Where w0 m B b
  sa : Sl strE w0 A a
set_option maxHeartbeats 4000000 in
theorem more_spec {w0 : World} {p2 p5 p6 g m B : Nat} {A : Option Addr} {c : Nat} {a b : List ByteArray} (HS : Hid (Scene w0 p2 p5 p6 g m B A c a b)) : ∀ (n i j : Nat) (acc : List (Nat × Nat)) (v : Value) (w : World), a.length - i < n → i ≤ a.length → j ≤ b.length → acc.length + a.length ≤ 100 + i →
    Below w0.heap.size w0 w → Blk w w0.heap.size 134 #[v] → Blk w (w0.heap.size + 1) 208 #[.func (.func 149) #[] #[bp p5, bp p2, bp p6, bp w0.heap.size, bp (w0.heap.size + 1)]] → Own pairE 137 (w0.heap.size + 2) w v acc →
    Calls Tryz.prog 149 #[.agg #[iv (i : Int), iv (j : Int)], bp p5, bp p2, bp p6, bp w0.heap.size, bp (w0.heap.size + 1)] w fun e w' => e = .returned (.tuple #[]) ∧ Below w0.heap.size w0 w' ∧ ∃ v', Blk w' w0.heap.size 134 #[v'] ∧ Own pairE 137 (w0.heap.size + 2) w' v' (acc ++ File.commonGo a b n i j) := by
  intro n
  induction n with
  | zero => intro i j acc v w h; omega
  | succ n ih =>
    intro i j acc v w hn hi hj hacc hb0 ho hf hown
    have IH := Lib.hid ih
    have hla := HS.out.la
    have hlb := HS.out.lb
    have hgl := HS.out.gl
    have h2l := HS.out.b2.lt
    have h5l := HS.out.b5.lt
    have h6l := HS.out.b6.lt
    have hw0 := hb0.size
    have hol := ho.lt
    have hfl := hf.lt
    have hB1 : Below w.heap.size w (w.alloc (.cells #[iv (i : Int), iv (j : Int)] 137)) := (Below.refl _ _).alloc (Nat.le_refl _) _
    have hat : Blk (w.alloc (.cells #[iv (i : Int), iv (j : Int)] 137)) w.heap.size 137 #[iv (i : Int), iv (j : Int)] := Blk.new _ _ _
    have hil : (i : Int) < 25 := by omega
    have hjl : (j : Int) < 25 := by omega
    clear ih
    go_enter Tryz.func149, Tryz.ntmps149
    go_wp2_with fail
    generalize w.alloc (.cells #[iv (i : Int), iv (j : Int)] 137) = w1 at *
    have hb1 : Below w0.heap.size w0 w1 := hb0.next hB1 (Nat.le_refl _)
    have c5 := (HS.out.b5.under hb1).cell 0
    have cg := (HS.out.grid.below hb1).cell (i := i) (j := j) (by omega) (by omega)
    have ca := hat.cell 0
    have cb := hat.cell 1
    obtain ⟨F, hF⟩ : ∃ F, F = File.from_ a b i j := ⟨_, rfl⟩
    rw [← hF] at cg
    have HF := Lib.hid hF
    clear hF
    go_quiet (fail)
    have hd1 : Below w1.heap.size w1 (w1.drewN nq) := ⟨rfl, rfl, rfl, Nat.le_refl _, fun _ _ => rfl⟩
    have hB2 : Below w.heap.size w (w1.drewN nq) := hB1.next hd1 (Nat.le_refl _)
    have hatA := hat.under hd1
    have zs1 : w1.heap.size = (w1.drewN nq).heap.size := rfl
    clear hd1 hat ca cb cg c5 hb1 hB1
    generalize w1.drewN nq = wA at *
    clear zs1
    have hatc := hatA.cell 0
    have hzA := hB2.size
    have hatl := hatA.lt
    go_wp2_with fail
    go_loopw [8] (fun u wr => ∃ x : Nat, i ≤ x ∧ x ≤ a.length ∧ u = iv (x : Int) ∧ Hid (File.firstGo a b F j (a.length - x) x = File.first a b i j) ∧ Below wA.heap.size wA wr) (fun u _ => a.length - (intOf u).toNat)
    case atStart => exact ⟨i, Nat.le_refl _, hi, rfl, by rw [HF.out]; rfl, Below.refl _ _⟩
    case round =>
      obtain ⟨x, hix, hxa, rfl, HG, hbr⟩ := hrel
      have hbw : Below w0.heap.size w0 wr := hb0.next (hB2.next hbr (Nat.le_refl _)) (Nat.le_refl _)
      have c2 := (HS.out.b2.under hbw).cell 0
      have c6 := (HS.out.b6.under hbw).cell 0
      by_cases hlt : x < a.length
      · obtain ⟨ba, off, s, rfl, hba, hx, hc0⟩ := Sl.atS (HS.out.sa.below hbw) hlt
        have hsm : s.size ≤ maxLen := by have := HS.out.sm s (List.mem_of_getElem? hx); unfold maxLen; omega
        have hbd : Below w0.heap.size w0 wr.drew := hbw.drew
        obtain ⟨Z, cz, hrun, hZ⟩ := Where.look (HS.out.wh.below hbd) (by unfold maxLen; omega) s hsm
        obtain ⟨ys, hys⟩ : ∃ ys, ys = posN s b 0 := ⟨_, rfl⟩
        rw [← hys] at hrun hZ
        have hyb : Hid (∀ y ∈ ys, y < b.length) := Lib.hid fun y hy => by have := posN_lt b 0 y (by rw [← hys]; exact hy); omega
        have hyl : ys.length ≤ 1000000 := by rw [hys]; have := posN_length (s := s) b 0; omega
        have HR : Hid (ys.find? (test a b F x j) = File.rowFirst a b F x (b.length - j) j) := Lib.hid (by rw [hys]; exact find_pos hx hj)
        have HZ := Lib.hid hZ
        have r2 : wr.drew.cell? ⟨p2, 0, none⟩ = some (.slice (some ⟨ba, off, none⟩) a.length c) := (HS.out.b2.under hbd).cell 0
        have r6 : wr.drew.cell? ⟨p6, 0, none⟩ = some (.map (some m)) := (HS.out.b6.under hbd).cell 0
        have r0 : wr.drew.cell? ⟨ba, off + x, none⟩ = some (.string s) := hc0
        clear hys hZ
        go_upto_region 5 with fail
        clear c2 c6 hc0
        go_region_held3 (fun w => w.cell? ⟨p2, 0, none⟩ = some (.slice (some ⟨ba, off, none⟩) a.length c) ∧ w.cell? ⟨p6, 0, none⟩ = some (.map (some m)) ∧ w.cell? ⟨ba, off + x, none⟩ = some (.string s)) (first | assumption | exact ⟨r2, r6, r0⟩) (fail)
        clear r2 r6 r0 hrun
        have hbr2 : Below wA.heap.size wA wr.drew := hbr.drew
        clear hbw hbr
        generalize wr.drew = wC at *
        go_wp2_with fail
        go_loopw [36] (fun u wr => ∃ q : Nat, q ≤ ys.length ∧ u = iv (q : Int) ∧ Hid ((ys.drop q).find? (test a b F x j) = File.rowFirst a b F x (b.length - j) j) ∧ Below wC.heap.size wC wr) (fun u _ => ys.length - (intOf u).toNat)
        case atStart => exact ⟨0, Nat.zero_le _, rfl, HR, Below.refl _ _⟩
        case round =>
          obtain ⟨q, hq, rfl, HQ, hbq⟩ := hrel
          by_cases hql : q < ys.length
          · obtain ⟨y, hy⟩ : ∃ y, ys[q]? = some y := ⟨_, List.getElem?_eq_getElem hql⟩
            have hyb2 := hyb.out y (List.mem_of_getElem? hy)
            obtain ⟨bz, oz, z, rfl, hbz, hz, hcz⟩ := Sl.atI (HZ.out.below hbq) (k := q) (by simpa using hql)
            rw [List.getElem?_map, hy] at hz
            simp only [Option.map_some, Option.some.injEq] at hz
            subst hz
            have hbR : Below wA.heap.size wA wr := hbr2.next hbq (Nat.le_refl _)
            have hbW : Below w.heap.size w wr := hB2.next hbR (Nat.le_refl _)
            have hb0W : Below w0.heap.size w0 wr := hb0.next hbW (Nat.le_refl _)
            have HBR := Lib.hid hbR
            have HBW := Lib.hid hbW
            have HB0W := Lib.hid hb0W
            have hzr := hbR.size
            have q0 := (hatA.under hbR).cell 0
            have q1 := (hatA.under hbR).cell 1
            have hwr : w.heap.size < wr.heap.size := by omega
            have HYN : Hid (ys.find? (test a b F x j) = ys.find? (test a b F x j)) := rfl
            have hd : ys.drop q = y :: ys.drop (q + 1) := by rw [drop_at hy]
            have HQ2 : Hid ((if test a b F x j y then some y else (ys.drop (q + 1)).find? (test a b F x j)) = File.rowFirst a b F x (b.length - j) j) := by
              have := HQ.out
              rw [hd, List.find?_cons] at this
              split <;> simp_all
            clear HYN hd HQ hbR hbW hb0W
            have hF24 : F ≤ 24 := by rw [HF.out]; exact Nat.le_trans (File.from_le a b i j) hla
            obtain ⟨G, hG⟩ : ∃ G, G = File.from_ a b (x + 1) (y + 1) := ⟨_, rfl⟩
            have cgr := (HS.out.grid.below HB0W.out).cell (i := x + 1) (j := y + 1) (by omega) (by omega)
            rw [← hG] at cgr
            have HT : Hid (test a b F x j y = (decide (j ≤ y) && (decide (0 < F) && decide (G + 1 = F)))) := Lib.hid (by unfold test; rw [← hG])
            have c5 := (HS.out.b5.under HB0W.out).cell 0
            have c9 := (Blk.under ho HBW.out).cell 0
            have hNb : Below wr.heap.size wr (wr.alloc (.cells #[Value.int .i64 (x : Int), Value.int .i64 (y : Int)] 137)) := (Below.refl _ _).alloc (Nat.le_refl _) _
            have hNx : Blk (wr.alloc (.cells #[Value.int .i64 (x : Int), Value.int .i64 (y : Int)] 137)) wr.heap.size 137 #[iv (x : Int), iv (y : Int)] := Blk.new _ _ _
            have d5 := hNb.cell (p := ⟨p5, 0, none⟩) (by show p5 < _; omega)
            have dg := hNb.cell (p := ⟨g, (x + 1) * 25 + (y + 1), none⟩) (by show g < _; omega)
            have dq := hNb.cell (p := ⟨w.heap.size, 1, none⟩) hwr
            rw [c5] at d5
            rw [cgr] at dg
            rw [q1] at dq
            have e1 : IntKind.i64.wrap ((x : Int) + 1) = ((x + 1 : Nat) : Int) := IntWalk.i64_in _ (by omega)
            have e2 : IntKind.i64.wrap ((y : Int) + 1) = ((y + 1 : Nat) : Int) := IntWalk.i64_in _ (by omega)
            have e3 : IntKind.i64.wrap ((F : Int) - 1) = (F : Int) - 1 := IntWalk.i64_in _ (by omega)
            have hpl1 : (x : Int) + 1 < 25 := by omega
            have hql1 : (y : Int) + 1 < 25 := by omega
            have hpl0 : (0 : Int) ≤ (x : Int) + 1 := by omega
            have hql0 : (0 : Int) ≤ (y : Int) + 1 := by omega
            have hpt : ((x : Int) + 1).toNat = x + 1 := by omega
            have hqt : ((y : Int) + 1).toNat = y + 1 := by omega
            go_upto_region 9 with fail
            generalize wr.alloc (.cells #[Value.int .i64 (x : Int), Value.int .i64 (y : Int)] 137) = wN at *
            have HBN : Hid (Below wC.heap.size wC wN) := Lib.hid (hbq.next hNb (Nat.le_refl _))
            have HNB := Lib.hid hNb
            clear hG cgr c5 q0 q1 hcz hNb hbq
            by_cases h1 : (j : Int) ≤ (y : Int)
            · by_cases h2 : (0 : Int) < (F : Int)
              · by_cases h3 : (G : Int) = (F : Int) - 1
                · have HFst : Hid (some (x, y) = File.first a b i j) := by
                    have h0 := HQ2.out
                    rw [HT.out, decide_eq_true (by omega : j ≤ y), decide_eq_true (by omega : 0 < F), decide_eq_true (by omega : G + 1 = F), if_pos (by rfl)] at h0
                    have := HG.out
                    rw [show a.length - x = (a.length - (x + 1)) + 1 by omega] at this
                    unfold File.firstGo at this
                    rw [← h0] at this
                    exact this
                  have hWN : Below w.heap.size w wN := HBW.out.next HNB.out (Nat.le_refl _)
                  have HWN := Lib.hid hWN
                  have HON := Lib.hid (hown.below hWN)
                  have B9 := Blk.under ho hWN
                  have d9 := B9.cell 0
                  have BF := Blk.under hf hWN
                  have hNs := hNx.cell
                  have hN0 := hNs 0
                  have hN1 := hNs 1
                  have hzN := hWN.size
                  have hal : acc.length + 1 ≤ big := by unfold big; omega
                  have HLN : Hid ((acc ++ [(x, y)]).length = acc.length + 1) := Lib.hid (by rw [List.length_append]; rfl)
                  have HIn : Hid (a.length - (x + 1) < n) := Lib.hid (by omega)
                  have HIa : Hid ((acc ++ [(x, y)]).length + a.length ≤ 100 + (x + 1)) := Lib.hid (by rw [List.length_append]; simp; omega)
                  clear HQ2 HT HR HG hWN
                  go_wp2_with (first
                    | (at_builtin; refine wpApp1 pairE tyPairs rfl _ _ rfl HON.out (x, y) rfl rfl rfl (by omega) hal ?_; intro v1 w2 hown1 hb1 hk1; obtain ⟨A6, k6, rfl, hc6, hm6⟩ := hown1.form; rw [HLN.out] at hown1; have hne : ∀ k, k < w0.heap.size + 2 → v.ownBlock ≠ some k := (fun k hk e => by have := (HON.out.lt k e).1; omega); have C9 : Blk w2 w0.heap.size 134 #[v] := (hk1 _ B9.lt (hne _ (by omega))).trans B9; have CF : Blk w2 (w0.heap.size + 1) 208 #[.func (.func 149) #[] #[bp p5, bp p2, bp p6, bp w0.heap.size, bp (w0.heap.size + 1)]] := (hk1 _ BF.lt (hne _ (by omega))).trans BF; have m9 := C9.cell 0; have f9 := C9.frozen 0; have mF := (CF.far (p := ⟨w0.heap.size, 0, none⟩) (by show w0.heap.size + 1 ≠ w0.heap.size; omega) (.slice A6 (acc.length + 1) k6)).cell 0; have HC9 := Lib.hid C9; have HCF := Lib.hid CF; have HK1 := Lib.hid hk1; have HB1 := Lib.hid hb1; have HO1 := Lib.hid hown1; clear C9 CF hk1 hb1 hown1))
                  have hB3 : Below w0.heap.size w0 (w2.setCell ⟨w0.heap.size, 0, none⟩ (.slice A6 (acc.length + 1) k6)) :=
                    ((hb0.next HWN.out (Nat.le_refl _)).trans (HB1.out.mono (by omega))).setCell (p := ⟨w0.heap.size, 0, none⟩) (Nat.le_refl _) _
                  have hO3 : Blk (w2.setCell ⟨w0.heap.size, 0, none⟩ (.slice A6 (acc.length + 1) k6)) w0.heap.size 134 #[.slice A6 (acc.length + 1) k6] := HC9.out.set_ 0 _
                  have hF3 := HCF.out.far (p := ⟨w0.heap.size, 0, none⟩) (by show w0.heap.size + 1 ≠ w0.heap.size; omega) (.slice A6 (acc.length + 1) k6)
                  have hW3 := Own.setCell HO1.out (p := ⟨w0.heap.size, 0, none⟩) (by show w0.heap.size < _; omega) (.slice A6 (acc.length + 1) k6)
                  refine (IH.out (x + 1) (y + 1) (acc ++ [(x, y)]) _ _ HIn.out (by omega) (by omega) HIa.out hB3 hO3 hF3 hW3).mono ?_
                  rintro e w4 ⟨rfl, hb4, v4, hv4, hw4⟩
                  have hcm : File.commonGo a b (n + 1) i j = (x, y) :: File.commonGo a b n (x + 1) (y + 1) := by
                    rw [File.commonGo, ← HFst.out]
                  rw [List.append_assoc] at hw4
                  have HW4 : Hid (Own pairE 137 (w0.heap.size + 2) w4 v4 (acc ++ File.commonGo a b (n + 1) i j)) := by rw [hcm]; exact hw4
                  clear hw4 hcm
                  go_wp2_with fail
                  first | (go_end0) | ((try simp only [Exit.inBlock, Exit.then]); refine bodyPost_ret (results_none rfl _ _ _) rfl ?_)
                  exact ⟨rfl, hb4, v4, hv4, HW4.out⟩
                · have HF3 : Hid ((ys.drop (q + 1)).find? (test a b F x j) = File.rowFirst a b F x (b.length - j) j) := by
                    have := HQ2.out
                    rw [HT.out, decide_eq_false (by omega : ¬ (G + 1 = F))] at this
                    refine Lib.hid ?_
                    simpa using this
                  clear HQ2 HT HR
                  go_wp2_with fail
                  go_roundw
                  case rel => exact ⟨q + 1, by omega, by go_num, HF3, HBN.out⟩
                  case measure => simp [intOf]; omega
              · have HF3 : Hid ((ys.drop (q + 1)).find? (test a b F x j) = File.rowFirst a b F x (b.length - j) j) := by
                  have := HQ2.out
                  rw [HT.out, decide_eq_false (by omega : ¬ (0 < F))] at this
                  refine Lib.hid ?_
                  simpa using this
                clear HQ2 HT HR
                go_wp2_with fail
                go_roundw
                case rel => exact ⟨q + 1, by omega, by go_num, HF3, HBN.out⟩
                case measure => simp [intOf]; omega
            · have HF3 : Hid ((ys.drop (q + 1)).find? (test a b F x j) = File.rowFirst a b F x (b.length - j) j) := by
                have := HQ2.out
                rw [HT.out, decide_eq_false (by omega : ¬ (j ≤ y))] at this
                refine Lib.hid ?_
                simpa using this
              clear HQ2 HT HR
              go_wp2_with fail
              go_roundw
              case rel => exact ⟨q + 1, by omega, by go_num, HF3, HBN.out⟩
              case measure => simp [intOf]; omega
          · have hqe : q = ys.length := by omega
            have HN : Hid (none = File.rowFirst a b F x (b.length - j) j) := by have := HQ.out; rw [List.drop_of_length_le (by omega)] at this; exact this
            clear HQ HR
            go_wp2_with fail
            go_roundw
            case rel =>
              refine ⟨x + 1, by omega, by omega, by go_num, ?_, hbr2.next hbq (Nat.le_refl _)⟩
              have := HG.out
              rw [show a.length - x = (a.length - (x + 1)) + 1 by omega] at this
              unfold File.firstGo at this
              rw [← HN.out] at this
              exact this
            case measure => simp [intOf]; omega
      · have hx : x = a.length := by omega
        subst hx
        have HN : Hid (none = File.first a b i j) := by have := HG.out; rw [Nat.sub_self] at this; exact this
        go_wp2_with fail
        go_end0
        refine ⟨rfl, hbw, v, Blk.under ho (hB2.next hbr (Nat.le_refl _)), ?_⟩
        have e : File.commonGo a b (n + 1) i j = [] := by unfold File.commonGo; rw [← HN.out]
        rw [e, List.append_nil]
        exact hown.below (hB2.next hbr (Nat.le_refl _))
end Fl
end Go.Proofs.YtekkhnjepcebkaaGreatDoor
